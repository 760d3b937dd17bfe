/- A graph of the program's and the document's, with the same commits. | varvelaw13.both: the contract. (printed by wip/tools/genboth.py) -/
import Derived.Test.YtbeblbgbngplhaaGreatRgE
import Derived.Test.YtbeblbgbngplhaaGreatGraC
import Derived.Test.YtbeblbgbngplhaaGreatBasB
import Derived.Test.YtbeblbgbngplhaaGreatRMbA
/- BothA -/
namespace Go.Proofs.YtbeblbgbngplhaaGreat
open Go.RowKit
set_option linter.unusedVariables false
set_option linter.unusedSimpArgs false

theorem InsTo.keep {w w' : World} {pg mb : Nat} {w0 : World} {m : Nat} {b : Bw} {L : List Cw} {vv : List Dt} {c : Cm} {e : Ending} (h : InsTo w pg mb w0 m b L vv c e w') {k : Nat} {o : Obj} (hk : w.heap[k]? = some o) (h1 : k ≠ pg) (h2 : k ≠ mb) : w'.heap[k]? = some o := by
  obtain ⟨_, ⟨_, hb⟩ | ⟨_, u, va', vc', _, _, hc⟩⟩ := h
  · exact (hb.block _ (heap_lt hk)).trans hk
  · exact (hc.block _ (heap_lt hk) (by simp; exact ⟨h1, h2⟩)).trans hk
end Go.Proofs.YtbeblbgbngplhaaGreat

/- Bo13 -/
namespace Go.Proofs.YtbeblbgbngplhaaGreat
open Go.RowKit
set_option linter.unusedVariables false
set_option linter.unusedSimpArgs false

end Go.Proofs.YtbeblbgbngplhaaGreat
