/- varveref12.Graph.Insert: the contract, with the word that its row is new (genrgn.py). | varveref36.Walk: the contract. | varveref36.Check, Salvage: the contracts (genaudn.py). | varveref36.Salvage: the contract (genaudo.py). -/
import Derived.Test.YtaandcblndldmaaGreatRgE
import Derived.Test.YtaandcblndldmaaGreatAudL
/- RgN -/
namespace Go.Proofs.YtaandcblndldmaaGreat
open Go.RowKit
set_option linter.unusedVariables false
set_option linter.unusedSimpArgs false

end Go.Proofs.YtaandcblndldmaaGreat

/- AudM -/
namespace Go.Proofs.YtaandcblndldmaaGreat
open Go.RowKit
set_option linter.unusedVariables false
set_option linter.unusedSimpArgs false
set_option linter.unnecessarySimpa false

section
variable {w wr w' : World} {v : Sw} {m pg : Nat} {S : List Cw} {la : Option Addr} {lc : Nat} {fa : Option Addr} {fc : Nat} {Fl : List Fw} {ga : Option Addr} {gc : Nat} {R : List Cw}
end
end Go.Proofs.YtaandcblndldmaaGreat

/- AudN -/
namespace Go.Proofs.YtaandcblndldmaaGreat
open Go.RowKit
set_option linter.unusedVariables false
set_option linter.unusedSimpArgs false

end Go.Proofs.YtaandcblndldmaaGreat

/- AudO -/
namespace Go.Proofs.YtaandcblndldmaaGreat
open Go.RowKit
set_option linter.unusedVariables false
set_option linter.unusedSimpArgs false

theorem held_2 {w w' : World} {q r : Nat} {C C' : Array Value} {t t' : TypeId} {fr fr' : Nat × Nat} (h : w.heap[q]? = some (.cells C t fr)) (h' : w'.heap[q]? = some (.cells C t fr)) (g : w.heap[r]? = some (.cells C' t' fr')) (g' : w'.heap[r]? = some (.cells C' t' fr')) : Held (fun k => k = q ∨ k = r) w w' := by
  refine .inr fun k o hk ho => ?_
  rcases hk with rfl | rfl
  · refine ⟨fun at_ u e => ?_, (h'.trans h.symm).trans ho⟩
    rw [h] at ho; rw [e] at ho; exact absurd (Option.some.inj ho) (by simp)
  · refine ⟨fun at_ u e => ?_, (g'.trans g.symm).trans ho⟩
    rw [g] at ho; rw [e] at ho; exact absurd (Option.some.inj ho) (by simp)
end Go.Proofs.YtaandcblndldmaaGreat
