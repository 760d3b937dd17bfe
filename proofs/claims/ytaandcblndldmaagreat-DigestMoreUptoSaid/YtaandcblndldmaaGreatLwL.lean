/- levels.of: the contract. | The page's example of levels, plainly: four commits. No program in sight. | Rows of levels, plainly: what they are when all dots are laid and each row is sorted. | levels.Levels: the contract. | The plain law of LevelsShape: levels rise by parents; those of one level are beside each other; the chain. No program in sight. | slices.MinFunc and slices.Reverse of dots, levels.Chain$1: the contracts. | slices.Reverse of dots: the contract. | levels.Chain$1: the contract. | levels.Chain: the contract. | order.Lacks$1, order.Lacks: the contracts. | varveref11.Same, SameAll where both are alike; varveref15.Lacks: the contracts. | varvelaw13.known | varvelaw15.both: the contract. (printed by wip/tools/genboth.py) | varvelaw15.known: the contract. | varvelaw13.BaseAncestors: the walk. (printed by wip/tools/genlwa.py) | varvelaw15.OrderLacks: the walk. -/
import Derived.Test.YtaandcblndldmaaGreatWitA
import Derived.Test.YtaandcblndldmaaGreatGraV
import Derived.Test.YtaandcblndldmaaGreatHeaD
import Derived.Test.YtaandcblndldmaaGreatRgE
import Derived.Test.YtaandcblndldmaaGreatROpA
import Derived.Test.YtaandcblndldmaaGreatRMbA
/- LevC -/
/- LevB -/
/- LevB -/
namespace Go.Proofs.YtaandcblndldmaaGreat
open Go.RowKit
set_option linter.unusedVariables false
set_option linter.unusedSimpArgs false

/-- a graph whose commits are told -/
structure Coms (w : World) (g : Value) (L : List Cm) : Prop where
  coms : ∀ W, Below w.heap.size w W → Calls Tryz.prog 29 #[g] W (ComsTo W L)
  nodup : (L.map (·.d)).Nodup
  may : ∀ c ∈ L, CmP c
  max : L.length ≤ 200
theorem Coms.of {w : World} {pg mb : Nat} {w0 : World} {m : Nat} {b : Bw} {L : List Cw} {va : Option Addr} {vc : Nat} {vv : List Dt} (h : GrAt w pg mb w0 m b L va vc vv) : Coms w (.pointer (some ⟨pg, 0, none⟩)) (cms L) :=
  ⟨fun W hW => commits_G pg mb w0 m b L va vc vv W (h.below hW), h.nodup, fun c hc => (by obtain ⟨v, hv, rfl⟩ := List.mem_map.1 hc; exact h.may v hv), by unfold cms; rw [List.length_map]; exact h.max⟩
theorem OwnC.ptr {w : World} {base : Nat} {a : Option Addr} {c : Nat} {M : List Cw} (h : OwnC w base a c M) (h0 : 0 < M.length) : ∃ g, a = some ⟨g, 0, none⟩ := by
  rcases h.2 with ⟨h1, h2⟩ | ⟨g, cap, cur, h1, _⟩
  · simp at h1; omega
  · simp at h1; exact ⟨g, h1.1⟩
end Go.Proofs.YtaandcblndldmaaGreat

/- LevQ -/
namespace Go.Proofs.YtaandcblndldmaaGreat
open Go.RowKit
set_option linter.unusedVariables false
set_option linter.unusedSimpArgs false

def lA : Dt := ((0, 1), 1)
def lB : Dt := ((1, 1), 1)
def lO : Opn := ⟨1, 0, ⟨#[]⟩, [⟨#[97]⟩], []⟩
def mA : Cm := ⟨lA, [], [lA], 1, lO⟩
def mB : Cm := ⟨lB, [lA], [lA, lB], 2, lO⟩
theorem lO_may : MayOpn lO := by
  refine ⟨by decide, ⟨by decide, by decide, fun s hs => ?_⟩, by decide, by decide, fun _ => ⟨by decide, by decide, by decide, rfl⟩, fun h => absurd rfl h⟩
  simp [lO] at hs
  subst hs
  refine ⟨by decide, by decide, fun j hj => ?_⟩
  have : j = 0 := by have h2 : j < 1 := hj; omega
  subst this
  left; exact ⟨by show 97 ≤ (97 : UInt8).toNat; decide, by show (97 : UInt8).toNat ≤ 122; decide⟩
end Go.Proofs.YtaandcblndldmaaGreat

/- LevR -/
namespace Go.Proofs.YtaandcblndldmaaGreat
open Go.RowKit
set_option linter.unusedVariables false
set_option linter.unusedSimpArgs false

end Go.Proofs.YtaandcblndldmaaGreat

/- LevC -/
namespace Go.Proofs.YtaandcblndldmaaGreat
open Go.RowKit
set_option linter.unusedVariables false
set_option linter.unusedSimpArgs false

end Go.Proofs.YtaandcblndldmaaGreat

/- ChnD -/
/- ChnA -/
/- ShpP -/
namespace Go.Proofs.YtaandcblndldmaaGreat
open Go.RowKit
set_option linter.unusedVariables false
set_option linter.unusedSimpArgs false

end Go.Proofs.YtaandcblndldmaaGreat

/- ChnA -/
namespace Go.Proofs.YtaandcblndldmaaGreat
open Go.RowKit
set_option linter.unusedVariables false
set_option linter.unusedSimpArgs false

end Go.Proofs.YtaandcblndldmaaGreat

/- ChnB -/
namespace Go.Proofs.YtaandcblndldmaaGreat
open Go.RowKit
set_option linter.unusedVariables false
set_option linter.unusedSimpArgs false

end Go.Proofs.YtaandcblndldmaaGreat

/- ChnC -/
namespace Go.Proofs.YtaandcblndldmaaGreat
open Go.RowKit
set_option linter.unusedVariables false
set_option linter.unusedSimpArgs false

end Go.Proofs.YtaandcblndldmaaGreat

/- ChnD -/
namespace Go.Proofs.YtaandcblndldmaaGreat
open Go.RowKit
set_option linter.unusedVariables false
set_option linter.unusedSimpArgs false

end Go.Proofs.YtaandcblndldmaaGreat

/- LwL -/
/- HeaE -/
namespace Go.Proofs.YtaandcblndldmaaGreat
open Go.RowKit
set_option linter.unusedVariables false
set_option linter.unusedSimpArgs false

@[go_sem] theorem assert_c (a b c d e f g h i j k : Value) (w : World) : (Instr.typeAssert (.iface 54 (.agg #[a, b, c, d, e, f, g, h, i, j, k])) 20 54 true).run Tryz.prog w = .ok (.tuple #[.agg #[a, b, c, d, e, f, g, h, i, j, k], .bool true]) w := by kernel_rfl
theorem ltC_b (x y : Cm) : ltC x y ↔ ltCb x y = true := by
  first | exact Iff.rfl | (rw [ltCb_or]; rfl) | (rw [ltCb_or]; unfold ltC; simp)
end Go.Proofs.YtaandcblndldmaaGreat

/- HeaF -/
namespace Go.Proofs.YtaandcblndldmaaGreat
open Go.RowKit
set_option linter.unusedVariables false
set_option linter.unusedSimpArgs false

end Go.Proofs.YtaandcblndldmaaGreat

/- Kno13 -/
namespace Go.Proofs.YtaandcblndldmaaGreat
open Go.RowKit
set_option linter.unusedVariables false
set_option linter.unusedSimpArgs false
set_option maxRecDepth 100000
end Go.Proofs.YtaandcblndldmaaGreat

/- Bo15 -/
namespace Go.Proofs.YtaandcblndldmaaGreat
open Go.RowKit
set_option linter.unusedVariables false
set_option linter.unusedSimpArgs false

end Go.Proofs.YtaandcblndldmaaGreat

/- Kno15 -/
namespace Go.Proofs.YtaandcblndldmaaGreat
open Go.RowKit
set_option linter.unusedVariables false
set_option linter.unusedSimpArgs false

end Go.Proofs.YtaandcblndldmaaGreat

/- LwA -/
namespace Go.Proofs.YtaandcblndldmaaGreat
open Go.RowKit
set_option linter.unusedVariables false
set_option linter.unusedSimpArgs false

end Go.Proofs.YtaandcblndldmaaGreat

/- LwL -/
namespace Go.Proofs.YtaandcblndldmaaGreat
open Go.RowKit
set_option linter.unusedVariables false
set_option linter.unusedSimpArgs false

end Go.Proofs.YtaandcblndldmaaGreat
