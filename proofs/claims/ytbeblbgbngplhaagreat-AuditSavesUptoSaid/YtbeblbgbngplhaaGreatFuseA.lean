/- slices.Grow of nothing, slices.Concat, Contains, Clone at dots and items: contracts. | slices.Concat of two slices, at dots and at items; slices.Contains at dots; slices.Clone at items: contracts. | Sorting dots, items: slices.SortFunc, by the shelf's contract. | slices.Compact of sorted dots: contract. | slices.Compact of sorted dots: the walk. -/
import Derived.Test.YtbeblbgbngplhaaGreatRefLA
import Derived.Test.YtbeblbgbngplhaaGreatShelf
import Derived.Laws.OwnMore
import Derived.Deep.CutBlock
/- FuseA -/
namespace Go.Proofs.YtbeblbgbngplhaaGreat
open Go.RowKit
set_option linter.unusedVariables false
set_option linter.unusedSimpArgs false

section
variable {P : Program}
end
section
variable {w : World} {ops : Array Oper} {rest : List Oper} {o : Oper} {a : Act} {Q : Exit → Act → World → Prop}
end
theorem slice_hiI (oa : Option Addr) (n oc j : Nat) (hj : j ≤ oc) (W : World) : (Instr.sliceAt 181 (.slice oa n oc) none (some (.int .i64 (j : Int))) none).run Tryz.prog W = .ok (.slice oa j oc) W := by
  simp [go_sem, Instr.sliceAt, Instr.slice, run_underlying Tryz.underlying181]
  omega
theorem slice_hiD (oa : Option Addr) (n oc j : Nat) (hj : j ≤ oc) (W : World) : (Instr.sliceAt 27 (.slice oa n oc) none (some (.int .i64 (j : Int))) none).run Tryz.prog W = .ok (.slice oa j oc) W := by
  simp [go_sem, Instr.sliceAt, Instr.slice, run_underlying Tryz.underlying27]
  omega

end Go.Proofs.YtbeblbgbngplhaaGreat

/- FuseB -/
namespace Go.Proofs.YtbeblbgbngplhaaGreat
open Go.RowKit
set_option linter.unusedVariables false
set_option linter.unusedSimpArgs false

set_option maxRecDepth 100000 in
set_option maxHeartbeats 1000000 in
theorem cloneI_any (a : Option Addr) (c : Nat) (l : List It) (w : World) (hv : Its w a c l) (hn : l.length ≤ 1100000) :
    Calls Tryz.prog 201 #[.slice a l.length c] w fun e w' => ∃ a' c' v', e = .returned (.slice a' v'.length c') ∧ v' = l ∧ OwnI w' w.heap.size a' c' v' ∧ Below w.heap.size w w' := by
  have Hv := Lib.hid hv
  have heq := fun (w : World) (a : Option Addr) (n c : Nat) => Lib.run_eql_slice_nil (P := Tryz.prog) w 181 185 a n c 0 0 Tryz.underlying181
  cases a with
  | none =>
    obtain ⟨h1, h2, h3, ⟨_, h4, h5⟩ | ⟨b, hb, _⟩⟩ := hv
    · subst h5
      obtain rfl : l = [] := List.eq_nil_of_length_eq_zero h4
      clear h1 h2 h3 h4 Hv
      go_enter Tryz.func201, Tryz.ntmps201
      go_wp2_with fail
      go_ret
      exact ⟨none, 0, [], rfl, rfl, OwnI.nil _ _, Below.refl _ _⟩
    · cases hb
  | some ad =>
    clear hv
    go_enter Tryz.func201, Tryz.ntmps201
    go_wp2_with (at_builtin; go_must (refine wpList_appI rfl _ _ rfl w.heap.size (some ⟨w.heap.size, 0, none⟩) 0 [] rfl (OwnI.made w (Nat.le_refl _)) (some ad) c l rfl (Hv.out.below ((Below.refl _ _).alloc (Nat.le_refl _) _)) ?n1 ?b1 ?_))
    case n1 => simp; omega
    case b1 => simp
    intro v' a' c' w2 hv' ho2 hb2 _
    have Hv' := Lib.hid hv'
    have HB2 : Hid (Below w.heap.size w w2) := Lib.hid (((Below.refl _ _).alloc (Nat.le_refl _) _).trans hb2)
    have Ho2 := Lib.hid ho2
    clear hv' ho2 hb2
    go_wp2_with fail
    go_ret
    exact ⟨a', c', v', rfl, by rw [Hv'.out], Ho2.out, HB2.out⟩
end Go.Proofs.YtbeblbgbngplhaaGreat

/- FuseC -/
namespace Go.Proofs.YtbeblbgbngplhaaGreat
open Go.RowKit Go.Shelf
set_option linter.unusedVariables false
set_option linter.unusedSimpArgs false

/-! which is ahead, once more: blocks and draws came, nothing else -/
/-! sorting nothing -/
/-! sorting dots -/
theorem ltD_of (a b : Dt) : ltOf cmpDD a b = lessD a b := by
  unfold ltOf
  rw [Bool.eq_iff_iff, decide_eq_true_iff, cmpDD_eq, cmpD_neg]
/-! sorting items -/
instance : Inhabited It := ⟨⟨0, noDot, ByteArray.empty⟩⟩
end Go.Proofs.YtbeblbgbngplhaaGreat

/- FuseD -/
namespace Go.Proofs.YtbeblbgbngplhaaGreat
open Go.RowKit
set_option linter.unusedVariables false
set_option linter.unusedSimpArgs false

/-! the plain law -/
end Go.Proofs.YtbeblbgbngplhaaGreat

/- FuseE -/
namespace Go.Proofs.YtbeblbgbngplhaaGreat
open Go.RowKit
set_option linter.unusedVariables false
set_option linter.unusedSimpArgs false

end Go.Proofs.YtbeblbgbngplhaaGreat
