/- Ancestors, plainly: by parents, and by vectors. No program in sight. | base.ancestors, plainly. No program in sight. | The plain law of BaseAncestors. No program in sight. | Levels of commits, plainly. No program in sight. | Rows of rows of dots in memory of one's own. | slices.ContainsFunc of commits by any function; base.greatest: contracts. | varvelaw13.reach: the contract. | base.ancestors: the contract. (printed by wip/tools/genanca.py) | base.Of: the contract. (printed by wip/tools/genofa.py) | The page's example of bases, plainly: a fork, and one that shares nothing. No program in sight. | slices.DeleteFunc of commits in a row of their own, by any function: contract. (printed by wip/tools/gendelc.py) | Graph.Base, base.Within: the contracts. -/
import Derived.Test.YthdmoplclllhjaaGreatRgA
import Derived.Test.YthdmoplclllhjaaGreatGraC
import Derived.Test.YthdmoplclllhjaaGreatGraM
import Derived.Test.YthdmoplclllhjaaGreatGraQ
import Derived.Test.YthdmoplclllhjaaGreatWidB
import Derived.Test.YthdmoplclllhjaaGreatBothA
import Derived.Test.YthdmoplclllhjaaGreatGraV
import Derived.Test.YthdmoplclllhjaaGreatBasB
/- DagP -/
/- DagP -/
namespace Go.Proofs.YthdmoplclllhjaaGreat
open Go.RowKit
set_option linter.unusedVariables false
set_option linter.unusedSimpArgs false

end Go.Proofs.YthdmoplclllhjaaGreat

/- AncP -/
namespace Go.Proofs.YthdmoplclllhjaaGreat
open Go.RowKit
set_option linter.unusedVariables false
set_option linter.unusedSimpArgs false

end Go.Proofs.YthdmoplclllhjaaGreat

/- AncQ -/
namespace Go.Proofs.YthdmoplclllhjaaGreat
open Go.RowKit
set_option linter.unusedVariables false
set_option linter.unusedSimpArgs false

end Go.Proofs.YthdmoplclllhjaaGreat

/- GreA -/
/- LevA -/
/- LevP -/
namespace Go.Proofs.YthdmoplclllhjaaGreat
open Go.RowKit
set_option linter.unusedVariables false
set_option linter.unusedSimpArgs false

end Go.Proofs.YthdmoplclllhjaaGreat

/- LevA -/
namespace Go.Proofs.YthdmoplclllhjaaGreat
open Go.RowKit
set_option linter.unusedVariables false
set_option linter.unusedSimpArgs false

section
variable {w : World} {ops : Array Oper} {rest : List Oper} {o : Oper} {a : Act} {Q : Exit → Act → World → Prop}
end
end Go.Proofs.YthdmoplclllhjaaGreat

/- GreA -/
namespace Go.Proofs.YthdmoplclllhjaaGreat
open Go.RowKit
set_option linter.unusedVariables false
set_option linter.unusedSimpArgs false

end Go.Proofs.YthdmoplclllhjaaGreat

/- OfA -/
/- RchA -/
namespace Go.Proofs.YthdmoplclllhjaaGreat
open Go.RowKit
set_option linter.unusedVariables false
set_option linter.unusedSimpArgs false

end Go.Proofs.YthdmoplclllhjaaGreat

/- AncA -/
namespace Go.Proofs.YthdmoplclllhjaaGreat
open Go.RowKit
set_option linter.unusedVariables false
set_option linter.unusedSimpArgs false

end Go.Proofs.YthdmoplclllhjaaGreat

/- OfA -/
namespace Go.Proofs.YthdmoplclllhjaaGreat
open Go.RowKit
set_option linter.unusedVariables false
set_option linter.unusedSimpArgs false

end Go.Proofs.YthdmoplclllhjaaGreat

/- WitA -/
/- KnoP -/
namespace Go.Proofs.YthdmoplclllhjaaGreat
open Go.RowKit
set_option linter.unusedVariables false
set_option linter.unusedSimpArgs false

def kD2 : Dt := ((2, 1), 1)
def kD3 : Dt := ((3, 1), 1)
def kY : Cm := ⟨kD2, [kD], [kD, kD2], 2, kO⟩
def kZ : Cm := ⟨kD3, [], [kD3], 1, kO⟩
def k4 : List Cm := [kC, kL, kY, kZ]
end Go.Proofs.YthdmoplclllhjaaGreat

/- DelC -/
namespace Go.Proofs.YthdmoplclllhjaaGreat
open Go.RowKit
set_option linter.unusedVariables false
set_option linter.unusedSimpArgs false

end Go.Proofs.YthdmoplclllhjaaGreat

/- WitA -/
namespace Go.Proofs.YthdmoplclllhjaaGreat
open Go.RowKit
set_option linter.unusedVariables false
set_option linter.unusedSimpArgs false

theorem five_at {W : World} {b : Nat} {a0 a1 a2 a3 a4 : Value} {t : TypeId} (h : W.heap[b]? = some (.cells #[a0, a1, a2, a3, a4] t (0, 0))) (x0 x1 x2 x3 x4 : Value) :
    (((((W.setCell ⟨b, 0, none⟩ x0).setCell ⟨b, 1, none⟩ x1).setCell ⟨b, 2, none⟩ x2).setCell ⟨b, 3, none⟩ x3).setCell ⟨b, 4, none⟩ x4).heap[b]? = some (.cells #[x0, x1, x2, x3, x4] t (0, 0)) := by
  have h6 := Go.heap_setCell_same _ b 4 _ t x4 (Go.heap_setCell_same _ b 3 _ t x3 (Go.heap_setCell_same _ b 2 _ t x2 (Go.heap_setCell_same _ b 1 _ t x1 (Go.heap_setCell_same W b 0 _ t x0 h))))
  simp only [List.setIfInBounds_toArray, List.set_cons_zero, List.set_cons_succ] at h6
  exact h6
set_option maxRecDepth 100000 in
set_option maxHeartbeats 8000000 in
theorem base_G (pg mb : Nat) (w0 : World) (m : Nat) (b : Bw) (L : List Cw) (va : Option Addr) (vc : Nat) (vv : List Dt) (w : World) (h : GrAt w pg mb w0 m b L va vc vv) (ht : TrRd w0 3 b.ra b.rc b.b.tr) (hB : BdA 1100000 3 b.b.tr) :
    Calls Tryz.prog 39 #[.pointer (some ⟨pg, 0, none⟩)] w (OwnBTo w b.b) := by
  have hfm := h.fmax
  have htm := h.tmax
  have H3 : Hid (BwAt w 3 b) := Lib.hid (BwAt.below ⟨h.base.f, h.base.tips, ht, h.base.okf, h.base.okt, h.base.num, h.base.t⟩ h.bel)
  have HBl := Lib.hid h.blk
  have HBd := Lib.hid hB
  clear h ht hB
  obtain ⟨⟨num, F, tips, t, tr⟩, fa, fc, ta, tc, ra, rc⟩ := b
  dsimp only at hfm htm
  have E0 : Hid (BoxE 28 w (w.alloc (.cells #[.int .u64 0, .slice none 0 0, .slice none 0 0, .int .u64 0, .slice none 0 0] 28)) #[.int .u64 0, .slice none 0 0, .slice none 0 0, .int .u64 0, .slice none 0 0]) := Lib.hid ⟨heap_new _ _, (Below.refl _ _).alloc (Nat.le_refl _) _⟩
  have G0 := Lib.hid ((E0.out.bel.block _ (heap_lt HBl.out)).trans HBl.out)
  have g0 := cells_at G0.out
  simp only [gcells] at g0
  have hpg := heap_lt HBl.out
  go_enter Tryz.func39, Tryz.ntmps39
  go_wp2_with fail
  refine (none_some pg mb _ ?c5).mono ?_
  case c5 => exact cells_at G0.out 5
  rintro e w1 ⟨rfl, rfl⟩
  go_wp2_with fail
  refine (ownBase_any ⟨⟨num, F, tips, t, tr⟩, fa, fc, ta, tc, ra, rc⟩ _ (H3.out.below E0.out.bel) (by dsimp only; omega) (by dsimp only; omega) HBd.out).mono ?_
  rintro e w2 ⟨⟨⟨num', F', tips', t', U⟩, a1, c1, a2, c2, a3, c3⟩, rfl, hs, ho, hb2⟩
  have Hs := Lib.hid hs
  have Ho := Lib.hid ho
  have E := Lib.hid (E0.out.step hb2)
  have hz2 := hb2.size
  have hz1 := E0.out.bel.size
  clear hs ho hb2 E0 G0 g0
  have d0 := cells_at E.out.blk
  have f0 := free_at E.out.blk
  have z0 := heap_lt E.out.blk
  simp only [bwcells]
  go_wp2_with fail
  have hC : Chg [w.heap.size] w2 (((((w2.setCell ⟨w.heap.size, 0, none⟩ (.int .u64 num')).setCell ⟨w.heap.size, 1, none⟩ (.slice a1 F'.length c1)).setCell ⟨w.heap.size, 2, none⟩ (.slice a2 tips'.length c2)).setCell ⟨w.heap.size, 3, none⟩ (.int .u64 t')).setCell ⟨w.heap.size, 4, none⟩ (.slice a3 U.length c3)) := (((((Chg.refl _ _).put _ _ (by simp)).put _ _ (by simp)).put _ _ (by simp)).put _ _ (by simp)).put _ _ (by simp)
  have h5 := five_at E.out.blk (.int .u64 num') (.slice a1 F'.length c1) (.slice a2 tips'.length c2) (.int .u64 t') (.slice a3 U.length c3)
  generalize (((((w2.setCell ⟨w.heap.size, 0, none⟩ (.int .u64 num')).setCell ⟨w.heap.size, 1, none⟩ (.slice a1 F'.length c1)).setCell ⟨w.heap.size, 2, none⟩ (.slice a2 tips'.length c2)).setCell ⟨w.heap.size, 3, none⟩ (.int .u64 t')).setCell ⟨w.heap.size, 4, none⟩ (.slice a3 U.length c3)) = w4 at *
  clear d0 f0
  have d0 := cells_at h5
  have hfar : ∀ k ∈ [w.heap.size], k < w.heap.size + 1 := fun k hk => by simp at hk; omega
  have hszA : (w.alloc (.cells #[.int .u64 0, .slice none 0 0, .slice none 0 0, .int .u64 0, .slice none 0 0] 28)).heap.size = w.heap.size + 1 := by simp
  have o1 := OwnD.base (base' := w.heap.size) (owns_chg Ho.out.f hC (fun k hk hm => by have := (owns_lt Ho.out.f k hk).1; simp at hm; omega)) (by omega)
  have o2 := OwnD.base (base' := w.heap.size) (owns_chg Ho.out.tips hC (fun k hk hm => by have := (owns_lt Ho.out.tips k hk).1; simp at hm; omega)) (by omega)
  have o3 := OwnT.base (b2 := w.heap.size) (by omega) (OwnT.chg hC (fun k hk => by simp at hk; omega) Ho.out.tr)
  have hB4 : Below w.heap.size w w4 := E.out.bel.trans (hC.below E.out.bel.size (by simp))
  exact bodyPost_ret (v := .agg (basecells num' a1 F'.length c1 a2 tips'.length c2 t' a3 U.length c3)) (by simp [results, Tryz.results39, go_sem, d0]; try rfl) rfl ⟨⟨⟨num', F', tips', t', U⟩, a1, c1, a2, c2, a3, c3⟩, rfl, Hs.out, ⟨o1, o2, o3⟩, hB4⟩
@[go_sem] theorem field_bf (a b c d e : Value) (w : World) : (Instr.field 28 (.agg #[a, b, c, d, e]) 1).run Tryz.prog w = .ok b w := by kernel_rfl
end Go.Proofs.YthdmoplclllhjaaGreat
