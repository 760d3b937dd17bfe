/- levels.of: the contract. | The page's example of levels, plainly: four commits. No program in sight. | Rows of levels, plainly: what they are when all dots are laid and each row is sorted. | levels.Levels: the contract. | The plain law of LevelsShape: levels rise by parents; those of one level are beside each other; the chain. No program in sight. | slices.MinFunc and slices.Reverse of dots, levels.Chain$1: the contracts. | slices.Reverse of dots: the contract. | levels.Chain$1: the contract. | levels.Chain: the contract. | order.Lacks$1, order.Lacks: the contracts. | varveref11.Same, SameAll where both are alike; varveref15.Lacks: the contracts. | varvelaw13.known | varvelaw15.both: the contract. (printed by wip/tools/genboth.py) | varvelaw15.known: the contract. | varvelaw13.BaseAncestors: the walk. (printed by wip/tools/genlwa.py) | varvelaw15.OrderLacks: the walk. -/
import Derived.Test.YtaandcblndldmaaGreatWitA
import Derived.Test.YtaandcblndldmaaGreatGraV
import Derived.Test.YtaandcblndldmaaGreatHeaD
import Derived.Test.YtaandcblndldmaaGreatRgE
import Derived.Test.YtaandcblndldmaaGreatROpA
import Derived.Test.YtaandcblndldmaaGreatRMbA
/- LevC -/
/- LevB -/
/- LevB -/
namespace Go.Proofs.YtaandcblndldmaaGreat
open Go.RowKit
set_option linter.unusedVariables false
set_option linter.unusedSimpArgs false

theorem OwnC.ptr {w : World} {base : Nat} {a : Option Addr} {c : Nat} {M : List Cw} (h : OwnC w base a c M) (h0 : 0 < M.length) : ∃ g, a = some ⟨g, 0, none⟩ := by
  rcases h.2 with ⟨h1, h2⟩ | ⟨g, cap, cur, h1, _⟩
  · simp at h1; omega
  · simp at h1; exact ⟨g, h1.1⟩
end Go.Proofs.YtaandcblndldmaaGreat

/- LevQ -/
namespace Go.Proofs.YtaandcblndldmaaGreat
open Go.RowKit
set_option linter.unusedVariables false
set_option linter.unusedSimpArgs false

end Go.Proofs.YtaandcblndldmaaGreat

/- LevR -/
namespace Go.Proofs.YtaandcblndldmaaGreat
open Go.RowKit
set_option linter.unusedVariables false
set_option linter.unusedSimpArgs false

end Go.Proofs.YtaandcblndldmaaGreat

/- LevC -/
namespace Go.Proofs.YtaandcblndldmaaGreat
open Go.RowKit
set_option linter.unusedVariables false
set_option linter.unusedSimpArgs false

end Go.Proofs.YtaandcblndldmaaGreat

/- ChnD -/
/- ChnA -/
/- ShpP -/
namespace Go.Proofs.YtaandcblndldmaaGreat
open Go.RowKit
set_option linter.unusedVariables false
set_option linter.unusedSimpArgs false

end Go.Proofs.YtaandcblndldmaaGreat

/- ChnA -/
namespace Go.Proofs.YtaandcblndldmaaGreat
open Go.RowKit
set_option linter.unusedVariables false
set_option linter.unusedSimpArgs false

end Go.Proofs.YtaandcblndldmaaGreat

/- ChnB -/
namespace Go.Proofs.YtaandcblndldmaaGreat
open Go.RowKit
set_option linter.unusedVariables false
set_option linter.unusedSimpArgs false

end Go.Proofs.YtaandcblndldmaaGreat

/- ChnC -/
namespace Go.Proofs.YtaandcblndldmaaGreat
open Go.RowKit
set_option linter.unusedVariables false
set_option linter.unusedSimpArgs false

end Go.Proofs.YtaandcblndldmaaGreat

/- ChnD -/
namespace Go.Proofs.YtaandcblndldmaaGreat
open Go.RowKit
set_option linter.unusedVariables false
set_option linter.unusedSimpArgs false

theorem sorted_uniq {S T L : List Cm} (hp : S.Perm L) (hs : SortedC S) (hq : T.Perm L) (ht : SortedC T) : S = T :=
  rising_ext (lt := ltC) ltC_irrefl (fun h k => ltC_trans h k) hs ht fun a => (hp.trans hq.symm).mem_iff
end Go.Proofs.YtaandcblndldmaaGreat

/- LwL -/
/- HeaE -/
namespace Go.Proofs.YtaandcblndldmaaGreat
open Go.RowKit
set_option linter.unusedVariables false
set_option linter.unusedSimpArgs false

@[go_sem] theorem assert_c (a b c d e f g h i j k : Value) (w : World) : (Instr.typeAssert (.iface 54 (.agg #[a, b, c, d, e, f, g, h, i, j, k])) 20 54 true).run Tryz.prog w = .ok (.tuple #[.agg #[a, b, c, d, e, f, g, h, i, j, k], .bool true]) w := by kernel_rfl
theorem ltC_b (x y : Cm) : ltC x y ↔ ltCb x y = true := by
  first | exact Iff.rfl | (rw [ltCb_or]; rfl) | (rw [ltCb_or]; unfold ltC; simp)
end Go.Proofs.YtaandcblndldmaaGreat

/- HeaF -/
namespace Go.Proofs.YtaandcblndldmaaGreat
open Go.RowKit
set_option linter.unusedVariables false
set_option linter.unusedSimpArgs false

/-- a commit is not great beyond measure -/
def CwB (v : Cw) : Prop := v.c.ps.length ≤ 1100000 ∧ v.c.vv.length ≤ 1100000 ∧ v.c.o.p.length ≤ 1100000 ∧ v.c.o.ds.length ≤ 1100000
set_option maxRecDepth 100000 in
set_option maxHeartbeats 8000000 in
theorem same11_any (u v : Cw) (w : World) (hu : CwAt w u) (hv : CwAt w v) (hb : CwB u) (he : u.c = v.c) :
    Calls Tryz.prog 45 #[.agg (cwcells u), .agg (cwcells v)] w fun e w' => e = .returned (.bool true) ∧ Below w.heap.size w w' := by
  obtain ⟨⟨⟨⟨r, i⟩, s⟩, ps, uu, t, ⟨k, n, x, p, ds⟩⟩, qa, qc, ua, uc, pa, pc, da, dc⟩ := u
  obtain ⟨c', qa', qc', ua', uc', pa', pc', da', dc'⟩ := v
  dsimp only at he
  subst he
  have HU := Lib.hid hu
  have HV := Lib.hid hv
  obtain ⟨b1, b2, b3, b4⟩ := hb
  dsimp only at b1 b2 b3 b4
  have E : Hid (Below w.heap.size w ((w.alloc (.cells (ccells r i s qa ps.length qc ua uu.length uc t k pa p.length pc n x da ds.length dc) 54)).alloc (.cells (ccells r i s qa' ps.length qc' ua' uu.length uc' t k pa' p.length pc' n x da' ds.length dc') 54)) ∧ ((w.alloc (.cells (ccells r i s qa ps.length qc ua uu.length uc t k pa p.length pc n x da ds.length dc) 54)).alloc (.cells (ccells r i s qa' ps.length qc' ua' uu.length uc' t k pa' p.length pc' n x da' ds.length dc') 54)).heap[w.heap.size]? = some (.cells (ccells r i s qa ps.length qc ua uu.length uc t k pa p.length pc n x da ds.length dc) 54 (0, 0)) ∧ ((w.alloc (.cells (ccells r i s qa ps.length qc ua uu.length uc t k pa p.length pc n x da ds.length dc) 54)).alloc (.cells (ccells r i s qa' ps.length qc' ua' uu.length uc' t k pa' p.length pc' n x da' ds.length dc') 54)).heap[w.heap.size + 1]? = some (.cells (ccells r i s qa' ps.length qc' ua' uu.length uc' t k pa' p.length pc' n x da' ds.length dc') 54 (0, 0))) :=
    Lib.hid ⟨((Below.refl _ _).alloc (Nat.le_refl _) _).alloc (by simp) _, (heap_old _ _ (by simp)).trans (heap_new _ _), heap_new2 _ _ _⟩
  clear hu hv
  simp only [cwcells]
  go_enter Tryz.func45, Tryz.ntmps45
  go_upto_region 1 with (fail)
  obtain ⟨wa, hwa⟩ : ∃ wa, wa = ((w.alloc (.cells (ccells r i s qa ps.length qc ua uu.length uc t k pa p.length pc n x da ds.length dc) 54)).alloc (.cells (ccells r i s qa' ps.length qc' ua' uu.length uc' t k pa' p.length pc' n x da' ds.length dc') 54)) := ⟨_, rfl⟩
  simp only [ccells] at hwa
  have E2 := E.out
  clear E
  simp only [ccells] at E2
  rw [← hwa] at E2 ⊢
  clear hwa
  have E := Lib.hid E2
  clear E2
  have d0 := cells_at E.out.2.1
  have d1 := cells_at E.out.2.2
  have z0 := heap_lt E.out.2.1
  have z1 := heap_lt E.out.2.2
  have x1 : eqD ((r, i), s) ((r, i), s) = true := (eqD_iff _ _).2 rfl
  go_wp2_with fail
  refine (same_any qa qa' qc qc' ps ps _ (HU.out.ps.below E.out.1) (HV.out.ps.below E.out.1) b1 b1).mono ?_
  rintro e w1 ⟨rfl, hb1⟩
  have B1 := Lib.hid (below2 E.out.1 hb1 E.out.1.size)
  have F1 := Lib.hid ((hb1.block _ z0).trans E.out.2.1)
  have G1 := Lib.hid ((hb1.block _ z1).trans E.out.2.2)
  clear hb1 E d0 d1 z0 z1
  have d0 := cells_at F1.out
  have d1 := cells_at G1.out
  have z0 := heap_lt F1.out
  have z1 := heap_lt G1.out
  have x2 : decide (ps = ps) = true := decide_eq_true rfl
  go_wp2_with fail
  refine (same_any ua ua' uc uc' uu uu _ (HU.out.vv.below B1.out) (HV.out.vv.below B1.out) b2 b2).mono ?_
  rintro e w2 ⟨rfl, hb1⟩
  have B2 := Lib.hid (below2 B1.out hb1 B1.out.size)
  have F2 := Lib.hid ((hb1.block _ z0).trans F1.out)
  have G2 := Lib.hid ((hb1.block _ z1).trans G1.out)
  clear hb1 d0 d1 z0 z1 B1 F1 G1
  have d0 := cells_at F2.out
  have d1 := cells_at G2.out
  have z0 := heap_lt F2.out
  have z1 := heap_lt G2.out
  have x3 : decide (uu = uu) = true := decide_eq_true rfl
  go_wp2_with fail
  refine (rsameO_any ⟨⟨k, n, x, p, ds⟩, pa, pc, da, dc⟩ ⟨⟨k, n, x, p, ds⟩, pa', pc', da', dc'⟩ _ (HU.out.below B2.out).op (HV.out.below B2.out).op b3 b4 b3 b4).mono ?_
  rintro e w3 ⟨q, rfl, hq, hb1⟩
  obtain rfl : q = true := hq.2 rfl
  have B3 := Lib.hid (below2 B2.out hb1 B2.out.size)
  clear hb1 hq
  go_wp2_with fail
  go_ret
  exact ⟨rfl, B3.out⟩
set_option maxRecDepth 100000 in
set_option maxHeartbeats 8000000 in
theorem sameAll11_any (a a' : Option Addr) (c c' : Nat) (l l' : List Cw) (w : World) (h : Cms w a c l) (h' : Cms w a' c' l') (hb : ∀ v ∈ l, CwB v) (he : cms l = cms l') (hl : l.length ≤ 1000) :
    Calls Tryz.prog 14 #[.slice a l.length c, .slice a' l'.length c'] w fun e w' => e = .returned (.bool true) ∧ Below w.heap.size w w' := by
  have hll : l'.length = l.length := by have h1 := congrArg List.length he; unfold cms at h1; simpa using h1.symm
  have H := Lib.hid h
  have H' := Lib.hid h'
  have Hb := Lib.hid hb
  have He := Lib.hid he
  rw [hll]
  have Hll := Lib.hid hll
  clear h h' hb he hll
  go_enter Tryz.func14, Tryz.ntmps14
  go_wp2_with fail
  go_loopw [5] (fun j wr => ∃ k : Nat, k ≤ l.length ∧ j = .int .i64 k ∧ Hid (Below w.heap.size w wr)) (fun j _ => l.length - (intOf j).toNat)
  case atStart => exact ⟨0, Nat.zero_le _, rfl, Lib.hid (Below.refl _ _)⟩
  case round =>
    obtain ⟨k, hk, rfl, B⟩ := hrel
    by_cases hlt : k < l.length
    · obtain ⟨x, hx⟩ : ∃ v, l[k]? = some v := ⟨l[k], by simp [hlt]⟩
      obtain ⟨y, hy⟩ : ∃ v, l'[k]? = some v := ⟨l'[k]'(by rw [Hll.out]; exact hlt), by simp⟩
      have hxy : x.c = y.c := by
        have h1 := cms_i hx
        rw [He.out, cms_i hy] at h1
        exact (Option.some.inj h1).symm
      have HX := Lib.hid ((H.out.each x (List.mem_of_getElem? hx)).below B.out)
      have HY := Lib.hid ((H'.out.each y (List.mem_of_getElem? hy)).below B.out)
      have HB := Lib.hid (Hb.out x (List.mem_of_getElem? hx))
      have Hxy := Lib.hid hxy
      obtain ⟨ad, had, ⟨c0, c1, c2, c3, c4, c5, c6, c7, c8, c9, c10⟩, hlb⟩ := (H.out.below B.out).at_ hx
      obtain ⟨ae, hae, ⟨e0, e1, e2, e3, e4, e5, e6, e7, e8, e9, e10⟩, hlb2⟩ := (H'.out.below B.out).at_ hy
      have B0 : Hid (Below w.heap.size w wr.drew) := Lib.hid (B.out.trans (((Below.refl wr.heap.size wr).drew).mono B.out.size))
      subst had
      subst hae
      clear hx hy hxy
      obtain ⟨⟨⟨⟨r, i1⟩, s⟩, ps, uu, t, ⟨kk, n, x1, p, ds⟩⟩, qa, qc, ua, uc, pa, pc, da, dc⟩ := x
      obtain ⟨⟨⟨⟨r', i'⟩, s'⟩, ps', uu', t', ⟨k', n', x', p', ds'⟩⟩, qa', qc', ua', uc', pa', pc', da', dc'⟩ := y
      dsimp only at c0 c1 c2 c3 c4 c5 c6 c7 c8 c9 c10 e0 e1 e2 e3 e4 e5 e6 e7 e8 e9 e10
      go_wp2_with fail
      refine region_text [([0, 1, 2, 3, 4, 5, 6, 7, 8, 9], false)] mixed (by kernel_rfl) ?_
      simp only [wpSegs, List.map_cons, List.map_nil, List.getD_cons_succ, List.getD_cons_zero]
      go_wp2_with fail
      refine (same11_any ⟨⟨((r, i1), s), ps, uu, t, ⟨kk, n, x1, p, ds⟩⟩, qa, qc, ua, uc, pa, pc, da, dc⟩ ⟨⟨((r', i'), s'), ps', uu', t', ⟨k', n', x', p', ds'⟩⟩, qa', qc', ua', uc', pa', pc', da', dc'⟩ _ (HX.out.below (Below.refl _ _).drew) (HY.out.below (Below.refl _ _).drew) HB.out Hxy.out).mono ?_
      rintro e w1 ⟨rfl, hb⟩
      have HB1 := Lib.hid (below2 B0.out hb B0.out.size)
      clear hb c0 c1 c2 c3 c4 c5 c6 c7 c8 c9 c10 e0 e1 e2 e3 e4 e5 e6 e7 e8 e9 e10
      go_wp2_with fail
      refine And.intro (by kernel_rfl) ?_
      go_wp2_with fail
      go_roundw
      case rel => exact ⟨k + 1, by omega, by go_num, HB1⟩
      case measure => simp [intOf]; omega
    · go_wp2_with fail
      go_ret
      exact ⟨rfl, B.out⟩
end Go.Proofs.YtaandcblndldmaaGreat

/- Kno13 -/
namespace Go.Proofs.YtaandcblndldmaaGreat
open Go.RowKit
set_option linter.unusedVariables false
set_option linter.unusedSimpArgs false
set_option maxRecDepth 100000
end Go.Proofs.YtaandcblndldmaaGreat

/- Bo15 -/
namespace Go.Proofs.YtaandcblndldmaaGreat
open Go.RowKit
set_option linter.unusedVariables false
set_option linter.unusedSimpArgs false

end Go.Proofs.YtaandcblndldmaaGreat

/- Kno15 -/
namespace Go.Proofs.YtaandcblndldmaaGreat
open Go.RowKit
set_option linter.unusedVariables false
set_option linter.unusedSimpArgs false

end Go.Proofs.YtaandcblndldmaaGreat

/- LwA -/
namespace Go.Proofs.YtaandcblndldmaaGreat
open Go.RowKit
set_option linter.unusedVariables false
set_option linter.unusedSimpArgs false

end Go.Proofs.YtaandcblndldmaaGreat

/- LwL -/
namespace Go.Proofs.YtaandcblndldmaaGreat
open Go.RowKit
set_option linter.unusedVariables false
set_option linter.unusedSimpArgs false

theorem CmP.b {v : Cw} (h : CmP v.c) : CwB v := by
  have h1 := h.few
  have h2 : v.c.vv.length ≤ 64 := by rw [← h.canon]; exact vecOf_length _
  have h3 := h.op.path.2.1
  have h4 := h.op.few
  exact ⟨by omega, by omega, by omega, by omega⟩
end Go.Proofs.YtaandcblndldmaaGreat
