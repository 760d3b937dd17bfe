/- graph.own: a commit in memory of its own: contract. -/
import Derived.Test.YthdmoplclllhjaaGreatGraG
namespace Go.Proofs.YthdmoplclllhjaaGreat
open Go.RowKit
set_option linter.unusedVariables false
set_option linter.unusedSimpArgs false

/-- a commit of one's own -/
def OwnCTo (w : World) (v : Cw) (e : Ending) (w' : World) : Prop := ∃ u : Cw, e = .returned (.agg (cwcells u)) ∧ u.c = v.c ∧ CwOwn w' w.heap.size u ∧ Below w.heap.size w w'
theorem heap_setC {w : World} {p : Nat} {C : Array Value} {t : TypeId} (h : w.heap[p]? = some (.cells C t (0, 0))) (j : Nat) (x : Value) : (w.setCell ⟨p, j, none⟩ x).heap[p]? = some (.cells (C.setIfInBounds j x) t (0, 0)) := Go.heap_setCell_same w p j _ _ x h
set_option maxRecDepth 100000 in
set_option maxHeartbeats 8000000 in
theorem ownC_any (v : Cw) (w : World) (h : CwAt w v) (h1 : v.c.ps.length ≤ 1000000) (h2 : v.c.vv.length ≤ 1000000) (h3 : v.c.o.p.length ≤ 1000000) (h4 : v.c.o.ds.length ≤ 1000000) : Calls Tryz.prog 79 #[.agg (cwcells v)] w (OwnCTo w v) := by
  obtain ⟨⟨⟨⟨r, i⟩, s⟩, ps, vv, t, ⟨k, n, x, p, ds⟩⟩, qa, qc, va, vc, pa, pc, da, dc⟩ := v
  have H := Lib.hid h
  dsimp only at h1 h2 h3 h4
  clear h
  simp only [cwcells]
  go_enter Tryz.func79, Tryz.ntmps79
  go_wp2_with fail
  refine region_text [([0, 1, 3, 4], false), ([2], true), ([6, 5, 7, 8, 9], false)] mixed (by kernel_rfl) ?_
  simp only [wpSegs, List.map_cons, List.map_nil, List.getD_cons_succ, List.getD_cons_zero]
  go_wp2_with fail
  refine (cloneD_any qa qc ps _ (H.out.ps.below ?b1) h1).mono ?_
  case b1 => exact (((Below.refl _ _).alloc (Nat.le_refl _) _).alloc (by simp) _).drew
  rintro e w1 ⟨a1, c1, p1, rfl, hp1, ho1, hb1⟩
  obtain ⟨x0, y0, hz1, hB1⟩ := new2 (((Below.refl _ _).drew).trans hb1)
  subst hp1
  have Ho1 := Lib.hid (OwnD.base (base' := w.heap.size + 2) ho1 (by simp))
  have X1 := Lib.hid x0
  have Y1 := Lib.hid y0
  have HB1 := Lib.hid hB1
  have Hb1 := Lib.hid hb1
  clear hb1 ho1 x0 y0 hB1
  go_wp2_with fail
  refine And.intro (Agree.of_below Hb1.out) ?_
  go_wp2_with fail
  refine (cloneV_any va vc vv _ (H.out.vv.below HB1.out) h2).mono ?_
  rintro e w2 ⟨a2, c2, v2, rfl, hv2, ho2, hb2⟩
  subst hv2
  have Ho1' := Lib.hid (Ho1.out.below hb2)
  have Ho2 := Lib.hid (OwnD.base (base' := w.heap.size + 2) ho2 hz1)
  have HB2 := Lib.hid (below2 HB1.out hb2 HB1.out.size)
  have X2 := Lib.hid ((hb2.block _ (heap_lt X1.out)).trans X1.out)
  have Y2 := Lib.hid ((hb2.block _ (heap_lt Y1.out)).trans Y1.out)
  have hz2 : w.heap.size + 2 ≤ w2.heap.size := by have := hb2.size; omega
  have d0 := cells_at X2.out
  have f0 := free_at X2.out
  clear ho2 hb2 X1 Y1 HB1 Ho1 Hb1
  go_wp2_with fail
  refine And.intro (by kernel_rfl) ?_
  have hC1 : Chg [w.heap.size] w2 ((w2.setCell ⟨w.heap.size, 3, none⟩ (.slice a1 p1.length c1)).setCell ⟨w.heap.size, 4, none⟩ (.slice a2 v2.length c2)) := ((Chg.refl _ _).put _ _ (by simp)).put _ _ (by simp)
  have x3 : ((w2.setCell ⟨w.heap.size, 3, none⟩ (.slice a1 p1.length c1)).setCell ⟨w.heap.size, 4, none⟩ (.slice a2 v2.length c2)).heap[w.heap.size]? = some (.cells (ccells r i s a1 p1.length c1 a2 v2.length c2 t k pa p.length pc n x da ds.length dc) 46 (0, 0)) := heap_setC (heap_setC X2.out 3 _) 4 _
  have y3 := heap_chg Y2.out hC1 (by simp)
  have ho1 := owns_chg Ho1'.out hC1 (fun k hk hm => by have := (owns_lt Ho1'.out k hk).1; simp at hm; omega)
  have ho2 := owns_chg Ho2.out hC1 (fun k hk hm => by have := (owns_lt Ho2.out k hk).1; simp at hm; omega)
  have hb3 : Below w.heap.size w ((w2.setCell ⟨w.heap.size, 3, none⟩ (.slice a1 p1.length c1)).setCell ⟨w.heap.size, 4, none⟩ (.slice a2 v2.length c2)) := HB2.out.trans (hC1.below HB2.out.size (by simp))
  have hz3 : w.heap.size + 2 ≤ ((w2.setCell ⟨w.heap.size, 3, none⟩ (.slice a1 p1.length c1)).setCell ⟨w.heap.size, 4, none⟩ (.slice a2 v2.length c2)).heap.size := by have := hC1.size; omega
  generalize (w2.setCell ⟨w.heap.size, 3, none⟩ (.slice a1 p1.length c1)).setCell ⟨w.heap.size, 4, none⟩ (.slice a2 v2.length c2) = w3 at *
  have Ho1 : Hid (OwnD w3 (w.heap.size + 2) a1 c1 p1) := Lib.hid ho1
  have Ho2 : Hid (OwnD w3 (w.heap.size + 2) a2 c2 v2) := Lib.hid ho2
  have X3 := Lib.hid x3
  have Y3 := Lib.hid y3
  have HB3 := Lib.hid hb3
  have d0 := cells_at x3
  simp only [ccells] at d0
  have z0 := heap_lt x3
  clear ho1 ho2 x3 y3 hb3 hC1 f0 X2 Y2 HB2 hz2 Ho1'
  go_wp2_with fail
  refine region_text [([0, 1, 2, 4, 5, 6], false), ([3], true), ([8, 9, 7, 10, 11, 12, 13], false)] mixed (by kernel_rfl) ?_
  simp only [wpSegs, List.map_cons, List.map_nil, List.getD_cons_succ, List.getD_cons_zero]
  go_wp2_with fail
  refine (cloneS_any pa pc p _ (H.out.pt.below HB3.out.drew) h3).mono ?_
  rintro e w4 ⟨a3, c3, p3, rfl, hp3, ho3, hb4⟩
  subst hp3
  have Hb4 := Lib.hid hb4
  have hb4' : Below w3.heap.size w3 w4 := ((Below.refl _ _).drew).trans hb4
  replace Ho1 := Lib.hid (Ho1.out.below hb4')
  replace Ho2 := Lib.hid (Ho2.out.below hb4')
  have Ho3 := Lib.hid (OwnS.base (base' := w.heap.size + 2) ho3 hz3)
  replace X3 := Lib.hid ((hb4'.block _ (heap_lt X3.out)).trans X3.out)
  replace Y3 := Lib.hid ((hb4'.block _ (heap_lt Y3.out)).trans Y3.out)
  replace HB3 := Lib.hid (below2 HB3.out hb4' HB3.out.size)
  have hz4 : w.heap.size + 2 ≤ w4.heap.size := by have := hb4'.size; omega
  clear ho3 hb4 hb4' d0 z0
  have d0 := cells_at X3.out
  simp only [ccells] at d0
  go_wp2_with fail
  refine And.intro (Agree.of_below Hb4.out) ?_
  go_wp2_with fail
  refine (cloneD_any da dc ds _ (H.out.ds.below HB3.out) h4).mono ?_
  rintro e w5 ⟨a4, c4, d4, rfl, hd4, ho4, hb5⟩
  subst hd4
  replace Ho1 := Lib.hid (Ho1.out.below hb5)
  replace Ho2 := Lib.hid (Ho2.out.below hb5)
  replace Ho3 := Lib.hid (Ho3.out.below hb5)
  have Ho4 := Lib.hid (OwnD.base (base' := w.heap.size + 2) ho4 hz4)
  replace X3 := Lib.hid ((hb5.block _ (heap_lt X3.out)).trans X3.out)
  replace Y3 := Lib.hid ((hb5.block _ (heap_lt Y3.out)).trans Y3.out)
  replace HB3 := Lib.hid (below2 HB3.out hb5 HB3.out.size)
  have hz5 : w.heap.size + 2 ≤ w5.heap.size := by have := hb5.size; omega
  clear ho4 hb5 d0 Hb4
  have d0 := cells_at X3.out
  have e0 := cells_at Y3.out
  have f0 := free_at X3.out
  have g0 := free_at Y3.out
  simp only [ccells] at d0
  go_wp2_with fail
  refine And.intro (by kernel_rfl) ?_
  go_wp2_with fail
  have hC : Chg [w.heap.size, w.heap.size + 1] w5 (((((((((((((w5.setCell ⟨w.heap.size, 7, none⟩ (.slice a3 p3.length c3)).setCell ⟨w.heap.size, 10, none⟩ (.slice a4 d4.length c4)).setCell ⟨w.heap.size + 1, 0, none⟩ (.int .u8 r)).setCell ⟨w.heap.size + 1, 1, none⟩ (.int .u32 i)).setCell ⟨w.heap.size + 1, 2, none⟩ (.int .u64 s)).setCell ⟨w.heap.size + 1, 3, none⟩ (.slice a1 p1.length c1)).setCell ⟨w.heap.size + 1, 4, none⟩ (.slice a2 v2.length c2)).setCell ⟨w.heap.size + 1, 5, none⟩ (.int .u64 t)).setCell ⟨w.heap.size + 1, 6, none⟩ (.int .u8 k)).setCell ⟨w.heap.size + 1, 7, none⟩ (.slice a3 p3.length c3)).setCell ⟨w.heap.size + 1, 8, none⟩ (.int .i64 n)).setCell ⟨w.heap.size + 1, 9, none⟩ (.string x)).setCell ⟨w.heap.size + 1, 10, none⟩ (.slice a4 d4.length c4)) :=
    (((((((((((((Chg.refl _ _).put _ _ (by simp)).put _ _ (by simp)).put _ _ (by simp)).put _ _ (by simp)).put _ _ (by simp)).put _ _ (by simp)).put _ _ (by simp)).put _ _ (by simp)).put _ _ (by simp)).put _ _ (by simp)).put _ _ (by simp)).put _ _ (by simp)).put _ _ (by simp)
  have dis : ∀ k, w.heap.size + 2 ≤ k → k ∉ [w.heap.size, w.heap.size + 1] := fun k hk hm => by simp at hm; omega
  refine bodyPost_ret (v := .agg (ccells r i s a1 p1.length c1 a2 v2.length c2 t k a3 p3.length c3 n x a4 d4.length c4)) (by simp [results, Tryz.results79, go_sem, d0, e0]; try rfl) rfl ⟨⟨⟨((r, i), s), p1, v2, t, ⟨k, n, x, p3, d4⟩⟩, a1, c1, a2, c2, a3, c3, a4, c4⟩, rfl, rfl, ⟨?_, ?_, ?_, ?_, H.out.ok⟩, ?_⟩
  · exact OwnD.base (owns_chg Ho1.out hC (fun k hk => dis k (owns_lt Ho1.out k hk).1)) (by omega)
  · exact OwnD.base (owns_chg Ho2.out hC (fun k hk => dis k (owns_lt Ho2.out k hk).1)) (by omega)
  · exact OwnS.base (owns_chg Ho3.out hC (fun k hk => dis k (owns_lt Ho3.out k hk).1)) (by omega)
  · exact OwnD.base (owns_chg Ho4.out hC (fun k hk => dis k (owns_lt Ho4.out k hk).1)) (by omega)
  · exact HB3.out.trans (hC.below HB3.out.size (by simp))
end Go.Proofs.YthdmoplclllhjaaGreat
