/- fuse.both: the items of two leaves that are no tombs, rising: contract. -/
import Derived.Test.YtmabjghjkgicgaaFuseC
namespace Go.Proofs.Ytmabjghjkgicgaa
open Go.RowKit
set_option linter.unusedVariables false
set_option linter.unusedSimpArgs false

/-- what 'both' holds while it goes through the items: tombs, what is kept, what was seen -/
structure BothE (w0 wK W : World) (ta : Option Addr) (tc : Nat) (ts L : List Dt) (v : List It) : Prop where
  bt : W.heap[w0.heap.size]? = some (.cells #[.slice ta ts.length tc] 33 (0, 0))
  bl : ∃ va vc, W.heap[w0.heap.size + 1]? = some (.cells #[.slice va v.length vc] 38 (0, 0)) ∧ OwnI W wK.heap.size va vc v
  bs : W.heap[w0.heap.size + 3]? = some (.cells #[.map (some (w0.heap.size + 2))] 24 (0, 0))
  seen : SeenAt W (w0.heap.size + 2) L
  bel : Below w0.heap.size w0 W
  chg : Chg [w0.heap.size + 1, w0.heap.size + 2] wK W
  sz : w0.heap.size + 4 ≤ wK.heap.size
theorem BothE.step {w0 wK W W' : World} {ta : Option Addr} {tc : Nat} {ts L : List Dt} {v : List It} (h : BothE w0 wK W ta tc ts L v) (hb : Below W.heap.size W W') : BothE w0 wK W' ta tc ts L v := by
  obtain ⟨va, vc, h1, h2⟩ := h.bl
  exact ⟨(hb.block _ (heap_lt h.bt)).trans h.bt, ⟨va, vc, (hb.block _ (heap_lt h1)).trans h1, h2.below hb⟩, (hb.block _ (heap_lt h.bs)).trans h.bs, h.seen.below hb, below2 h.bel hb h.bel.size, h.chg.trans (Chg.of_below (F := []) hb) (by simp), h.sz⟩
theorem BothE.saw {w0 wK W W' : World} {ta : Option Addr} {tc : Nat} {ts L L' : List Dt} {v : List It} (h : BothE w0 wK W ta tc ts L v) (hc : Chg [w0.heap.size + 2] W W') (hs : SeenAt W' (w0.heap.size + 2) L') : BothE w0 wK W' ta tc ts L' v := by
  obtain ⟨va, vc, h1, h2⟩ := h.bl
  have hz := h.sz
  have hz2 := h.chg.size
  exact ⟨heap_chg h.bt hc (by simp), ⟨va, vc, heap_chg h1 hc (by simp), owns_chg h2 hc (fun k hk hm => by have := (owns_lt h2 k hk).1; simp at hm; omega)⟩, heap_chg h.bs hc (by simp), hs, h.bel.trans (hc.below (by omega) (by simp)), h.chg.trans hc (by simp), h.sz⟩
theorem BothE.kept {w0 wK W W' : World} {ta : Option Addr} {tc : Nat} {ts L : List Dt} {v v' : List It} {a' : Option Addr} {c' : Nat} (h : BothE w0 wK W ta tc ts L v) (hb : Below wK.heap.size W W') (ho : OwnI W' wK.heap.size a' c' v') :
    BothE w0 wK (W'.setCell ⟨w0.heap.size + 1, 0, none⟩ (.slice a' v'.length c')) ta tc ts L v' := by
  obtain ⟨va, vc, h1, h2⟩ := h.bl
  have hz := h.sz
  have hz2 := h.chg.size
  have hC := Chg.setCell W' ⟨w0.heap.size + 1, 0, none⟩ (.slice a' v'.length c')
  have hb1 := (hb.block _ (show w0.heap.size + 1 < wK.heap.size by omega)).trans h1
  have hbs := (hb.block _ (show w0.heap.size + 3 < wK.heap.size by omega)).trans h.bs
  have hbt := (hb.block _ (show w0.heap.size < wK.heap.size by omega)).trans h.bt
  refine ⟨heap_chg hbt hC (by simp), ⟨a', c', heap_setCell1 hb1, owns_chg ho hC (fun k hk hm => by have := (owns_lt ho k hk).1; simp at hm; omega)⟩, heap_chg hbs hC (by simp), ?_, ?_, ?_, h.sz⟩
  · refine SeenAt.chg (F := [w0.heap.size + 1]) ?_ hC (by simp)
    obtain ⟨es, ck, g1, g2⟩ := h.seen
    exact ⟨es, ck, (hb.block _ (show w0.heap.size + 2 < wK.heap.size by omega)).trans g1, g2⟩
  · exact (h.bel.trans (hb.mono (by omega))).setCell (by simp) _
  · have h3 : Chg [w0.heap.size + 1, w0.heap.size + 2] wK W' := ⟨hb.os.trans h.chg.os, hb.tape.trans h.chg.tape, hb.output.trans h.chg.output, Nat.le_trans hz2 hb.size, fun k hk hn => (hb.block k hk).trans (h.chg.block k hk hn)⟩
    exact h3.trans hC (by simp)
/-- behind one item more -/
def KeptTo (w0 wK : World) (ta : Option Addr) (tc : Nat) (ts L : List Dt) (v : List It) (x : It) (W' : World) : Prop := ∃ v', v' = (if x.d ∉ L ∧ x.d ∉ ts then v ++ [x] else v) ∧ BothE w0 wK W' ta tc ts (L ++ [x.d]) v'
set_option maxRecDepth 100000 in
set_option maxHeartbeats 4000000 in
theorem keep_any (w0 wK W : World) (ta : Option Addr) (tc : Nat) (ts L : List Dt) (v : List It) (x : It) (h : BothE w0 wK W ta tc ts L v) (hts : Vec w0 ta tc ts) (hok : okD x.d) (hL : L.length ≤ 2500000) (hv : v.length ≤ 2500000) (hn : ts.length ≤ 3000000) :
    Calls Try.prog 90 #[.agg #[.int .u64 x.t, .int .u8 x.d.1.1, .int .u32 x.d.1.2, .int .u64 x.d.2, .string x.x], .pointer (some ⟨w0.heap.size + 3, 0, none⟩), .pointer (some ⟨w0.heap.size, 0, none⟩), .pointer (some ⟨w0.heap.size + 1, 0, none⟩)] W fun e W' => e = .returned (.tuple #[]) ∧ KeptTo w0 wK ta tc ts L v x W' := by
  obtain ⟨t, ⟨⟨r, i⟩, s⟩, x⟩ := x
  dsimp only at hok
  have Hok := Lib.hid hok
  have Hts := Lib.hid hts
  have hlt := h.seen.lt
  have hcb := cntI_bd L ((r, i), s)
  have hb0 : Below W.heap.size W (W.alloc (.cells #[.int .u64 t, .int .u8 r, .int .u32 i, .int .u64 s, .string x] 58 (0, 0))).drew := ((Below.refl _ _).alloc (Nat.le_refl _) _).drew
  have E0 := h.step hb0
  obtain ⟨w2, w3, st, hr1, hr2, hr3, hr4, hs3, hC3⟩ := SeenAt.plus E0.seen hok
  have hr5 := SeenAt.look hs3 hok
  rw [cntI_snoc, if_pos rfl] at hr5
  have E3 := Lib.hid (E0.saw hC3 hs3)
  have hbx : (W.alloc (.cells #[.int .u64 t, .int .u8 r, .int .u32 i, .int .u64 s, .string x] 58 (0, 0))).drew.heap[W.heap.size]? = some (.cells #[.int .u64 t, .int .u8 r, .int .u32 i, .int .u64 s, .string x] 58 (0, 0)) := heap_new W _
  have hx3 := heap_chg hbx hC3 (by simp; omega)
  have Hx3 := Lib.hid hx3
  have d0 := cells_at hx3
  have b0 := cells_at h.bs
  have hl3 := heap_lt h.bs
  have b3 := cells_at E3.out.bs
  have t3 := cells_at E3.out.bt
  have hsz : W.heap.size + 1 ≤ w3.heap.size := by have := hC3.size; simpa using this
  have Hh := Lib.hid h
  clear h hok hts hs3 hC3 E0 hb0 hbx hx3
  go_enter Try.func90, Try.ntmps90
  go_wp2_with fail
  refine region_tree (.seg [0, 1, 2] false (.fork (.seg [3, 4, 5, 6, 7] false .done) (.seg [5, 6, 3, 4, 7] false .done))) mixed (by kernel_rfl) ?_
  simp only [wpSg, List.map_cons, List.map_nil, List.getD_cons_succ, List.getD_cons_zero]
  go_wp2_with fail
  refine And.intro ?_ ?_
  all_goals
    go_wp2_with fail
    refine And.intro (by kernel_rfl) ?_
    by_cases hin : ((r, i), s) ∈ L
    · have hc0 : cntI L ((r, i), s) ≠ 0 := fun e => cntI_zero.1 e hin
      have hc1 : (cntI L ((r, i), s) + 1 == 1) = false := by simp; omega
      have He := Lib.hid hin
      clear hin
      go_wp2_with fail
      go_end0
      exact ⟨rfl, v, by rw [if_neg (fun hh => hh.1 He.out)], E3.out⟩
    · have hc0 : cntI L ((r, i), s) = 0 := cntI_zero.2 hin
      have He := Lib.hid hin
      rw [hc0] at hr5
      clear hin
      go_wp2_with fail
      refine (containsD_any ta tc ts ((r, i), s) _ (Hts.out.below E3.out.bel) hn).mono ?_
      rintro e w4 ⟨q, rfl, hq, hb4⟩
      have E4 := Lib.hid (E3.out.step hb4)
      have hx4 := (hb4.block _ (heap_lt Hx3.out)).trans Hx3.out
      have d4 := cells_at hx4
      have Hq := Lib.hid hq
      have hsz4 : W.heap.size + 1 ≤ w4.heap.size := by have := hb4.size; omega
      clear hq hb4 d0 b3 t3 hx4
      cases q with
      | true =>
        go_wp2_with fail
        go_end0
        exact ⟨rfl, v, by rw [if_neg (fun hh => hh.2 (Hq.out.1 (by simp)))], E4.out⟩
      | false =>
        have Hnt := Lib.hid (show ((r, i), s) ∉ ts from fun hh => by have := Hq.out.2 hh; cases this)
        obtain ⟨va, vc, hl4, ho4⟩ := E4.out.bl
        have l4 := cells_at hl4
        have Ho4 := Lib.hid ho4
        have hK : wK.heap.size ≤ w4.heap.size := E4.out.chg.size
        have hzK := E4.out.sz
        clear hl4 ho4 Hq
        go_wp2_with (at_builtin; go_must (refine wpList_appI rfl _ _ rfl wK.heap.size va vc v rfl ?o1 (some ⟨w4.heap.size, 0, none⟩) 1 [⟨t, ((r, i), s), x⟩] rfl ?s1 ?n1 ?b1 ?_))
        case o1 => exact Ho4.out.below ((Below.refl _ _).alloc (Nat.le_refl _) _)
        case s1 => exact its_one (heap_new w4 _)
        case n1 => simp; omega
        case b1 => simp; omega
        intro v' a' c' w5 hv' ho5 hb5 _
        have Hv' := Lib.hid hv'
        have hb5' : Below wK.heap.size w4 w5 := ((Below.refl _ _).alloc (by omega) _).trans hb5
        obtain ⟨va', vc', hl4, _⟩ := E4.out.bl
        have l5 := cells_at ((hb5'.block _ (show w0.heap.size + 1 < wK.heap.size by omega)).trans hl4)
        have f5 := free_at ((hb5'.block _ (show w0.heap.size + 1 < wK.heap.size by omega)).trans hl4)
        have E6 := Lib.hid (E4.out.kept hb5' ho5)
        clear hv' ho5 hb5 hb5' hl4
        go_wp2_with fail
        go_end0
        exact ⟨rfl, v', by rw [Hv'.out, if_pos ⟨He.out, Hnt.out⟩], E6.out⟩
end Go.Proofs.Ytmabjghjkgicgaa
