/- graph.ownTree: the contract. | graph.ownTree, ownBase, New: contracts. | graph.New: the contract. -/
import Derived.Test.YtbeblbgbngplhaaGreatOwtB
import Derived.Test.YtbeblbgbngplhaaGreatRegO
import Derived.Test.YtbeblbgbngplhaaGreatGraC
import Derived.Test.YtbeblbgbngplhaaGreatBasA
/- OwtC -/
namespace Go.Proofs.YtbeblbgbngplhaaGreat
open Go.RowKit
set_option linter.unusedVariables false
set_option linter.unusedSimpArgs false

abbrev fvT (bx : Nat) : Value := .func (.func 198) #[] #[.pointer (some ⟨bx, 0, none⟩)]
/-- a tree in rows of one's own is told -/
def OwtTo (w : World) (f : Nat) (T : List Nd) (e : Ending) (w' : World) : Prop := ∃ (a : Option Addr) (c : Nat) (U : List Nd), e = .returned (.slice a (List.length U) c) ∧ OwnT w' w.heap.size f a c U ∧ sameT f T U ∧ Below w.heap.size w w'
theorem OwnN.ptr {w : World} {base : Nat} {a : Option Addr} {c : Nat} {M : List Nd} (h : OwnN w base a c M) (h0 : 0 < M.length) : ∃ g, a = some ⟨g, 0, none⟩ := by
  rcases h.2 with ⟨h1, h2⟩ | ⟨g, cap, cur, h1, _⟩
  · simp at h1; omega
  · simp at h1; exact ⟨g, h1.1⟩
theorem OwnF.ptr {w : World} {base : Nat} {a : Option Addr} {c : Nat} {M : List Lv} (h : OwnF w base a c M) (h0 : 0 < M.length) : ∃ g, a = some ⟨g, 0, none⟩ := by
  rcases h.2 with ⟨h1, h2⟩ | ⟨g, cap, cur, h1, _⟩
  · simp at h1; omega
  · simp at h1; exact ⟨g, h1.1⟩
theorem OwnN.cell {w : World} {base g c q : Nat} {M : List Nd} {x : Nd} (h : OwnN w base (some ⟨g, 0, none⟩) c M) (hx : M[q]? = some x) :
    w.cell? ⟨g, q * 3, none⟩ = some (.string x.name) ∧ w.cell? ⟨g, q * 3 + 1, none⟩ = some (.slice x.la x.ls.length x.lc) ∧ w.cell? ⟨g, q * 3 + 2, none⟩ = some (.slice x.ba x.kids.length x.bc) := by
  have hq : q < M.length := (List.getElem?_eq_some_iff.1 hx).1
  have key : ∀ j, j < 3 → w.cell? ⟨g, q * 3 + j, none⟩ = (ndcell x)[j]? := fun j hj => by
    rw [World.ownsRow.cellAt h (q * 3 + j) (by omega)]
    exact flatMap_at (enc := ndcell) (k := 3) ndcell_len M q j x hx hj
  exact ⟨key 0 (by omega), key 1 (by omega), key 2 (by omega)⟩
theorem OwnF.cell {w : World} {base g c q : Nat} {M : List Lv} {v : Lv} (h : OwnF w base (some ⟨g, 0, none⟩) c M) (hv : M[q]? = some v) :
    w.cell? ⟨g, q * 9 + 7, none⟩ = some (.slice v.ia v.l.items.length v.ic) ∧ w.cell? ⟨g, q * 9 + 8, none⟩ = some (.slice v.ta v.l.tombs.length v.tc) := by
  have hq : q < M.length := (List.getElem?_eq_some_iff.1 hv).1
  have key : ∀ j, j < 9 → w.cell? ⟨g, q * 9 + j, none⟩ = (lvcell v)[j]? := fun j hj => by
    rw [World.ownsRow.cellAt h (q * 9 + j) (by omega)]
    exact flatMap_at (enc := lvcell) (k := 9) lvcell_len M q j v hv hj
  exact ⟨key 7 (by omega), key 8 (by omega)⟩
theorem held_cell {w : World} {b g j : Nat} {x : Value} {C : Array Value} {t : TypeId} {fr : Nat × Nat} (hb : w.heap[b]? = some (.cells C t fr)) (hne : b ≠ g) : Held (fun k => True → k = b) w (w.setCell ⟨g, j, none⟩ x) := .inr fun k o hk ho => by
  have hk := hk trivial
  subst hk
  rw [hb] at ho
  cases ho
  exact ⟨fun at_ u e => (by cases e), heap_chg hb (Chg.setCell w ⟨g, j, none⟩ x) (by simpa using hne)⟩
theorem OtE.round {b1 b5 b6 : Nat} {w wr w6 : World} {g c f : Nat} {T M : List Nd} {q : Nat} {x : Nd} {la ba : Option Addr} {lc bc : Nat} {N : List Lv} {U : List Nd} {C : Array Value} (h : OtE w.heap.size b1 wr (some ⟨g, 0, none⟩) c f T M q) (hx : T[q]? = some x)
    (B : BoxE 180 wr w6 C) (hb5 : b5 = wr.heap.size) (hb1 : b1 ≤ wr.heap.size) (hb6 : wr.heap.size + 1 ≤ b6) (hBw : Below w.heap.size w wr)
    (hl : OwnLs w6 (b5 + 1) la lc N) (hN : N.map (·.l) = x.ls.map (·.l)) (hk : OwnT w6 b6 f ba bc U) (hU : sameT f x.kids U) :
    OtE w.heap.size b1 ((((w6.setCell ⟨wr.heap.size, 2, none⟩ (.slice ba U.length bc)).setCell ⟨g, q * 3, none⟩ (.string x.name)).setCell ⟨g, q * 3 + 1, none⟩ (.slice la N.length lc)).setCell ⟨g, q * 3 + 2, none⟩ (.slice ba U.length bc)) (some ⟨g, 0, none⟩) c f T (M.set q (.mk x.name la lc N ba bc U)) (q + 1) ∧
      Below w.heap.size w ((((w6.setCell ⟨wr.heap.size, 2, none⟩ (.slice ba U.length bc)).setCell ⟨g, q * 3, none⟩ (.string x.name)).setCell ⟨g, q * 3 + 1, none⟩ (.slice la N.length lc)).setCell ⟨g, q * 3 + 2, none⟩ (.slice ba U.length bc)) ∧
      b1 ≤ ((((w6.setCell ⟨wr.heap.size, 2, none⟩ (.slice ba U.length bc)).setCell ⟨g, q * 3, none⟩ (.string x.name)).setCell ⟨g, q * 3 + 1, none⟩ (.slice la N.length lc)).setCell ⟨g, q * 3 + 2, none⟩ (.slice ba U.length bc)).heap.size := by
  have hC7 := Chg.setCell w6 ⟨wr.heap.size, 2, none⟩ (.slice ba U.length bc)
  have hB7 : Below wr.heap.size wr (w6.setCell ⟨wr.heap.size, 2, none⟩ (.slice ba U.length bc)) := B.bel.trans (hC7.below B.bel.size (by simp))
  have hl7 := (hl.chg hC7 (fun k hk => by simp at hk; omega)).base (b2 := b1) (by omega)
  have hk7 := OwnT.base (b2 := b1) (by omega) (OwnT.chg hC7 (fun k hk => by simp at hk; omega) hk)
  obtain ⟨S1, S2⟩ := (h.below hB7).step hx hl7 hN hk7 hU
  have hgb := (owns_lt h.row g (by simp [ob])).1
  have hws := hBw.size
  refine ⟨S1, (hBw.trans (hB7.mono hws)).trans (S2.below (Nat.le_trans hws hB7.size) (fun k hk => by rw [List.mem_singleton] at hk; omega)), ?_⟩
  exact Nat.le_trans (Nat.le_trans hb1 hB7.size) S2.size
set_option maxRecDepth 100000 in
set_option maxHeartbeats 8000000 in
theorem ownTree1_any (f : Nat) : ∀ (a : Option Addr) (c : Nat) (T : List Nd) (bx : Nat) (w : World), TrRd w f a c T → BdA 1100000 f T → w.cell? ⟨bx, 0, none⟩ = some (fvT bx) →
    Calls Tryz.prog 198 #[.slice a T.length c, .pointer (some ⟨bx, 0, none⟩)] w (OwtTo w f T) := by
  have he := enters_of Tryz.func198 (by kernel_rfl) rfl
  induction f with
  | zero =>
    intro a c T bx w hT _ hbx
    obtain ⟨rfl, hs⟩ := hT
    have Hs := Lib.hid hs
    clear hs hbx
    go_enter Tryz.func198, Tryz.ntmps198
    go_wp2_with fail
    refine (cloneN_any a c [] _ Hs.out (by simp)).mono ?_
    rintro e w1 ⟨a1, c1, v1, rfl, hv1, ho1, hb1⟩
    subst hv1
    have Ho := Lib.hid ho1
    have HB := Lib.hid hb1
    clear ho1 hb1
    go_wp2_with fail
    refine wp_loop_rounds 1 ?_
    rw [rounds_succ]
    go_wp2_with fail
    go_ret
    exact ⟨a1, c1, [], rfl, ⟨rfl, Ho.out⟩, ⟨rfl, rfl⟩, HB.out⟩
  | succ f ih =>
    intro a c T bx w hT hB hbx
    have HT := Lib.hid hT
    have HBd := Lib.hid hB
    have hbl : bx < w.heap.size := World.block_lt_of_cell? w _ hbx
    have hTl : T.length ≤ 1100000 := hB.1
    have Hbx := Lib.hid hbx
    have Ih := Lib.hid ih
    clear hT hB hbx ih
    go_enter Tryz.func198, Tryz.ntmps198
    go_wp2_with fail
    refine (cloneN_any a c T _ HT.out.sl (by omega)).mono ?_
    rintro e w1 ⟨a1, c1, v1, rfl, hv1, ho1, hb1⟩
    have e1 := hv1.symm
    clear hv1
    subst e1
    have E0 : Hid (OtE w.heap.size w1.heap.size w1 a1 c1 f T T 0) := Lib.hid (OtE.start ho1 (fun k hk => (owns_lt ho1 k hk).2))
    have HB1 := Lib.hid hb1
    have hw1 := hb1.size
    clear ho1 hb1
    go_wp2_with fail
    go_loopw [11] (fun j wr => ∃ (q : Nat) (M : List Nd), q ≤ T.length ∧ j = .int .i64 q ∧ Hid (OtE w.heap.size w1.heap.size wr a1 c1 f T M q) ∧ Hid (Below w.heap.size w wr) ∧ w1.heap.size ≤ wr.heap.size) (fun j _ => T.length - (intOf j).toNat)
    case atStart => exact ⟨0, T, Nat.zero_le _, rfl, E0, HB1, Nat.le_refl _⟩
    case round =>
      obtain ⟨q, M, hq, rfl, E, HBr, hwr⟩ := hrel
      clear E0 HB1
      by_cases hlt : q < T.length
      · obtain ⟨x, hx⟩ : ∃ x, T[q]? = some x := ⟨T[q], by simp [hlt]⟩
        obtain ⟨g, rfl⟩ := E.out.row.ptr (by rw [E.out.len]; omega)
        obtain ⟨c0, c1', c2'⟩ := E.out.row.cell (E.out.at_ hx)
        have hmem := List.mem_of_getElem? hx
        have Hm := Lib.hid (HT.out.2 x hmem)
        have Hb := Lib.hid (HBd.out.2 x hmem)
        have Hx := Lib.hid hx
        have hxl : x.ls.length ≤ 1100000 := (HBd.out.2 x hmem).1
        clear hx hmem
        go_wp2_with fail
        have hA : Below wr.heap.size wr (wr.alloc (.cells #[.string x.name, .slice x.la x.ls.length x.lc, .slice x.ba x.kids.length x.bc] 180)) := (Below.refl _ _).alloc (Nat.le_refl _) _
        have HA := Lib.hid hA
        clear hA c0 c1' c2'
        refine (cloneF_any x.la x.lc x.ls _ ((Hm.out.1.1.below HBr.out).below HA.out) (by omega)).mono ?_
        rintro e w2 ⟨a2, c2, v2, rfl, hv2, ho2, hb2⟩
        have e2 := hv2
        clear hv2
        have B2 : Hid (BoxE 180 wr w2 #[.string x.name, .slice x.la x.ls.length x.lc, .slice x.ba x.kids.length x.bc]) := Lib.hid (BoxE.of hb2)
        have Ho2 := Lib.hid (show OwnF w2 (wr.heap.size + 1) a2 c2 x.ls from owns_base (e2 ▸ ho2) (by simp))
        have e2l : v2.length = x.ls.length := by rw [e2]
        have d2 := cells_at B2.out.blk
        have f2 := free_at B2.out.blk
        have z2 := heap_lt B2.out.blk
        clear ho2 hb2 e2
        rw [e2l]
        clear e2l
        go_wp2_with fail
        have x3 : (w2.setCell ⟨wr.heap.size, 1, none⟩ (.slice a2 x.ls.length c2)).heap[wr.heap.size]? = some (.cells #[.string x.name, .slice a2 x.ls.length c2, .slice x.ba x.kids.length x.bc] 180 (0, 0)) := heap_setC B2.out.blk 1 _
        have hC3 := Chg.setCell w2 ⟨wr.heap.size, 1, none⟩ (.slice a2 x.ls.length c2)
        have hB3 : Below wr.heap.size wr (w2.setCell ⟨wr.heap.size, 1, none⟩ (.slice a2 x.ls.length c2)) := B2.out.bel.trans (hC3.below B2.out.bel.size (by simp))
        have ho3 : OwnF (w2.setCell ⟨wr.heap.size, 1, none⟩ (.slice a2 x.ls.length c2)) (wr.heap.size + 1) a2 c2 x.ls := owns_chg Ho2.out hC3 (fun k hk hm => by
          simp at hm
          subst hm
          obtain ⟨C, fr, hh⟩ := ob_row Ho2.out _ hk
          rw [B2.out.blk] at hh
          injection hh with hh
          injection hh with _ h2
          exact absurd h2 (by decide))
        generalize w2.setCell ⟨wr.heap.size, 1, none⟩ (.slice a2 x.ls.length c2) = w3 at *
        obtain ⟨b5, Hb5⟩ : ∃ b5, Hid (b5 = wr.heap.size) := ⟨_, Lib.hid rfl⟩
        have L3 : Hid (LsE (b5 + 1) w3 a2 c2 x.ls x.ls 0) := Lib.hid (LsE.start (by rw [Hb5.out]; exact ho3))
        have B3 : Hid (BoxE 180 wr w3 #[.string x.name, .slice a2 x.ls.length c2, .slice x.ba x.kids.length x.bc]) := Lib.hid ⟨x3, hB3⟩
        clear d2 f2 z2 x3 hC3 hB3 ho3 B2 Ho2
        go_loopw [23] (fun k wx => ∃ (r : Nat) (N : List Lv), r ≤ x.ls.length ∧ k = .int .i64 r ∧ Hid (LsE (b5 + 1) wx a2 c2 x.ls N r) ∧ Hid (BoxE 180 wr wx #[.string x.name, .slice a2 x.ls.length c2, .slice x.ba x.kids.length x.bc])) (fun k _ => x.ls.length - (intOf k).toNat)
        case atStart => exact ⟨0, x.ls, Nat.zero_le _, rfl, L3, B3⟩
        case round =>
          obtain ⟨r, N, hr, rfl, L, B⟩ := hrel
          clear L3 B3
          have d3 := cells_at B.out.blk
          have z3 := heap_lt B.out.blk
          by_cases hlt2 : r < x.ls.length
          · obtain ⟨v, hv⟩ : ∃ v, x.ls[r]? = some v := ⟨x.ls[r], by simp [hlt2]⟩
            obtain ⟨g2, rfl⟩ := L.out.row.ptr (by rw [L.out.len]; omega)
            obtain ⟨c7, c8⟩ := L.out.row.cell (L.out.at_ hv)
            have hmv := List.mem_of_getElem? hv
            have Hrv := Lib.hid (Hm.out.1.2 v hmv)
            have hbv := Hb.out.2.1 v hmv
            have Hv := Lib.hid hv
            clear hv hmv
            go_upto_region 9 with (fail)
            refine region_store_at 22 (fun k => k = b5) [3, 4, 5, 22, 23, 24, 25] (.seg [0, 1, 2, 3, 4, 5, 6, 7, 8, 9, 10, 11, 13, 14, 15, 16, 17, 18] false (.seg [12] true (.seg [19] true (.seg [20, 21] false (.seg [22] true (.seg [23, 24, 25] false .done)))))) mixed (by kernel_rfl) (by kernel_rfl) ?_
            simp only [wpSgE, List.map_cons, List.map_nil, List.getD_cons_succ, List.getD_cons_zero]
            go_wp2_with fail
            refine (cloneI_any v.ia v.ic v.l.items _ ((Hrv.out.1.its.below HBr.out).below B.out.bel.drew) (by omega)).mono ?_
            rintro e w4 ⟨ai, ci, v4, rfl, hv4, ho4, hb4⟩
            subst hv4
            have Hb4 := Lib.hid hb4
            have L4 := Lib.hid (L.out.below (((Below.refl _ _).drew).trans hb4))
            have B4 := Lib.hid (B.out.step (((Below.refl _ _).drew).trans hb4))
            have Ho4 := Lib.hid (show OwnI w4 (b5 + 1) ai ci v.l.items from owns_base ho4 (by have := Hb5.out; simp; omega))
            clear hb4 ho4 L B d3 z3 c7 c8
            go_wp2_with fail
            refine And.intro (.inl (Agree.of_below Hb4.out)) ?_
            go_wp2_with fail
            refine (cloneD_any v.ta v.tc v.l.tombs _ ((Hrv.out.1.tms.below HBr.out).below B4.out.bel) (by omega)).mono ?_
            rintro e w5 ⟨a5, c5, v5, rfl, hv5, ho5, hb5⟩
            subst hv5
            have Hbb := Lib.hid hb5
            have L5 := Lib.hid (L4.out.below hb5)
            have B5 := Lib.hid (B4.out.step hb5)
            have Ho5 := Lib.hid (show OwnD w5 (b5 + 1) a5 c5 v.l.tombs from owns_base ho5 (by have := Hb5.out; have := heap_lt B4.out.blk; omega))
            replace Ho4 := Lib.hid (Ho4.out.below hb5)
            obtain ⟨c7, c8⟩ := L5.out.row.cell (L5.out.at_ Hv.out)
            have fz := fun o => World.ownsRow.frozenAt L5.out.row o
            have hg2 := (owns_lt L5.out.row g2 (by simp [ob]))
            have Hk5 := Lib.hid (show w5.heap[b5]? = some (.cells #[.string x.name, .slice (some ⟨g2, 0, none⟩) x.ls.length c2, .slice x.ba x.kids.length x.bc] 180 (0, 0)) by rw [Hb5.out]; exact B5.out.blk)
            have LS := Lib.hid (LsE.step L5.out Hv.out Ho4.out Ho5.out Hrv.out.1.ok Hrv.out.2)
            clear hb5 ho5 L4 B4 Hb4
            go_wp2_with fail
            refine And.intro (.inl (Agree.of_below Hbb.out)) ?_
            go_wp2_with fail
            refine And.intro (held_cell Hk5.out (by omega)) ?_
            go_wp2_with fail
            refine And.intro (And.intro (by kernel_rfl) ?rds) ?_
            case rds => exact ⟨trivial, Hb5.out.symm, trivial, trivial, trivial, trivial, trivial, trivial⟩
            have B7 : Hid (BoxE 180 _ _ _) := Lib.hid ⟨heap_chg B5.out.blk LS.out.2 (by have := Hb5.out; simp; omega), B5.out.bel.trans (LS.out.2.below B5.out.bel.size (by have := Hb5.out; simp; omega))⟩
            clear c7 c8 fz
            go_wp2_with fail
            go_roundw
            case rel => exact ⟨r + 1, N.set r ⟨v.l, ai, ci, a5, c5⟩, by omega, by go_num, Lib.hid LS.out.1, B7⟩
            case measure => simp [intOf]; omega
          · have hre : r = x.ls.length := by omega
            subst hre
            have LF := Lib.hid L.out.fin
            have Hnl := Lib.hid L.out.len
            have hbx' : wr.cell? ⟨bx, 0, none⟩ = some (fvT bx) := ((bcell (below2 HBr.out B.out.bel HBr.out.size)).1 _ _ hbl).trans Hbx.out
            have HBx := Lib.hid hbx'
            go_wp2_with fail
            refine (Ih.out x.ba x.bc x.kids bx _ ((Hm.out.2.below HBr.out).below B.out.bel) Hb.out.2.2 HBx.out).mono ?_
            rintro e w6 ⟨a6, c6, U, rfl, hoU, hsU, hb6⟩
            have B6 := Lib.hid (B.out.step hb6)
            have HoU := Lib.hid hoU
            have HsU := Lib.hid hsU
            have LF6 := Lib.hid (LF.out.1.below hb6)
            have E6 := Lib.hid (E.out.below B6.out.bel)
            have hz6 := hb6.size
            clear hbx' hoU hsU hb6 d3 z3
            have d6 := cells_at B6.out.blk
            have f6 := free_at B6.out.blk
            have z6 := heap_lt B6.out.blk
            obtain ⟨c0, c1', c2'⟩ := E6.out.row.cell (E6.out.at_ Hx.out)
            have fz := fun o => World.ownsRow.frozenAt E6.out.row o
            have hgl := owns_lt E6.out.row g (by simp [ob])
            have hlow := E.out.low g (by simp [ob])
            have R := OtE.round E.out Hx.out B6.out Hb5.out hwr (by have := heap_lt B.out.blk; omega) HBr.out LF6.out LF.out.2 HoU.out HsU.out
            rw [Hnl.out] at R
            have HR := Lib.hid R
            clear R
            go_wp2_with fail
            go_roundw
            case rel => exact ⟨q + 1, _, by omega, by go_num, Lib.hid HR.out.1, Lib.hid HR.out.2.1, HR.out.2.2⟩
            case measure => simp [intOf]; omega
      · have hqe : q = T.length := by omega
        subst hqe
        have F := Lib.hid (E.out.fin (by omega))
        have Hl := Lib.hid E.out.len
        go_wp2_with fail
        go_ret
        exact ⟨a1, c1, M, (by rw [Hl.out]; rfl), F.out.1, F.out.2, HBr.out⟩
end Go.Proofs.YtbeblbgbngplhaaGreat

/- BasB -/
namespace Go.Proofs.YtbeblbgbngplhaaGreat
open Go.RowKit
set_option linter.unusedVariables false
set_option linter.unusedSimpArgs false

set_option maxRecDepth 100000 in
theorem ownTree_any (f : Nat) (a : Option Addr) (c : Nat) (T : List Nd) (w : World) (hT : TrRd w f a c T) (hB : BdA 1100000 f T) : Calls Tryz.prog 152 #[.slice a T.length c] w (OwtTo w f T) := by
  have he := enters_of Tryz.func198 (by kernel_rfl) rfl
  have HT := Lib.hid hT
  have HBd := Lib.hid hB
  have HA := Lib.hid (show Below w.heap.size w (w.alloc (.cells #[fvT w.heap.size] 188)) from (Below.refl _ _).alloc (Nat.le_refl _) _)
  have hc := Lib.hid (show (w.alloc (.cells #[fvT w.heap.size] 188)).cell? ⟨w.heap.size, 0, none⟩ = some (fvT w.heap.size) from by rw [cells_at (heap_new _ _)]; rfl)
  clear hT hB
  go_enter Tryz.func152, Tryz.ntmps152
  go_wp2_with fail
  refine (ownTree1_any f a c T w.heap.size _ (HT.out.below HA.out) HBd.out hc.out).mono ?_
  rintro e w1 ⟨a1, c1, U, rfl, ho, hs, hb⟩
  have Ho := Lib.hid ho
  have Hs := Lib.hid hs
  have HB := Lib.hid (below2 HA.out hb HA.out.size)
  clear ho hs hb
  go_wp2_with fail
  go_ret
  exact ⟨a1, c1, U, rfl, Ho.out.base (by simp), Hs.out, HB.out⟩
/-- a baseline in rows of one's own -/
structure OwnB (w : World) (base : Nat) (v : Bw) : Prop where
  f : OwnD w base v.fa v.fc v.b.f
  tips : OwnD w base v.ta v.tc v.b.tips
  tr : OwnT w base 3 v.ra v.rc v.b.tr
/-- the same baseline -/
structure SameBw (u v : Bs) : Prop where
  num : v.num = u.num
  f : v.f = u.f
  tips : v.tips = u.tips
  t : v.t = u.t
  tr : sameT 3 u.tr v.tr
def OwnBTo (w : World) (u : Bs) (e : Ending) (w' : World) : Prop := ∃ v : Bw, e = .returned (.agg (bwcells v)) ∧ SameBw u v.b ∧ OwnB w' w.heap.size v ∧ Below w.heap.size w w'
set_option maxRecDepth 100000 in
set_option maxHeartbeats 8000000 in
theorem ownBase_any (v : Bw) (w : World) (h : BwAt w 3 v) (hf : v.b.f.length ≤ 1100000) (ht : v.b.tips.length ≤ 1100000) (hB : BdA 1100000 3 v.b.tr) : Calls Tryz.prog 101 #[.agg (bwcells v)] w (OwnBTo w v.b) := by
  obtain ⟨⟨num, F, tips, t, tr⟩, fa, fc, ta, tc, ra, rc⟩ := v
  have H := Lib.hid h
  have HBd := Lib.hid hB
  dsimp only at hf ht
  clear h hB
  simp only [bwcells]
  go_enter Tryz.func101, Tryz.ntmps101
  go_wp2_with fail
  refine region_text [([0, 1, 3, 4, 6, 7], false), ([2], true), ([9], false), ([5], true), ([8, 10, 11, 12, 13, 14], false)] mixed (by kernel_rfl) ?_
  simp only [wpSegs, List.map_cons, List.map_nil, List.getD_cons_succ, List.getD_cons_zero]
  go_wp2_with fail
  refine (cloneV_any fa fc F _ (H.out.f.below ?bf) hf).mono ?_
  case bf => exact (((Below.refl _ _).alloc (Nat.le_refl _) _).alloc (by simp) _).drew
  rintro e w1 ⟨a1, c1, v1, rfl, hv1, ho1, hb1⟩
  have e1 := hv1.symm
  clear hv1
  subst e1
  obtain ⟨x0, y0, hz1, hB1⟩ := new2 (((Below.refl _ _).drew).trans hb1)
  have Ho1 := Lib.hid (OwnD.base (base' := w.heap.size + 2) ho1 (by simp))
  have X1 := Lib.hid x0
  have Y1 := Lib.hid y0
  have HB1 := Lib.hid hB1
  have Hb1 := Lib.hid hb1
  clear hb1 ho1 x0 y0 hB1
  go_wp2_with fail
  refine And.intro (Agree.of_below Hb1.out) ?_
  go_wp2_with fail
  refine (cloneD_any ta tc tips _ (H.out.tips.below HB1.out) ht).mono ?_
  rintro e w2 ⟨a2, c2, v2, rfl, hv2, ho2, hb2⟩
  have e2 := hv2.symm
  clear hv2
  subst e2
  replace Ho1 := Lib.hid (Ho1.out.below hb2)
  have Ho2 := Lib.hid (OwnD.base (base' := w.heap.size + 2) ho2 hz1)
  have HB2 := Lib.hid (below2 HB1.out hb2 HB1.out.size)
  replace X1 := Lib.hid ((hb2.block _ (heap_lt X1.out)).trans X1.out)
  replace Y1 := Lib.hid ((hb2.block _ (heap_lt Y1.out)).trans Y1.out)
  have hz2 : w.heap.size + 2 ≤ w2.heap.size := by have := hb2.size; omega
  have Hb2 := Lib.hid hb2
  clear ho2 hb2 HB1 Hb1
  go_wp2_with fail
  refine And.intro (Agree.of_below Hb2.out) ?_
  go_wp2_with fail
  refine (ownTree_any 3 ra rc tr _ (H.out.tr.below HB2.out) HBd.out).mono ?_
  rintro e w3 ⟨a3, c3, U, rfl, ho3, hs3, hb3⟩
  replace Ho1 := Lib.hid (Ho1.out.below hb3)
  replace Ho2 := Lib.hid (Ho2.out.below hb3)
  have Ho3 := Lib.hid (OwnT.base (b2 := w.heap.size + 2) hz2 ho3)
  have Hs3 := Lib.hid hs3
  replace X1 := Lib.hid ((hb3.block _ (heap_lt X1.out)).trans X1.out)
  replace Y1 := Lib.hid ((hb3.block _ (heap_lt Y1.out)).trans Y1.out)
  have HB3 := Lib.hid (below2 HB2.out hb3 HB2.out.size)
  have hz3 : w.heap.size + 2 ≤ w3.heap.size := by have := hb3.size; omega
  have d0 := cells_at X1.out
  have e0 := cells_at Y1.out
  have f0 := free_at X1.out
  have g0 := free_at Y1.out
  simp only [basecells] at d0
  clear hb3 Hb2 HB2 ho3 hs3
  go_wp2_with fail
  refine And.intro (by kernel_rfl) ?_
  go_wp2_with fail
  have hC : Chg [w.heap.size, w.heap.size + 1] w3 ((((((((w3.setCell ⟨w.heap.size, 1, none⟩ (.slice a1 F.length c1)).setCell ⟨w.heap.size, 2, none⟩ (.slice a2 tips.length c2)).setCell ⟨w.heap.size, 4, none⟩ (.slice a3 U.length c3)).setCell ⟨w.heap.size + 1, 0, none⟩ (.int .u64 num)).setCell ⟨w.heap.size + 1, 1, none⟩ (.slice a1 F.length c1)).setCell ⟨w.heap.size + 1, 2, none⟩ (.slice a2 tips.length c2)).setCell ⟨w.heap.size + 1, 3, none⟩ (.int .u64 t)).setCell ⟨w.heap.size + 1, 4, none⟩ (.slice a3 U.length c3)) :=
    ((((((((Chg.refl _ _).put _ _ (by simp)).put _ _ (by simp)).put _ _ (by simp)).put _ _ (by simp)).put _ _ (by simp)).put _ _ (by simp)).put _ _ (by simp)).put _ _ (by simp)
  have dis : ∀ k, w.heap.size + 2 ≤ k → k ∉ [w.heap.size, w.heap.size + 1] := fun k hk hm => by simp at hm; omega
  refine bodyPost_ret (v := .agg (basecells num a1 F.length c1 a2 tips.length c2 t a3 U.length c3)) (by simp [results, Tryz.results101, go_sem, d0, e0]; try rfl) rfl ⟨⟨⟨num, F, tips, t, U⟩, a1, c1, a2, c2, a3, c3⟩, rfl, ⟨rfl, rfl, rfl, rfl, Hs3.out⟩, ⟨?_, ?_, ?_⟩, ?_⟩
  · exact OwnD.base (owns_chg Ho1.out hC (fun k hk => dis k (owns_lt Ho1.out k hk).1)) (by omega)
  · exact OwnD.base (owns_chg Ho2.out hC (fun k hk => dis k (owns_lt Ho2.out k hk).1)) (by omega)
  · exact OwnT.base (by omega) (Ho3.out.chg hC (fun k hk => by simp at hk; omega))
  · exact HB3.out.trans (hC.below HB3.out.size (by simp))
end Go.Proofs.YtbeblbgbngplhaaGreat

/- BasC -/
namespace Go.Proofs.YtbeblbgbngplhaaGreat
open Go.RowKit
set_option linter.unusedVariables false
set_option linter.unusedSimpArgs false

theorem SameBw.base {u v : Bs} (h : SameBw u v) (hu : BaseP u) : BaseP v := by
  obtain ⟨num, f, tips, t, tr⟩ := v
  obtain ⟨h1, h2, h3, h4, h5⟩ := h
  dsimp only at h1 h2 h3 h4 h5
  subst h1 h2 h3 h4
  exact ⟨hu.canon, hu.few, hu.rise, hu.within, hu.time, hu.some1, hu.some2, hu.tree.same h5⟩
/-- a new graph above a baseline, or none -/
def NewTo (w : World) (u : Bs) (e : Ending) (w' : World) : Prop :=
  (BaseP u ∧ ∃ (pg mb : Nat) (w0 : World) (b : Bw) (va : Option Addr) (vc : Nat), e = .returned (.tuple #[.pointer (some ⟨pg, 0, none⟩), .int .i64 0]) ∧ SameBw u b.b ∧ GrAt w' pg mb w0 3 b [] va vc b.b.f ∧ Below w.heap.size w w' ∧ w.heap.size ≤ w0.heap.size) ∨
  (¬ BaseP u ∧ e = .returned (.tuple #[.pointer none, .int .i64 4]) ∧ Below w.heap.size w w')
theorem canonF_len {b : Bs} (h : BaseP b) : b.f.length ≤ 64 := by rw [← h.canon]; exact vecOf_length _
set_option maxRecDepth 100000 in
set_option maxHeartbeats 8000000 in
theorem new_any (v : Bw) (m : Nat) (w : World) (h : BwAt w m v) (hf : v.b.f.length ≤ 1100000) (ht : v.b.tips.length ≤ 1100000) (hB : BdA 1100000 3 v.b.tr) :
    Calls Tryz.prog 36 #[.agg (bwcells v)] w (NewTo w v.b) := by
  have hmm := @run_makeMap Tryz.prog
  obtain ⟨⟨num, F, tips, t, tr⟩, fa, fc, ta, tc, ra, rc⟩ := v
  have H := Lib.hid h
  have HBd := Lib.hid hB
  dsimp only at hf ht
  have HA := Lib.hid (show Below w.heap.size w (w.alloc (.cells (basecells num fa F.length fc ta tips.length tc t ra tr.length rc) 32)) from (Below.refl _ _).alloc (Nat.le_refl _) _)
  clear h hB
  simp only [bwcells]
  go_enter Tryz.func36, Tryz.ntmps36
  go_wp2_with fail
  refine (mayBase_any ⟨⟨num, F, tips, t, tr⟩, fa, fc, ta, tc, ra, rc⟩ m _ (H.out.below HA.out) hf ht HBd.out).mono ?_
  intro e w1 hto
  obtain ⟨z, rfl, hz, hb1⟩ := hto
  have E : Hid (BoxE 32 w w1 (basecells num fa F.length fc ta tips.length tc t ra tr.length rc)) := Lib.hid (BoxE.of hb1)
  have Hz := Lib.hid hz
  have d0 := cells_at E.out.blk
  simp only [basecells] at d0
  have hz1 := heap_lt E.out.blk
  clear hb1 hz
  cases z with
  | false =>
    have Hn := Lib.hid (show ¬ BaseP ⟨num, F, tips, t, tr⟩ from fun h => by have := Hz.out.2 h; cases this)
    go_wp2_with fail
    go_ret2
    exact .inr ⟨Hn.out, rfl, E.out.bel⟩
  | true =>
    have HP := Lib.hid (Hz.out.1 rfl)
    have H3 : Hid (BwAt w 3 ⟨⟨num, F, tips, t, tr⟩, fa, fc, ta, tc, ra, rc⟩) := Lib.hid ⟨H.out.f, H.out.tips, H.out.tr.may HP.out.tree, H.out.okf, H.out.okt, H.out.num, H.out.t⟩
    have hfl : F.length ≤ 64 := canonF_len HP.out
    have htl : tips.length ≤ 64 := HP.out.few
    clear Hz
    go_wp2_with fail
    refine (ownBase_any ⟨⟨num, F, tips, t, tr⟩, fa, fc, ta, tc, ra, rc⟩ _ (H3.out.below E.out.bel) hf ht HBd.out).mono ?_
    rintro e w2 ⟨⟨⟨num', F', tips', t', U⟩, a1, c1, a2, c2, a3, c3⟩, rfl, hs, ho, hb2⟩
    obtain ⟨e1, e2, e3, e4, hs5⟩ := hs
    dsimp only at e1 e2 e3 e4 hs5
    subst e1 e2 e3 e4
    replace E := Lib.hid (E.out.step hb2)
    have Ho := Lib.hid ho
    have Hs := Lib.hid hs5
    have hz := E.out.bel.size
    have hz2 := hb2.size
    clear ho hb2 hs5 d0
    have d0 := cells_at E.out.blk
    have f0 := free_at E.out.blk
    simp only [basecells] at d0
    have z0 := heap_lt E.out.blk
    simp only [bwcells]
    have HPb := Lib.hid (SameBw.base (u := ⟨num', F', tips', t', tr⟩) (v := ⟨num', F', tips', t', U⟩) ⟨rfl, rfl, rfl, rfl, Hs.out⟩ HP.out)
    go_wp2_with fail
    have hC : Chg [w.heap.size] w2 (((((w2.setCell ⟨w.heap.size, 0, none⟩ (.int .u64 num')).setCell ⟨w.heap.size, 1, none⟩ (.slice a1 F'.length c1)).setCell ⟨w.heap.size, 2, none⟩ (.slice a2 tips'.length c2)).setCell ⟨w.heap.size, 3, none⟩ (.int .u64 t')).setCell ⟨w.heap.size, 4, none⟩ (.slice a3 U.length c3)) := (((((Chg.refl _ _).put _ _ (by simp)).put _ _ (by simp)).put _ _ (by simp)).put _ _ (by simp)).put _ _ (by simp)
    have hs4 : (((((w2.setCell ⟨w.heap.size, 0, none⟩ (.int .u64 num')).setCell ⟨w.heap.size, 1, none⟩ (.slice a1 F'.length c1)).setCell ⟨w.heap.size, 2, none⟩ (.slice a2 tips'.length c2)).setCell ⟨w.heap.size, 3, none⟩ (.int .u64 t')).setCell ⟨w.heap.size, 4, none⟩ (.slice a3 U.length c3)).heap.size = w2.heap.size := by simp
    have hs4' := Lib.hid hs4
    clear hs4
    generalize (((((w2.setCell ⟨w.heap.size, 0, none⟩ (.int .u64 num')).setCell ⟨w.heap.size, 1, none⟩ (.slice a1 F'.length c1)).setCell ⟨w.heap.size, 2, none⟩ (.slice a2 tips'.length c2)).setCell ⟨w.heap.size, 3, none⟩ (.int .u64 t')).setCell ⟨w.heap.size, 4, none⟩ (.slice a3 U.length c3)) = w4 at *
    have hF : ∀ k ∈ [w.heap.size], k < w1.heap.size := fun k hk => by rw [List.mem_singleton] at hk; subst hk; exact hz1
    have o1 := owns_chg Ho.out.f hC (fun k hk hm => by have := (owns_lt Ho.out.f k hk).1; simp at hm; omega)
    have o2 := owns_chg Ho.out.tips hC (fun k hk hm => by have := (owns_lt Ho.out.tips k hk).1; simp at hm; omega)
    have o3 := OwnT.chg hC hF Ho.out.tr
    have hB4 : Below w.heap.size w w4 := E.out.bel.trans (hC.below hz (by simp))
    have hw4 : Below w4.heap.size w4 ((w4.alloc (.map #[] 0)).alloc (.cells (gcells num' a1 F'.length c1 a2 tips'.length c2 t' a3 U.length c3 w4.heap.size a1 F'.length c1) 122)) := ((Below.refl _ _).alloc (Nat.le_refl _) _).alloc (by simp) _
    have hG : GrAt ((w4.alloc (.map #[] 0)).alloc (.cells (gcells num' a1 F'.length c1 a2 tips'.length c2 t' a3 U.length c3 w4.heap.size a1 F'.length c1) 122)) (w4.heap.size + 1) w4.heap.size w4 3 ⟨⟨num', F', tips', t', U⟩, a1, c1, a2, c2, a3, c3⟩ [] a1 c1 F' :=
      ⟨heap_new2 _ _ _, (MapN.made w4).below ((Below.refl _ _).alloc (Nat.le_refl _) _), ⟨by omega, by omega⟩, hw4, ⟨vec_of o1, vec_of o2, OwnT.rd o3, H.out.okf, H.out.okt, H.out.num, H.out.t⟩, fun v hv => (by cases hv), OwnD.base (OwnD.below o1 hw4) (Nat.zero_le _), H.out.okf, List.nodup_nil, fun v hv => (by cases hv), by decide, by dsimp only; omega, by dsimp only; omega, by omega, HPb.out, fun v hv => (by cases hv)⟩
    have HG := Lib.hid hG
    have HBF := Lib.hid (hB4.trans (hw4.mono hB4.size))
    have hsz4 := hB4.size
    clear hC o1 o2 o3 hB4 hw4 hG hF
    have hG2 := HG.out
    have hB2 := HBF.out
    rw [hs4'.out] at hG2 hB2
    exact bodyPost_ret (v := .tuple #[.pointer (some ⟨w2.heap.size + 1, 0, none⟩), .int .i64 0]) (by simp [results, Tryz.results36, go_sem]; try rfl) rfl (.inl ⟨HP.out, w2.heap.size + 1, w2.heap.size, w4, ⟨⟨num', F', tips', t', U⟩, a1, c1, a2, c2, a3, c3⟩, a1, c1, rfl, ⟨rfl, rfl, rfl, rfl, Hs.out⟩, hG2, hB2, hsz4⟩)
end Go.Proofs.YtbeblbgbngplhaaGreat
