/- The reference's Change. -/
import Derived.Test.YtkgbdgnfidpelaaRefB
namespace Go.Proofs.Ytkgbdgnfidpelaa
open Go.RowKit
set_option linter.unusedVariables false
set_option linter.unusedSimpArgs false

theorem strOf_append (a b : List UInt8) : strOf a ++ strOf b = strOf (a ++ b) := ByteArray.mk_append_mk a b
theorem strOf_take (bs : List UInt8) (k : Nat) : (strOf bs).extract 0 k = strOf (bs.take k) := by
  apply ByteArray.ext; simp [strOf, ByteArray.data_extract]
theorem strOf_drop (bs : List UInt8) (k : Nat) : (strOf bs).extract k (strOf bs).size = strOf (bs.drop k) := by
  apply ByteArray.ext
  rw [strOf_size]
  simp [strOf, ByteArray.data_extract]
  exact List.take_of_length_le (by simp)
theorem strOf_get (bs : List UInt8) (k : Nat) (h : k < (strOf bs).size) (h' : k < bs.length) : (strOf bs)[k] = bs[k] := by
  show bs.toArray[k] = bs[k]
  simp

theorem change_ref_no (pr : Nat) (i at_ : Int) (y : UInt8) (w : World) (L : List Lt) (F : List Nat) (h : RefR w pr L F) (hno : mayChange L i at_ y = false) :
    Calls Try.prog 18 #[.pointer (some ⟨pr, 0, none⟩), .int .i64 i, .int .i64 at_, .int .u8 (y.toNat : Int)] w fun e w' => e = .returned (.bool false) ∧ w = w' := by
  have hlt := h.lt
  obtain ⟨ta, tc, ba, bc, wa, kc, hR, rfl⟩ := h
  by_cases hin : 0 ≤ i ∧ i < (L.length : Int)
  · obtain ⟨j, rfl⟩ : ∃ j : Nat, i = j := ⟨i.toNat, by omega⟩
    have hj : j < L.length := by omega
    obtain ⟨⟨t8, bs, ch⟩, hx⟩ : ∃ x, L[j]? = some x := ⟨L[j], by simp [hj]⟩
    obtain ⟨g1, rfl, t1, _, hi1⟩ := own_at (i := j) (u := .int .u8 t8) hR.t (by simp only [tcells, List.getElem?_map, hx, Option.map_some])
    obtain ⟨g2, rfl, t2, _, _⟩ := own_at (i := j) (u := .string (strOf bs)) hR.b (by simp only [bcells, List.getElem?_map, hx, Option.map_some])
    obtain ⟨g3, rfl, t3, _, _⟩ := own_at (i := j) (u := .bool ch) hR.c (by simp only [ccells, List.getElem?_map, hx, Option.map_some])
    have cc := cells_at hR.blk
    have lpr : pr < w.heap.size := hlt _ (by simp)
    have l1 : g1 < w.heap.size := hlt _ (by simp [ob])
    have l2 : g2 < w.heap.size := hlt _ (by simp [ob])
    have l3 : g3 < w.heap.size := hlt _ (by simp [ob])
    have hj' : (j : Int) < (L.length : Int) := by omega
    have Hd := Lib.hid (show decide (0 ≤ (j : Int) ∧ (j : Int) < (L.length : Int)) = true by simp; omega)
    have hss := strOf_size bs
    have Hblk := Lib.hid hR.blk
    simp only [mayChange, Int.toNat_natCast, hx, Option.map_some, Option.getD_some] at hno
    by_cases hy : y = 0
    · subst hy
      have hb : (((0 : UInt8).toNat : Int) == 0) = true := rfl
      clear hR hlt hno
      go_enter Try.func18, Try.ntmps18
      go_wp2_with fail
      refine (is_ref pr _ (.bool true) _ L.length bc _ j _ Hblk.out).mono ?_
      rintro e w' ⟨rfl, rfl⟩
      rw [Hd.out]
      go_wp2_with fail
      go_ret
      exact ⟨rfl, rfl⟩
    · have hb : ((y.toNat : Int) == 0) = false := by
        simp only [beq_eq_false_iff_ne]; intro e; apply hy; exact UInt8.toNat_inj.1 (by simpa using e)
      cases ch with
      | true =>
        clear hR hlt hno
        go_enter Try.func18, Try.ntmps18
        go_wp2_with fail
        refine (is_ref pr _ (.bool true) _ L.length bc _ j _ Hblk.out).mono ?_
        rintro e w' ⟨rfl, rfl⟩
        rw [Hd.out]
        go_wp2_with fail
        go_ret
        exact ⟨rfl, rfl⟩
      | false =>
        by_cases ha : at_ < 0
        · clear hR hlt hno
          go_enter Try.func18, Try.ntmps18
          go_wp2_with fail
          refine (is_ref pr _ (.bool true) _ L.length bc _ j _ Hblk.out).mono ?_
          rintro e w' ⟨rfl, rfl⟩
          rw [Hd.out]
          go_wp2_with fail
          go_ret
          exact ⟨rfl, rfl⟩
        · have hle : (bs.length : Int) ≤ at_ := by
            simp only [Bool.and_eq_false_iff, bne_eq_false_iff_eq, decide_eq_false_iff_not, Bool.not_eq_false', hy] at hno
            simp at hno
            omega
          have hle2 : ((strOf bs).size : Int) ≤ at_ := by omega
          clear hR hlt hno
          go_enter Try.func18, Try.ntmps18
          go_wp2_with fail
          refine (is_ref pr _ (.bool true) _ L.length bc _ j _ Hblk.out).mono ?_
          rintro e w' ⟨rfl, rfl⟩
          rw [Hd.out]
          go_wp2_with fail
          go_ret
          exact ⟨rfl, rfl⟩
  · have Hd := Lib.hid (show decide (0 ≤ i ∧ i < (L.length : Int)) = false by simp; omega)
    have Hblk := Lib.hid hR.blk
    clear hR hlt hno
    go_enter Try.func18, Try.ntmps18
    go_wp2_with fail
    refine (is_ref pr _ (.bool true) _ L.length bc _ i _ Hblk.out).mono ?_
    rintro e w' ⟨rfl, rfl⟩
    rw [Hd.out]
    go_wp2_with fail
    go_ret
    exact ⟨rfl, rfl⟩
/-- a set of a row's cell -/
theorem modify_at (L : List Lt) (i : Nat) (l : Lt) (f : Lt → Lt) (h : L[i]? = some l) : L.modify i f = L.set i (f l) := by
  apply List.ext_getElem?
  intro k
  rw [List.getElem?_modify, List.getElem?_set]
  by_cases hk : i = k
  · subst hk
    have hi : i < L.length := by
      rcases Nat.lt_or_ge i L.length with h' | h'
      · exact h'
      · rw [List.getElem?_eq_none h'] at h; cases h
    simp only [if_true, h, hi]
    rfl
  · simp [hk]
theorem modify_bytes (bs : List UInt8) (k : Nat) (y : UInt8) (h : k < bs.length) : bs.take k ++ [bs[k] ^^^ y] ++ bs.drop (k + 1) = bs.modify k (· ^^^ y) := by
  apply List.ext_getElem?
  intro n
  rw [List.getElem?_modify]
  rcases Nat.lt_trichotomy n k with h1 | h1 | h1
  · rw [List.append_assoc, List.getElem?_append_left (by simp; omega)]
    simp [h1, show ¬ k = n by omega]
  · subst h1
    rw [List.append_assoc, List.getElem?_append_right (by simp; omega)]
    simp [show min n bs.length = n by omega, h]
  · rw [List.getElem?_append_right (by simp; omega)]
    simp [show min k bs.length = k by omega, show ¬ k = n by omega]
    congr 1
    omega

set_option maxHeartbeats 4000000 in
set_option maxRecDepth 100000 in
theorem change_ref_yes (pr i k : Nat) (y : UInt8) (t8 : Int) (bs : List UInt8) (w : World) (L : List Lt) (F : List Nat) (h : RefR w pr L F) (hi : L[i]? = some ⟨t8, bs, false⟩) (hk : k < bs.length) (hy : y ≠ 0) (hm : L.length ≤ 1000000) (hbl : bs.length ≤ 1000000) :
    Calls Try.prog 18 #[.pointer (some ⟨pr, 0, none⟩), .int .i64 i, .int .i64 k, .int .u8 (y.toNat : Int)] w fun e w' => e = .returned (.bool true) ∧ RefTo w pr F (L.set i ⟨t8, bs.modify k (· ^^^ y), true⟩) w' := by
  obtain ⟨j0, hj0, hy0, hy1, hy2⟩ := info_parts Try.info_string
  obtain ⟨k0, hk0, hx0, hx1, hx2⟩ := info_parts Try.info_bool
  have hlt := h.lt
  obtain ⟨ta, tc, ba, bc, wa, kc, hR, rfl⟩ := h
  obtain ⟨g1, rfl, t1, _, hi1⟩ := own_at (i := i) (u := .int .u8 t8) hR.t (by simp only [tcells, List.getElem?_map, hi, Option.map_some])
  obtain ⟨g2, rfl, t2, _, _⟩ := own_at (i := i) (u := .string (strOf bs)) hR.b (by simp only [bcells, List.getElem?_map, hi, Option.map_some])
  obtain ⟨g3, rfl, t3, _, _⟩ := own_at (i := i) (u := .bool false) hR.c (by simp only [ccells, List.getElem?_map, hi, Option.map_some])
  have cc := cells_at hR.blk
  have HR := Lib.hid hR
  have lpr : pr < w.heap.size := hlt _ (by simp)
  have l1 : g1 < w.heap.size := hlt _ (by simp [ob])
  have l2 : g2 < w.heap.size := hlt _ (by simp [ob])
  have l3 : g3 < w.heap.size := hlt _ (by simp [ob])
  have hi' : (i : Int) < (L.length : Int) := by omega
  have Hd := Lib.hid (show decide (0 ≤ (i : Int) ∧ (i : Int) < (L.length : Int)) = true by simp; omega)
  have hb : ((y.toNat : Int) == 0) = false := by
    simp only [beq_eq_false_iff_ne]; intro e; apply hy; exact UInt8.toNat_inj.1 (by simpa using e)
  have hss := strOf_size bs
  have hks : (k : Int) < ((strOf bs).size : Int) := by omega
  have hs1 : ∀ wx : World, (Instr.slice 9 (.string (strOf bs)) none (some (.int .i64 (k : Int))) none).run Try.prog wx = .ok (.string (strOf (bs.take k))) wx := fun wx => by
    rw [run_slice_string_h wx _ _ Try.underlying9 _ _ (by omega) (by omega), Int.toNat_natCast, strOf_take]
  have hs2 : ∀ wx : World, (Instr.slice 9 (.string (strOf bs)) (some (.int .i64 ((k : Int) + 1))) none none).run Try.prog wx = .ok (.string (strOf (bs.drop (k + 1)))) wx := fun wx => by
    rw [run_slice_string_l wx _ _ Try.underlying9 _ _ (by omega) (by omega), show ((k : Int) + 1).toNat = k + 1 by omega, strOf_drop]
  have hix : ∀ wx : World, (Instr.index 9 (.string (strOf bs)) (.int .i64 (k : Int))).run Try.prog wx = .ok (.int .u8 (bs[k].toNat : Int)) wx := fun wx => by
    rw [run_index_string wx _ _ _ _ Try.underlying9, dif_pos (by omega)]
    simp only [Int.toNat_natCast]
    exact congrArg (fun b : UInt8 => Result.ok (Value.int .u8 (b.toNat : Int)) wx) (strOf_get bs k (by omega) hk)
  have hxor := xor_u8 bs[k] y
  have Hi := Lib.hid hi
  have Hlt := Lib.hid hlt
  clear hR hi hlt
  go_enter Try.func18, Try.ntmps18
  go_wp2_with fail
  refine (is_ref pr _ (.bool true) _ L.length bc _ i _ HR.out.blk).mono ?_
  rintro e w' ⟨rfl, rfl⟩
  rw [Hd.out]
  go_wp2_with (at_builtin; go_must (refine wpList_append_sl rfl _ _ 41 rfl w.heap.size 9 j0 (.string ⟨#[]⟩) 1 16 Try.underlying41 hj0 hy0 hy1 hy2 rfl (by decide) _ 0 0 [] rfl (World.ownsRow_made w #[] 0 (Nat.le_refl _) (by decide) rfl) (some ⟨g2, 0, none⟩) L.length bc (bcells L) rfl ((Sl.of_owns HR.out.b).below ((Below.refl _ _).alloc (Nat.le_refl _) _)) (bcells_one L) ?c3 ?c4 ?c5 ?_))
  case c3 => unfold maxLen; omega
  case c4 => omega
  case c5 => simp
  intro b1 d1 w1 ho1 hc1 hl1
  have hs1' := hc1.size
  simp at hs1'
  have hF1 : ∀ x ∈ ob b1, w.heap.size ≤ x := fun x hx => by rcases hl1 x hx with h | h; simp [ob] at h; omega; omega
  have hB1 : Below w.heap.size w w1 := ((Below.refl _ _).alloc (Nat.le_refl _) _).trans (hc1.below (by simp) (by simp [ob]))
  have ho1' := owns_base ho1 (Nat.zero_le _)
  obtain ⟨gb, rfl, _, _, _⟩ := own_at (i := i) (u := .string (strOf bs)) ho1' (by simp only [bcells, List.getElem?_map, Hi.out, Option.map_some])
  have hgb : w.heap.size ≤ gb := hF1 gb (by simp [ob])
  have hblk := heap_chg HR.out.blk (Chg.of_below (F := []) hB1) (by simp)
  have cc2 := cells_at hblk
  have ff2 := free_at hblk
  have Hblk := Lib.hid hblk
  have Ho1 := Lib.hid ho1'
  have HB1 := Lib.hid hB1
  clear hblk ho1 ho1' hc1 hl1 hF1 hB1 cc t1 t2 t3
  go_upto_region 5 with (fail)
  generalize hW : w1.setCell ⟨pr, 1, none⟩ (.slice (some ⟨gb, 0, none⟩) L.length d1) = W
  have hbW : W.heap[pr]? = some (.cells #[.slice (some ⟨g1, 0, none⟩) L.length tc, .slice (some ⟨gb, 0, none⟩) L.length d1, .slice (some ⟨g3, 0, none⟩) L.length kc] 44 (0, 0)) := by
    rw [← hW, heap_setCell_same _ _ 1 _ _ _ Hblk.out]; rfl
  have hCW : Chg [pr] w W := by
    rw [← hW]; exact (Chg.of_below (F := [pr]) HB1.out).trans (Chg.setCell w1 ⟨pr, 1, none⟩ _) (by simp)
  have hoW : W.ownsRow 0 9 1 (.slice (some ⟨gb, 0, none⟩) L.length d1) L.length (bcells L) := by
    rw [← hW]; exact owns_chg Ho1.out (Chg.setCell w1 ⟨pr, 1, none⟩ _) (by simp [ob]; omega)
  have np := notpr HR.out
  have htW := owns_chg HR.out.t hCW (by simpa using np.1)
  have hcW := owns_chg HR.out.c hCW (by simpa using np.2.2)
  obtain ⟨_, he, tb, fb, _⟩ := own_at (i := i) (u := .string (strOf bs)) hoW (by simp only [bcells, List.getElem?_map, Hi.out, Option.map_some])
  cases he
  have ccW := cells_at hbW
  have lpW := heap_lt hbW
  have lgW : gb < W.heap.size := (owns_lt hoW gb (by simp [ob])).2
  have hsW := hCW.size
  have hcv : (convert 24 9 (.slice (some ⟨W.heap.size, 0, none⟩) 1 1)).run Try.prog (W.alloc (.cells #[.int .u8 ((bs[k].toNat ^^^ y.toNat : Nat) : Int)] 5)).drew = .ok (.string (strOf [bs[k] ^^^ y])) (W.alloc (.cells #[.int .u8 ((bs[k].toNat ^^^ y.toNat : Nat) : Int)] 5)).drew := by
    rw [← UInt8.toNat_xor]
    exact conv_str (bs := [bs[k] ^^^ y]) (Sl.of_block (C := #[.int .u8 ((bs[k] ^^^ y).toNat : Int)]) (heap_new W _) rfl (by decide))
  have hsz1 : ¬ ((strOf (bs.take k)).size + (strOf [bs[k] ^^^ y]).size > 9223372036854775807) := by simp [strOf_size]; omega
  have hap1 := strOf_append (bs.take k) [bs[k] ^^^ y]
  have hsz2 : ¬ ((strOf (bs.take k ++ [bs[k] ^^^ y])).size + (strOf (bs.drop (k + 1))).size > 9223372036854775807) := by simp [strOf_size]; omega
  have hap2 := strOf_append (bs.take k ++ [bs[k] ^^^ y]) (bs.drop (k + 1))
  have Hap := Lib.hid hap2
  have HbW := Lib.hid hbW
  have HCW := Lib.hid hCW
  have HoW := Lib.hid hoW
  have HtW := Lib.hid htW
  have HcW := Lib.hid hcW
  clear hW Hblk Ho1 cc2 ff2 hbW hCW hoW htW hcW hap2 np
  refine region_text [([0, 1, 2, 3, 4, 5, 6, 7, 8, 9, 10, 11, 12, 16, 17, 18, 19, 13, 14, 15, 20, 21, 22], false)] mixed (by kernel_rfl) ?_
  simp only [wpSegs, List.map_cons, List.map_nil, List.getD_cons_succ, List.getD_cons_zero]
  go_wp2_with fail
  refine And.intro (by kernel_rfl) ?_
  rw [Hap.out, modify_bytes bs k y hk]
  generalize hV : ((W.setCell ⟨gb, i, none⟩ (.string (strOf (bs.modify k (· ^^^ y))))).alloc (.cells #[.int .u8 ((bs[k].toNat ^^^ y.toNat : Nat) : Int)] 5)).drew = V
  have hC0 : Chg [gb] W V := by
    rw [← hV]; exact ((Chg.setCell W ⟨gb, i, none⟩ _).trans (Chg.alloc [] _ _) (by simp)).trans (Chg.drew [] _) (by simp)
  have hbV := heap_chg HbW.out hC0 (by simp; omega)
  have hCV : Chg [pr] w V := HCW.out.trans hC0 (fun x hx hl => by simp at hx; omega)
  have hoV : V.ownsRow 0 9 1 (.slice (some ⟨gb, 0, none⟩) L.length d1) L.length ((bcells L).set i (.string (strOf (bs.modify k (· ^^^ y))))) := by
    rw [← hV]; exact owns_chg (owns_chg (HoW.out.stored i _).1 (Chg.alloc [] _ _) (by simp)) (Chg.drew [] _) (by simp)
  have htV := owns_chg HtW.out hC0 (by simp [ob]; omega)
  have hcV := owns_chg HcW.out hC0 (by simp [ob]; omega)
  have ccV := cells_at hbV
  have lpV := heap_lt hbV
  have hsV := hC0.size
  have HbV := Lib.hid hbV
  have HCV := Lib.hid hCV
  have HoV := Lib.hid hoV
  have HtV := Lib.hid htV
  have HcV := Lib.hid hcV
  clear hV HbW HCW HoW HtW HcW hbV hCV hoV htV hcV hC0 ccW tb fb hcv hsz1 hsz2 hap1 Hap hs1 hs2 hix hxor
  go_wp2_with (at_builtin; go_must (refine wpList_append_sl rfl _ _ 42 rfl V.heap.size 4 k0 (.bool false) 1 1 Try.underlying42 hk0 hx0 hx1 hx2 rfl (by decide) _ 0 0 [] rfl (World.ownsRow_made V #[] 0 (Nat.le_refl _) (by decide) rfl) (some ⟨g3, 0, none⟩) L.length kc (ccells L) rfl ((Sl.of_owns HcV.out).below ((Below.refl _ _).alloc (Nat.le_refl _) _)) (ccells_one L) ?c3 ?c4 ?c5 ?_))
  case c3 => unfold maxLen; omega
  case c4 => omega
  case c5 => simp
  intro e1 f1 y1 ho1 hc1 hl1
  have hs1 := hc1.size
  simp at hs1
  have hF1 : ∀ x ∈ ob e1, V.heap.size ≤ x := fun x hx => by rcases hl1 x hx with h | h; simp [ob] at h; omega; omega
  have hB1 : Below V.heap.size V y1 := ((Below.refl _ _).alloc (Nat.le_refl _) _).trans (hc1.below (by simp) (by simp [ob]))
  have ho1' := owns_base ho1 (Nat.zero_le _)
  obtain ⟨ge, rfl, _, _, _⟩ := own_at (i := i) (u := .bool false) ho1' (by simp only [ccells, List.getElem?_map, Hi.out, Option.map_some])
  have hge : V.heap.size ≤ ge := hF1 ge (by simp [ob])
  have hblk := heap_chg HbV.out (Chg.of_below (F := []) hB1) (by simp)
  have cc2 := cells_at hblk
  have ff2 := free_at hblk
  have Hblk := Lib.hid hblk
  have Ho1 := Lib.hid ho1'
  have HB2 := Lib.hid hB1
  clear hblk ho1 ho1' hc1 hl1 hF1 hB1 ccV
  go_upto_region 7 with (fail)
  generalize hU : y1.setCell ⟨pr, 2, none⟩ (.slice (some ⟨ge, 0, none⟩) L.length f1) = U
  have hbU : U.heap[pr]? = some (.cells #[.slice (some ⟨g1, 0, none⟩) L.length tc, .slice (some ⟨gb, 0, none⟩) L.length d1, .slice (some ⟨ge, 0, none⟩) L.length f1] 44 (0, 0)) := by
    rw [← hU, heap_setCell_same _ _ 2 _ _ _ Hblk.out]; rfl
  have hC1 : Chg [pr] V U := by
    rw [← hU]; exact (Chg.of_below (F := [pr]) HB2.out).trans (Chg.setCell y1 ⟨pr, 2, none⟩ _) (by simp)
  have hoU : U.ownsRow 0 4 1 (.slice (some ⟨ge, 0, none⟩) L.length f1) L.length (ccells L) := by
    rw [← hU]; exact owns_chg Ho1.out (Chg.setCell y1 ⟨pr, 2, none⟩ _) (by simp [ob]; omega)
  have np := notpr HR.out
  have htU := owns_chg HtV.out hC1 (by simpa using np.1)
  have hbbU := owns_chg HoV.out hC1 (by simp [ob]; omega)
  obtain ⟨_, he, tb, fb, _⟩ := own_at (i := i) (u := .bool false) hoU (by simp only [ccells, List.getElem?_map, Hi.out, Option.map_some])
  cases he
  have ccU := cells_at hbU
  have lpU := heap_lt hbU
  have lgU : ge < U.heap.size := (owns_lt hoU ge (by simp [ob])).2
  have hsU := hC1.size
  have HbU := Lib.hid hbU
  have HC1 := Lib.hid hC1
  have HoU := Lib.hid hoU
  have HtU := Lib.hid htU
  have HbbU := Lib.hid hbbU
  clear hU Hblk Ho1 cc2 ff2 hbU hC1 hoU htU hbbU np
  go_wp2_with fail
  go_ret
  have hC2 : Chg [ge] U (U.setCell ⟨ge, i, none⟩ (.bool true)) := Chg.setCell U ⟨ge, i, none⟩ _
  have hlen : (L.set i (⟨t8, bs.modify k (· ^^^ y), true⟩ : Lt)).length = L.length := by simp
  have ht : tcells (L.set i ⟨t8, bs.modify k (· ^^^ y), true⟩) = tcells L := by
    simp only [tcells, List.map_set]
    apply List.ext_getElem?
    intro n
    rw [List.getElem?_set]
    by_cases hn : i = n
    · subst hn; simp [Hi.out]; omega
    · simp [hn]
  refine ⟨rfl, _, ⟨some ⟨g1, 0, none⟩, tc, some ⟨gb, 0, none⟩, d1, some ⟨ge, 0, none⟩, f1, ⟨?_, ?_, ?_, ?_⟩, rfl⟩, ?_, ?_⟩
  · rw [hlen]; exact heap_chg HbU.out hC2 (by simp; omega)
  · rw [hlen, ht]; exact owns_chg HtU.out hC2 (by simp [ob]; omega)
  · rw [hlen]; have := owns_chg HbbU.out hC2 (by simp [ob]; omega); simpa [bcells, List.map_set] using this
  · rw [hlen]; have := (HoU.out.stored i (.bool true)).1; simpa [ccells, List.map_set] using this
  · intro x hx
    simp [ob] at hx
    rcases hx with rfl | rfl | rfl | rfl
    · left; simp
    · left; simp [ob]
    · right; omega
    · right; omega
  · exact (HCV.out.trans HC1.out (by simp)).trans hC2 (fun x hx hl => by simp at hx; omega)

theorem change_ref (pr : Nat) (i at_ : Int) (y : UInt8) (w : World) (L : List Lt) (F : List Nat) (h : RefR w pr L F) (hm : L.length ≤ 1000000) (hl : ∀ l ∈ L, l.b.length ≤ 1000000) :
    Calls Try.prog 18 #[.pointer (some ⟨pr, 0, none⟩), .int .i64 i, .int .i64 at_, .int .u8 (y.toNat : Int)] w fun e w' => e = .returned (.bool (mayChange L i at_ y)) ∧ RefTo w pr F (if mayChange L i at_ y then doChange L i at_ y else L) w' := by
  cases hmc : mayChange L i at_ y with
  | false =>
    refine (change_ref_no pr i at_ y w L F h hmc).mono ?_
    rintro e w' ⟨rfl, rfl⟩
    exact ⟨rfl, F, h, fun x hx => .inl hx, Chg.refl _ _⟩
  | true =>
    have hmc' := hmc
    simp only [mayChange, Bool.and_eq_true, decide_eq_true_eq] at hmc
    obtain ⟨⟨⟨⟨⟨h1, h2⟩, h3⟩, h4⟩, h5⟩, h6⟩ := hmc
    obtain ⟨j, rfl⟩ : ∃ j : Nat, i = j := ⟨i.toNat, by omega⟩
    obtain ⟨k, rfl⟩ : ∃ k : Nat, at_ = k := ⟨at_.toNat, by omega⟩
    have hj : j < L.length := by omega
    obtain ⟨⟨t8, bs, ch⟩, hx⟩ : ∃ x, L[j]? = some x := ⟨L[j], by simp [hj]⟩
    simp only [Int.toNat_natCast, hx, Option.map_some, Option.getD_some] at h4 h6
    have hch : ch = false := by simpa using h4
    subst hch
    have hy : y ≠ 0 := by simpa using h3
    have hb := hl _ (List.mem_of_getElem? hx)
    refine (change_ref_yes pr j k y t8 bs w L F h hx (by omega) hy hm hb).mono ?_
    rintro e w' ⟨rfl, hT⟩
    refine ⟨rfl, ?_⟩
    simp only [if_true, doChange, Int.toNat_natCast]
    rw [modify_at L j _ _ hx]
    exact hT
end Go.Proofs.Ytkgbdgnfidpelaa
