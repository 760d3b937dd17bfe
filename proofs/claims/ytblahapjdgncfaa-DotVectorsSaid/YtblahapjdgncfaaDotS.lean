/- DotVectors: the walk. -/
import Derived.Test.YtblahapjdgncfaaDotR
namespace Go.Proofs.Ytblahapjdgncfaa
open Go.RowKit
set_option linter.unusedVariables false
set_option linter.unusedSimpArgs false

/-- what the law holds in memory: the two vectors, their copies, the two dots -/
structure VecE (w0 w : World) (a b x y : Option Addr) (ca cb cx cy : Nat) (A B : List Dt) (bd bo : Nat) (d o : Dt) : Prop where
  hA : Vec w a ca A
  hB : Vec w b cb B
  hX : Vec w x cx A
  hY : Vec w y cy B
  hd : w.heap[bd]? = some (.cells #[.int .u8 d.1.1, .int .u32 d.1.2, .int .u64 d.2] 34 (0, 0))
  ho : w.heap[bo]? = some (.cells #[.int .u8 o.1.1, .int .u32 o.1.2, .int .u64 o.2] 34 (0, 0))
  bel : Below w0.heap.size w0 w
theorem VecE.step {w0 w w' : World} {a b x y : Option Addr} {ca cb cx cy : Nat} {A B : List Dt} {bd bo : Nat} {d o : Dt} (h : VecE w0 w a b x y ca cb cx cy A B bd bo d o) (hb : Below w.heap.size w w') : VecE w0 w' a b x y ca cb cx cy A B bd bo d o :=
  ⟨h.hA.below hb, h.hB.below hb, h.hX.below hb, h.hY.below hb, (hb.block _ (heap_lt h.hd)).trans h.hd, (hb.block _ (heap_lt h.ho)).trans h.ho, h.bel.trans (hb.mono h.bel.size)⟩
theorem VecE.drew {w0 w : World} {a b x y : Option Addr} {ca cb cx cy : Nat} {A B : List Dt} {bd bo : Nat} {d o : Dt} (h : VecE w0 w a b x y ca cb cx cy A B bd bo d o) : VecE w0 w.drew a b x y ca cb cx cy A B bd bo d o := h.step ((Below.refl _ _).drew)

set_option maxRecDepth 100000 in
set_option maxHeartbeats 8000000 in
theorem vectors_walk (a b : Option Addr) (ca cb : Nat) (A B : List Dt) (r i s r' i' s' : Int) (w : World) (hA : Vec w a ca A) (hB : Vec w b cb B) (okVA : okV A) (okVB : okV B) (okd : okD ((r, i), s)) (oko : okD ((r', i'), s')) :
    Calls Try.prog 4 #[.slice a A.length ca, .slice b B.length cb, .agg #[.int .u8 r, .int .u32 i, .int .u64 s], .agg #[.int .u8 r', .int .u32 i', .int .u64 s']] w fun e w' => e = .returned (.bool true) ∧ Below w.heap.size w w' := by
  obtain ⟨i0, hi0, hz0, hz1, hz2⟩ := info_parts Try.info_dot
  have hbox : Below w.heap.size w ((w.alloc (.cells #[.int .u8 r, .int .u32 i, .int .u64 s] 34)).alloc (.cells #[.int .u8 r', .int .u32 i', .int .u64 s'] 34)) := ((Below.refl _ _).alloc (Nat.le_refl _) _).alloc (by simp) _
  have HA := Lib.hid (hA.below hbox)
  have HB := Lib.hid (hB.below hbox)
  have Hbox := Lib.hid hbox
  have Hokd := Lib.hid okd.1
  clear hA hB hbox
  by_cases h1 : 100 < A.length
  · have h1' : (100 : Int) < (A.length : Int) := by omega
    go_enter Try.func4, Try.ntmps4
    go_wp2_with fail
    refine (known_any _).mono ?_
    rintro e w' ⟨rfl, hb⟩
    go_wp2_with fail
    go_ret
    exact ⟨rfl, Hbox.out.trans (hb.mono (by simp; omega))⟩
  have h1' : ¬ (100 : Int) < (A.length : Int) := by omega
  by_cases h2 : 100 < B.length
  · have h2' : (100 : Int) < (B.length : Int) := by omega
    go_enter Try.func4, Try.ntmps4
    go_wp2_with fail
    refine (known_any _).mono ?_
    rintro e w' ⟨rfl, hb⟩
    go_wp2_with fail
    go_ret
    exact ⟨rfl, Hbox.out.trans (hb.mono (by simp; omega))⟩
  have h2' : ¬ (100 : Int) < (B.length : Int) := by omega
  go_enter Try.func4, Try.ntmps4
  go_wp2_with (at_builtin; go_must (refine wpList_append_sl rfl _ _ 23 rfl (w.heap.size + 2) 34 i0 (.agg #[.int .u8 0, .int .u32 0, .int .u64 0]) 3 16 Try.underlying23 hi0 hz0 hz1 hz2 rfl (by decide) (some ⟨w.heap.size + 1 + 1, 0, none⟩) 0 0 [] rfl ?o1 a A.length ca (dcells A) rfl ?s1 ?t1 ?c1 ?d1 ?e1 ?_))
  case o1 =>
    have h := World.ownsRow_made (base := w.heap.size + 2) (e := 34) (size := 3) ((w.alloc (.cells #[.int .u8 r, .int .u32 i, .int .u64 s] 34)).alloc (.cells #[.int .u8 r', .int .u32 i', .int .u64 s'] 34)) #[] 0 (by simp) (by decide) rfl
    rw [World.size_alloc, World.size_alloc] at h
    exact h
  case s1 => exact HA.out.below ((Below.refl _ _).alloc (Nat.le_refl _) _)
  case t1 => exact dcells_one _
  case c1 => unfold maxLen; omega
  case d1 => omega
  intro x cx w1 ho1 hC1 hob1
  try simp only [Nat.zero_add, List.nil_append] at ho1
  have hb1 : Below (w.heap.size + 2) ((w.alloc (.cells #[.int .u8 r, .int .u32 i, .int .u64 s] 34)).alloc (.cells #[.int .u8 r', .int .u32 i', .int .u64 s'] 34)) w1 := ((Below.refl _ _).alloc (by simp) _).trans (hC1.below (by simp) (by simp [ob]))
  have Ho1 := Lib.hid ho1
  have HA1 := Lib.hid (HA.out.below (by simpa using hb1))
  have HB1 := Lib.hid (HB.out.below (by simpa using hb1))
  have Hb1 := Lib.hid hb1
  have hs1 : w.heap.size + 2 ≤ w1.heap.size := by have := hb1.size; simpa using this
  clear ho1 hC1 hb1 HA HB
  go_wp2_with (at_builtin; go_must (refine wpList_append_sl rfl _ _ 23 rfl w1.heap.size 34 i0 (.agg #[.int .u8 0, .int .u32 0, .int .u64 0]) 3 16 Try.underlying23 hi0 hz0 hz1 hz2 rfl (by decide) (some ⟨w1.heap.size, 0, none⟩) 0 0 [] rfl ?o2 b B.length cb (dcells B) rfl ?s2 ?t2 ?c2 ?d2 ?e2 ?_))
  case o2 => exact World.ownsRow_made w1 #[] 0 (Nat.le_refl _) (by decide) rfl
  case s2 => exact HB1.out.below ((Below.refl _ _).alloc (Nat.le_refl _) _)
  case t2 => exact dcells_one _
  case c2 => unfold maxLen; omega
  case d2 => omega
  case e2 => simp
  intro y cy w2 ho2 hC2 hob2
  try simp only [Nat.zero_add, List.nil_append] at ho2
  have hb2 : Below w1.heap.size w1 w2 := ((Below.refl _ _).alloc (Nat.le_refl _) _).trans (hC2.below (by simp) (by simp [ob]))
  have E : Hid (VecE w w2 a b x y ca cb cx cy A B w.heap.size (w.heap.size + 1) ((r, i), s) ((r', i'), s')) := Lib.hid ⟨HA1.out.below hb2, HB1.out.below hb2, (vec_of Ho1.out).below hb2, vec_of ho2,
    (hb2.block _ (by omega)).trans ((Hb1.out.block _ (by omega)).trans ((heap_ne _ _ _ (by simp)).trans (heap_new w _))),
    (hb2.block _ (by omega)).trans ((Hb1.out.block _ (by omega)).trans (heap_new2 w _ _)),
    (Hbox.out.trans (Hb1.out.mono (by omega))).trans (hb2.mono (by omega))⟩
  clear ho2 hC2 hb2 Ho1 HA1 HB1 Hb1 hs1 Hbox hob1 hob2
  have cd := cells_at E.out.hd
  have co := cells_at E.out.ho
  go_wp2_with fail
  refine region_text [([0, 1, 3, 4], false), ([2], true), ([5, 6, 7, 8, 10], false), ([9], true), ([11, 12, 13, 14, 15, 16, 18, 19], false), ([17], true), ([20, 21, 22, 23, 24, 26, 25, 27, 28, 29, 30], false)] mixed (by kernel_rfl) ?_
  simp only [wpSegs, List.map_cons, List.map_nil, List.getD_cons_succ, List.getD_cons_zero]
  replace E := Lib.hid E.out.drew
  go_wp2_with fail
  refine (mayActor_any r i _).mono ?_
  rintro e w' ⟨rfl, hb⟩
  replace E := Lib.hid (E.out.step hb)
  clear cd co
  have cd := cells_at E.out.hd
  have co := cells_at E.out.ho
  have hag := Agree.of_below hb
  clear hb
  go_wp2_with fail
  refine And.intro hag ?_
  clear hag
  go_wp2_with fail
  refine (rmayActor_any r i _).mono ?_
  rintro e w' ⟨rfl, hb⟩
  replace E := Lib.hid (E.out.step hb)
  clear cd co
  have cd := cells_at E.out.hd
  have co := cells_at E.out.ho
  clear hb
  go_wp2_with fail
  refine (may_any r i s _).mono ?_
  rintro e w' ⟨rfl, hb⟩
  replace E := Lib.hid (E.out.step hb)
  clear cd co
  have cd := cells_at E.out.hd
  have co := cells_at E.out.ho
  have hag := Agree.of_below hb
  clear hb
  go_wp2_with fail
  refine And.intro hag ?_
  clear hag
  go_wp2_with fail
  refine (rmay_any r i s _).mono ?_
  rintro e w' ⟨rfl, hb⟩
  replace E := Lib.hid (E.out.step hb)
  clear cd co
  have cd := cells_at E.out.hd
  have co := cells_at E.out.ho
  clear hb
  go_wp2_with fail
  refine (compareD_any r i s r' i' s' _).mono ?_
  rintro e w' ⟨rfl, hgr⟩
  have hb := hgr.below
  clear hgr
  rw [cmpDD_eq]
  replace E := Lib.hid (E.out.step hb)
  clear cd co
  have cd := cells_at E.out.hd
  have co := cells_at E.out.ho
  have hag := Agree.of_below hb
  clear hb
  go_wp2_with fail
  refine And.intro hag ?_
  clear hag
  go_wp2_with fail
  refine (rcompare_any r i s r' i' s' _).mono ?_
  rintro e w' ⟨rfl, hb⟩
  replace E := Lib.hid (E.out.step hb)
  clear cd co
  have cd := cells_at E.out.hd
  have co := cells_at E.out.ho
  clear hb
  go_wp2_with fail
  refine (canon_any x cx A _ E.out.hX okVA (by omega)).mono ?_
  rintro e w' ⟨p, cp, rfl, hown, hb⟩
  replace E := Lib.hid (E.out.step hb)
  clear cd co
  have cd := cells_at E.out.hd
  have co := cells_at E.out.ho
  have hP := Lib.hid (vec_of hown)
  clear hown hb
  go_wp2_with fail
  refine (rcanon_any a ca A _ E.out.hA okVA (by omega)).mono ?_
  rintro e w' ⟨q, cq, rfl, hown, hb⟩
  replace E := Lib.hid (E.out.step hb)
  clear cd co
  have cd := cells_at E.out.hd
  have co := cells_at E.out.ho
  have hP' := Lib.hid (hP.out.below hb)
  have hQ := Lib.hid (vec_of hown)
  clear hown hb hP
  go_wp2_with fail
  refine (same_any p q cp cq (canonV A) (canonV A) _ hP'.out hQ.out (Nat.le_trans (vecOf_length _) (by omega)) (Nat.le_trans (vecOf_length _) (by omega))).mono ?_
  rintro e w' ⟨rfl, hb⟩
  rw [show decide ((canonV A) = (canonV A)) = true by simp]
  replace E := Lib.hid (E.out.step hb)
  clear cd co
  have cd := cells_at E.out.hd
  have co := cells_at E.out.ho
  clear hb hP' hQ
  go_wp2_with fail
  refine And.intro (by kernel_rfl) ?_
  go_wp2_with fail
  refine region_text [([0, 1, 2, 4, 5, 6], false), ([3], true), ([7, 8, 9, 10, 11, 13, 14], false), ([12], true), ([15, 16, 17, 18, 19, 20, 22, 23, 21, 24, 25, 26], false)] mixed (by kernel_rfl) ?_
  simp only [wpSegs, List.map_cons, List.map_nil, List.getD_cons_succ, List.getD_cons_zero]
  replace E := Lib.hid E.out.drew
  go_wp2_with fail
  refine (get_any x cx A r i _ E.out.hX okVA (by omega) Hokd.out).mono ?_
  rintro e w' ⟨rfl, hb⟩
  replace E := Lib.hid (E.out.step hb)
  clear cd co
  have cd := cells_at E.out.hd
  have co := cells_at E.out.ho
  have hag := Agree.of_below hb
  clear hb
  go_wp2_with fail
  refine And.intro hag ?_
  clear hag
  go_wp2_with fail
  refine (rget_any a ca A r i _ E.out.hA (by omega)).mono ?_
  rintro e w' ⟨rfl, hb⟩
  replace E := Lib.hid (E.out.step hb)
  clear cd co
  have cd := cells_at E.out.hd
  have co := cells_at E.out.ho
  clear hb
  go_wp2_with fail
  refine (has_any x cx A r i s _ E.out.hX (by omega) okVA Hokd.out).mono ?_
  rintro e w' ⟨rfl, hb⟩
  replace E := Lib.hid (E.out.step hb)
  clear cd co
  have cd := cells_at E.out.hd
  have co := cells_at E.out.ho
  have hag := Agree.of_below hb
  clear hb
  go_wp2_with fail
  refine And.intro hag ?_
  clear hag
  go_wp2_with fail
  refine (rhas_any a ca A r i s _ E.out.hA (by omega)).mono ?_
  rintro e w' ⟨rfl, hb⟩
  replace E := Lib.hid (E.out.step hb)
  clear cd co
  have cd := cells_at E.out.hd
  have co := cells_at E.out.ho
  clear hb
  go_wp2_with fail
  refine (within_any x y cx cy A B _ E.out.hX E.out.hY okVA okVB (by omega) (by omega)).mono ?_
  rintro e w' ⟨rfl, hb⟩
  replace E := Lib.hid (E.out.step hb)
  clear cd co
  have cd := cells_at E.out.hd
  have co := cells_at E.out.ho
  clear hb
  go_wp2_with fail
  refine (rwithin_any a b ca cb A B _ E.out.hA E.out.hB okVA (by omega) (by omega)).mono ?_
  rintro e w' ⟨rfl, hb⟩
  replace E := Lib.hid (E.out.step hb)
  clear cd co
  have cd := cells_at E.out.hd
  have co := cells_at E.out.ho
  clear hb
  go_wp2_with fail
  refine And.intro (by kernel_rfl) ?_
  go_wp2_with fail
  refine (join_any x y cx cy A B _ E.out.hX E.out.hY okVA okVB (by omega) (by omega)).mono ?_
  rintro e w' ⟨p, cp, rfl, hown, hb⟩
  replace E := Lib.hid (E.out.step hb)
  clear cd co
  have cd := cells_at E.out.hd
  have co := cells_at E.out.ho
  have hP := Lib.hid (vec_of hown)
  clear hown hb
  go_wp2_with fail
  refine (rjoin_any a b ca cb A B _ E.out.hA E.out.hB okVA okVB (by omega) (by omega)).mono ?_
  rintro e w' ⟨q, cq, rfl, hown, hb⟩
  replace E := Lib.hid (E.out.step hb)
  clear cd co
  have cd := cells_at E.out.hd
  have co := cells_at E.out.ho
  have hP' := Lib.hid (hP.out.below hb)
  have hQ := Lib.hid (vec_of hown)
  clear hown hb hP
  go_wp2_with fail
  refine (same_any p q cp cq (joinV A B) (joinV A B) _ hP'.out hQ.out (Nat.le_trans (vecOf_length _) (by omega)) (Nat.le_trans (vecOf_length _) (by omega))).mono ?_
  rintro e w' ⟨rfl, hb⟩
  rw [show decide ((joinV A B) = (joinV A B)) = true by simp]
  replace E := Lib.hid (E.out.step hb)
  clear cd co
  have cd := cells_at E.out.hd
  have co := cells_at E.out.ho
  clear hb hP' hQ
  go_wp2_with fail
  refine (meet_any x y cx cy A B _ E.out.hX E.out.hY okVA okVB (by omega) (by omega)).mono ?_
  rintro e w' ⟨p, cp, rfl, hown, hb⟩
  replace E := Lib.hid (E.out.step hb)
  clear cd co
  have cd := cells_at E.out.hd
  have co := cells_at E.out.ho
  have hP := Lib.hid (vec_of hown)
  clear hown hb
  go_wp2_with fail
  refine (rmeet_any a b ca cb A B _ E.out.hA E.out.hB okVA okVB (by omega) (by omega)).mono ?_
  rintro e w' ⟨q, cq, rfl, hown, hb⟩
  replace E := Lib.hid (E.out.step hb)
  clear cd co
  have cd := cells_at E.out.hd
  have co := cells_at E.out.ho
  have hP' := Lib.hid (hP.out.below hb)
  have hQ := Lib.hid (vec_of hown)
  clear hown hb hP
  go_wp2_with fail
  refine (same_any p q cp cq (meetV A B) (meetV A B) _ hP'.out hQ.out (Nat.le_trans (vecOf_length _) (by omega)) (Nat.le_trans (vecOf_length _) (by omega))).mono ?_
  rintro e w' ⟨rfl, hb⟩
  rw [show decide ((meetV A B) = (meetV A B)) = true by simp]
  replace E := Lib.hid (E.out.step hb)
  clear cd co
  have cd := cells_at E.out.hd
  have co := cells_at E.out.ho
  clear hb hP' hQ
  go_wp2_with fail
  refine (same_any x a cx ca A A _ E.out.hX E.out.hA (by omega) (by omega)).mono ?_
  rintro e w' ⟨rfl, hb⟩
  rw [show decide (A = A) = true by simp]
  replace E := Lib.hid (E.out.step hb)
  clear cd co
  have cd := cells_at E.out.hd
  have co := cells_at E.out.ho
  clear hb
  go_wp2_with fail
  refine (same_any y b cy cb B B _ E.out.hY E.out.hB (by omega) (by omega)).mono ?_
  rintro e w' ⟨rfl, hb⟩
  rw [show decide (B = B) = true by simp]
  replace E := Lib.hid (E.out.step hb)
  clear cd co
  have cd := cells_at E.out.hd
  have co := cells_at E.out.ho
  clear hb
  go_wp2_with fail
  cases hm : mayA (r, i) with
  | false =>
    as_aux_lemma =>
    refine (next_any x cx A r i _ E.out.hX okVA (by omega) Hokd.out).mono ?_
    rintro e w' ⟨rfl, hb⟩
    rw [show nextEnd A r i = dotErr 0 0 0 2 by simp [nextEnd, hm]]
    unfold dotErr
    replace E := Lib.hid (E.out.step hb)
    clear cd co
    have cd := cells_at E.out.hd
    clear hb
    have hlw := heap_lt E.out.hd
    go_wp2_with fail
    have hE2 := E.out.step ((Below.refl _ _).alloc (Nat.le_refl _) (.cells #[.int .u8 0, .int .u32 0, .int .u64 0] 34))
    have hx2 := heap_new w' (.cells #[.int .u8 0, .int .u32 0, .int .u64 0] 34)
    refine (rget_any a ca A r i _ hE2.hA (by omega)).mono ?_
    rintro e w3 ⟨rfl, hb⟩
    have hx3 := (hb.block _ (heap_lt hx2)).trans hx2
    have E3 := Lib.hid (hE2.step hb)
    have Hx3 := Lib.hid hx3
    clear hb hx2 hx3 hE2 E cd
    have cd := cells_at E3.out.hd
    go_wp2_with fail
    refine (rmayActor_any r i _).mono ?_
    rintro e w4 ⟨rfl, hb⟩
    rw [hm]
    have E4 := Lib.hid (E3.out.step hb)
    have hx4 := (hb.block _ (heap_lt Hx3.out)).trans Hx3.out
    clear cd hb E3 Hx3
    have cd := cells_at E4.out.hd
    have cx4 := cells_at hx4
    clear hx4
    go_wp2_with fail
    refine (known_any _).mono ?_
    rintro e w5 ⟨rfl, hb⟩
    have E5 := Lib.hid (E4.out.step hb)
    clear hb cd cx4 E4
    go_wp2_with fail
    go_ret
    exact ⟨rfl, E5.out.bel⟩
  | true =>
    obtain ⟨hg0, hg1⟩ := getN_bd A (r, i)
    by_cases hg : getN A (r, i) = 1048576
    · have hg' : (getN A (r, i) == 1048576) = true := by simpa using hg
      have Hg := Lib.hid hg
      clear hg
      as_aux_lemma =>
      refine (next_any x cx A r i _ E.out.hX okVA (by omega) Hokd.out).mono ?_
      rintro e w' ⟨rfl, hb⟩
      rw [show nextEnd A r i = dotErr 0 0 0 14 by simp [nextEnd, hm, Hg.out]]
      unfold dotErr
      replace E := Lib.hid (E.out.step hb)
      clear cd co
      have cd := cells_at E.out.hd
      clear hb
      have hlw := heap_lt E.out.hd
      go_wp2_with fail
      have hE2 := E.out.step ((Below.refl _ _).alloc (Nat.le_refl _) (.cells #[.int .u8 0, .int .u32 0, .int .u64 0] 34))
      have hx2 := heap_new w' (.cells #[.int .u8 0, .int .u32 0, .int .u64 0] 34)
      refine (rget_any a ca A r i _ hE2.hA (by omega)).mono ?_
      rintro e w3 ⟨rfl, hb⟩
      have hx3 := (hb.block _ (heap_lt hx2)).trans hx2
      have E3 := Lib.hid (hE2.step hb)
      have Hx3 := Lib.hid hx3
      clear hb hx2 hx3 hE2 E cd
      have cd := cells_at E3.out.hd
      go_wp2_with fail
      refine (rmayActor_any r i _).mono ?_
      rintro e w4 ⟨rfl, hb⟩
      rw [hm]
      have E4 := Lib.hid (E3.out.step hb)
      have hx4 := (hb.block _ (heap_lt Hx3.out)).trans Hx3.out
      clear cd hb E3 Hx3
      have cd := cells_at E4.out.hd
      have cx4 := cells_at hx4
      clear hx4
      go_wp2_with fail
      refine (known_any _).mono ?_
      rintro e w5 ⟨rfl, hb⟩
      have E5 := Lib.hid (E4.out.step hb)
      clear hb cd cx4 E4
      go_wp2_with fail
      go_ret
      exact ⟨rfl, E5.out.bel⟩
    · have hg' : (getN A (r, i) == 1048576) = false := by simpa using hg
      have Hg := Lib.hid hg
      clear hg
      as_aux_lemma =>
      refine (next_any x cx A r i _ E.out.hX okVA (by omega) Hokd.out).mono ?_
      rintro e w' ⟨rfl, hb⟩
      rw [show nextEnd A r i = dotErr r i (getN A (r, i) + 1) 0 by simp [nextEnd, hm, Hg.out]]
      unfold dotErr
      replace E := Lib.hid (E.out.step hb)
      clear cd co
      have cd := cells_at E.out.hd
      clear hb
      have hlw := heap_lt E.out.hd
      go_wp2_with fail
      have hE2 := E.out.step ((Below.refl _ _).alloc (Nat.le_refl _) (.cells #[.int .u8 r, .int .u32 i, .int .u64 (getN A (r, i) + 1)] 34))
      have hx2 := heap_new w' (.cells #[.int .u8 r, .int .u32 i, .int .u64 (getN A (r, i) + 1)] 34)
      refine (rget_any a ca A r i _ hE2.hA (by omega)).mono ?_
      rintro e w3 ⟨rfl, hb⟩
      have hx3 := (hb.block _ (heap_lt hx2)).trans hx2
      have E3 := Lib.hid (hE2.step hb)
      have Hx3 := Lib.hid hx3
      clear hb hx2 hx3 hE2 E cd
      have cd := cells_at E3.out.hd
      go_wp2_with fail
      refine (rmayActor_any r i _).mono ?_
      rintro e w4 ⟨rfl, hb⟩
      rw [hm]
      have E4 := Lib.hid (E3.out.step hb)
      have hx4 := (hb.block _ (heap_lt Hx3.out)).trans Hx3.out
      clear cd hb E3 Hx3
      have cd := cells_at E4.out.hd
      have cx4 := cells_at hx4
      clear hx4
      go_wp2_with fail
      refine (known_any _).mono ?_
      rintro e w5 ⟨rfl, hb⟩
      have E5 := Lib.hid (E4.out.step hb)
      clear hb cd cx4 E4
      go_wp2_with fail
      go_ret
      exact ⟨rfl, E5.out.bel⟩
end Go.Proofs.Ytblahapjdgncfaa
