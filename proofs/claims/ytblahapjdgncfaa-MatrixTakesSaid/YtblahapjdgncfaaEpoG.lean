/- The reference's Decide (varveref18). -/
import Derived.Test.YtblahapjdgncfaaMatM
import Derived.Test.YtblahapjdgncfaaEpoB
import Derived.Test.YtblahapjdgncfaaVec5
namespace Go.Proofs.Ytblahapjdgncfaa
open Go.RowKit
set_option linter.unusedVariables false
set_option linter.unusedSimpArgs false

theorem front_canon {n : Nat} {R : Mx} (hR : okR n R) : ∀ m, 0 < m → canonV (frontM R m) = frontM R m := by
  have oR : ∀ k, okV (vvM R k) := fun k => by
    unfold vvM
    cases h : R k with
    | none => intro d hd; simp at hd
    | some a => exact (hR k a h).2.2.2.1
  have fR := frontM_ok (R := R) (fun k a h => (hR k a h).2.2.2.1)
  intro m hm
  match m, hm with
  | 1, _ => exact vecOf_congr fun x _ => getN_canonV (oR 0) x
  | m + 2, _ => exact vecOf_congr fun x _ => getN_meetV (fR (m + 1)) (oR (m + 1)) x
theorem stable_canon {n : Nat} {R : Mx} {incs : List Int} {v : List Dt} (hR : okR n R) (h : stableM n R incs = some v) : canonV v = v := by
  obtain ⟨hm, _, rfl⟩ := stable_may' h
  exact front_canon hR n (by have := (mayIncs_iff incs n).1 hm; omega)
theorem same_within {f v : List Dt} (of : okV f) (ov : okV v) (hc : canonV v = v) (h : withinV f v = true) : decide (canonV f = v) = withinV v f := by
  have := canon_same of ov
  rw [hc, h, Bool.true_and] at this
  exact this

set_option maxHeartbeats 4000000 in
theorem rdecide_any (ia fa : Option Addr) (ic fc : Nat) (l : List Int) (f : List Dt) (num : Int) (pw n : Nat) (L : List Ak) (F : Nat → Prop) (w : World) (hM : RefR w F pw n L) (hL : L.length ≤ 1000) (hr : ∀ a ∈ L, okA (a.r, a.i)) (hR : okR n (RL L)) (hi : U32 w ia ic l) (hl : l.length ≤ 1000000) (hf : Vec w fa fc f) (of : okV f) (nf : f.length ≤ 1000000) (h0 : 0 ≤ num) (h1 : num ≤ 18446744073709551615) (hoi : okI l) :
    Calls Try.prog 58 #[.pointer (some ⟨pw, 0, none⟩), .slice ia l.length ic, .int .u64 num, .slice fa f.length fc] w (DecTo w (decideM n (RL L) l num f)) := by
  have Hi := Lib.hid hi
  have Hf := Lib.hid hf
  have HM := Lib.hid hM
  have Hr := Lib.hid hr
  clear hi hf hM hr
  go_enter Try.func58, Try.ntmps58
  go_wp2_with fail
  have hba : Below w.heap.size w (w.alloc (.cells #[.int .u64 0, .slice none 0 0] 72)) := (Below.refl _ w).alloc (Nat.le_refl _) _
  refine (rstable_any ia ic l pw n L F _ (HM.out.below hba) hL Hr.out hR (Hi.out.below hba) hl).mono ?_
  clear hba
  rintro e w1 (⟨hst, rfl, hb1⟩ | ⟨v, hst, a1, c1, rfl, ho1, hb1⟩)
  · have He := Lib.hid (decide_none' (num := num) (f := f) hst)
    obtain ⟨hx0, hz, hB1⟩ := new1 hb1
    have d1 := cells_at hx0
    have f1 := free_at hx0
    have HB1 := Lib.hid hB1
    clear hb1 hx0 hB1 hst
    go_wp2_with fail
    exact bodyPost_ret (v := .tuple #[.agg #[.int .u64 0, .slice none 0 0], .bool false]) (by simp [results, Try.results58, go_sem, d1]) rfl (dec_no He.out (below_box2 HB1.out _ _))
  · have Hd := Lib.hid (decide_some (num := num) (f := f) hst)
    have Hst := Lib.hid hst
    obtain ⟨ov, nv⟩ := stable_ok hR hst
    have Hov := Lib.hid ov
    have Hcv := Lib.hid (stable_canon hR hst)
    obtain ⟨hx0, hz, hB1⟩ := new1 hb1
    have Hx0 := Lib.hid hx0
    have HB1 := Lib.hid hB1
    have Ho1 := Lib.hid (owns_base ho1 (show w.heap.size + 1 ≤ _ by simp))
    clear hb1 hx0 hB1 hst ho1 ov
    go_wp2_with fail
    refine (rwithin_any fa a1 fc c1 f v w1 (Hf.out.below HB1.out) (vec_of Ho1.out) of nf (by omega)).mono ?_
    rintro e w2 ⟨rfl, hb2⟩
    have hx2 := (hb2.block _ (heap_lt Hx0.out)).trans Hx0.out
    have HB2 := Lib.hid (HB1.out.trans (hb2.mono HB1.out.size))
    have Ho2 := Lib.hid (owns_chg (F := []) Ho1.out (Chg.of_below hb2) (by simp))
    have d2 := cells_at hx2
    have f2 := free_at hx2
    have Hx2 := Lib.hid hx2
    clear hb2 hx2 HB1 Hx0 Ho1
    cases hw1 : withinV f v with
    | false =>
      have He := Lib.hid (show decideM n (RL L) l num f = none by rw [Hd.out]; unfold decideV; rw [if_neg (by simp [hw1])])
      clear hw1
      go_wp2_with fail
      exact bodyPost_ret (v := .tuple #[.agg #[.int .u64 0, .slice none 0 0], .bool false]) (by simp [results, Try.results58, go_sem, d2]) rfl (dec_no He.out (below_box2 HB2.out _ _))
    | true =>
      have Hw1 := Lib.hid hw1
      have Hsw := Lib.hid (same_within of Hov.out Hcv.out hw1)
      clear hw1
      go_wp2_with fail
      refine (rcanon_any fa fc f w2 (Hf.out.below HB2.out) of nf).mono ?_
      rintro e w5 ⟨a5, c5, rfl, ho5, hb5⟩
      have hx5 := (hb5.block _ (heap_lt Hx2.out)).trans Hx2.out
      have HB5 := Lib.hid (HB2.out.trans (hb5.mono HB2.out.size))
      have Ho5 := Lib.hid (owns_chg (F := []) Ho2.out (Chg.of_below hb5) (by simp))
      have Hcf := Lib.hid (vec_of ho5)
      have Hx5 := Lib.hid hx5
      clear ho5 hb5 hx5 HB2 Hx2 Ho2 d2 f2
      go_wp2_with fail
      refine (same_any a5 a1 c5 c1 (canonV f) v w5 Hcf.out (vec_of Ho5.out) (Nat.le_trans (vecOf_length _) (by decide)) (by omega)).mono ?_
      rintro e w3 ⟨rfl, hb3⟩
      rw [Hsw.out]
      have hx3 := (hb3.block _ (heap_lt Hx5.out)).trans Hx5.out
      have HB3 := Lib.hid (HB5.out.trans (hb3.mono HB5.out.size))
      have Ho3 := Lib.hid (owns_chg (F := []) Ho5.out (Chg.of_below hb3) (by simp))
      have d3 := cells_at hx3
      have f3 := free_at hx3
      clear hb3 hx3 HB5 Hx5 Ho5
      cases hw2 : withinV v f with
      | true =>
        have He := Lib.hid (show decideM n (RL L) l num f = none by rw [Hd.out]; unfold decideV; rw [if_neg (by simp [hw2])])
        clear hw2
        go_wp2_with fail
        exact bodyPost_ret (v := .tuple #[.agg #[.int .u64 0, .slice none 0 0], .bool false]) (by simp [results, Try.results58, go_sem, d3]) rfl (dec_no He.out (below_box2 HB3.out _ _))
      | false =>
        have Hw2 := Lib.hid hw2
        clear hw2
        have hl1 : 0 < l.length := by have := (mayIncs_iff l n).1 (stable_may' Hst.out).1; omega
        obtain ⟨x, hx⟩ : ∃ x, l[0]? = some x := ⟨l[0], by simp [hl1]⟩
        have hx0 : 0 ≤ x := (hoi x (List.mem_of_getElem? hx)).1
        have Hxx := Lib.hid (show l.getD 0 0 = x by simp [List.getD, hx])
        obtain ⟨ad, had, c0, hl0⟩ := (Hi.out.below HB3.out).at hx
        subst had
        clear hx
        rw [show ad.add 0 = ad by simp [Addr.add]] at c0
        go_wp2_with fail
        refine (repoNext_any num x w3 h0 h1 hx0).mono ?_
        rintro e w4 ⟨rfl, rfl⟩
        unfold nextRes
        obtain ⟨m, er, hme⟩ : ∃ m er, nextE num x = (m, er) := ⟨_, _, rfl⟩
        rw [hme]
        dsimp only
        have Hme := Lib.hid hme
        clear hme
        by_cases her : er = 0
        · subst her
          have He := Lib.hid (show decideM n (RL L) l num f = some (m, v) by rw [Hd.out, Hxx.out, Hme.out]; unfold decideV; rw [if_pos (by simp [Hw1.out, Hw2.out])])
          go_wp2_with fail
          refine bodyPost_ret (v := .tuple #[.agg #[.int .u64 m, .slice a1 v.length c1], .bool true]) (by simp [results, Try.results58, go_sem, d3]) rfl (.inr ⟨m, v, He.out, a1, c1, rfl, ?_, ?_⟩)
          · exact owns_base (owns_set (owns_set Ho3.out (by simp)) (by simp)) (by omega)
          · exact below_box2 HB3.out _ _
        · have her' : (er == 0) = false := by simpa using her
          have He := Lib.hid (show decideM n (RL L) l num f = none by rw [Hd.out, Hxx.out, Hme.out]; unfold decideV; rw [if_neg (by simp [her])])
          go_wp2_with fail
          exact bodyPost_ret (v := .tuple #[.agg #[.int .u64 0, .slice none 0 0], .bool false]) (by simp [results, Try.results58, go_sem, d3]) rfl (dec_no He.out (below_box2 HB3.out _ _))
end Go.Proofs.Ytblahapjdgncfaa
