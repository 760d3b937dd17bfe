/- The reference's Stable (varveref17). -/
import Derived.Test.YtblahapjdgncfaaMatL
import Derived.Test.YtblahapjdgncfaaMatF
import Derived.Test.YtblahapjdgncfaaVec5
namespace Go.Proofs.Ytblahapjdgncfaa
open Go.RowKit
set_option linter.unusedVariables false
set_option linter.unusedSimpArgs false

/-- the rows that the reference's list has -/
def RL (L : List Ak) : Mx := fun k => rowL L k
theorem meetV_self (v : List Dt) : meetV v v = canonV v := vecOf_congr fun x _ => by omega

set_option maxHeartbeats 4000000 in
theorem rstable_any (a : Option Addr) (c : Nat) (l : List Int) (pw n : Nat) (L : List Ak) (F : Nat → Prop) (w : World) (hM : RefR w F pw n L) (hL : L.length ≤ 1000) (hr : ∀ a ∈ L, okA (a.r, a.i)) (hR : okR n (RL L)) (hi : U32 w a c l) (hl : l.length ≤ 1000000) :
    Calls Try.prog 78 #[.pointer (some ⟨pw, 0, none⟩), .slice a l.length c] w (StTo w (stableM n (RL L) l)) := by
  have Hi := Lib.hid hi
  have HM := Lib.hid hM
  obtain ⟨la, lc, h⟩ := hM
  have H := Lib.hid h
  have hlt := heap_lt h.blk
  have q0 := cells_at h.blk
  have Hr := Lib.hid hr
  clear h hi hr
  go_enter Try.func78, Try.ntmps78
  go_wp2_with fail
  refine (rmayIncs_any a c l n w Hi.out hl).mono ?_
  rintro e w1 ⟨rfl, hb1⟩
  have HB1 := Lib.hid hb1
  have q1 := cells_at ((hb1.block _ hlt).trans H.out.blk)
  clear hb1 q0
  cases hmi : mayIncs l n with
  | false =>
    have He := Lib.hid (stable_may (R := RL L) hmi)
    clear hmi
    go_wp2_with fail
    exact bodyPost_ret (v := .tuple #[.slice none 0 0, .bool false]) (by simp [results, Try.results78, go_sem]) rfl (st_no He.out HB1.out)
  | true =>
    have Hmi := Lib.hid hmi
    have hll : l.length = n := by have := ((mayIncs_iff l n).1 hmi).2.2.1; omega
    have hn16 : n ≤ 16 := by have := ((mayIncs_iff l n).1 hmi).2.1; omega
    clear hmi q1
    subst hll
    go_wp2_with fail
    go_loopw [6, 7] (fun vv j wr => ∃ (k : Nat) (fr : List Dt) (av : Option Addr) (cv : Nat), k ≤ l.length ∧ j = .int .i64 k ∧ vv = .slice av fr.length cv ∧ Hid (fr = frontM (RL L) k) ∧ Hid (wr.ownsRow w.heap.size 34 3 (.slice av fr.length cv) fr.length (dcells fr)) ∧ Hid (∀ j, j < k → fitsM (RL L) l j = true) ∧ Hid (Below w.heap.size w wr)) (fun _ j _ => l.length - (intOf j).toNat)
    case atStart => exact ⟨0, [], none, 0, Nat.zero_le _, rfl, rfl, Lib.hid rfl, Lib.hid ⟨rfl, .inl ⟨rfl, rfl⟩⟩, Lib.hid (fun j h => absurd h (Nat.not_lt_zero _)), HB1⟩
    case round =>
      obtain ⟨k, fr, av, cv, hk, rfl, rfl, hfr, hown, hfit, Hb⟩ := hrel
      have q1 := cells_at ((Hb.out.block _ hlt).trans H.out.blk)
      have hfl : fr.length ≤ 64 := by rw [hfr.out]; exact frontM_length (RL L) k
      have hfo := Lib.hid (show okV fr by rw [hfr.out]; exact frontM_ok (fun k a h => (hR k a h).2.2.2.1) k)
      by_cases hkl : k < l.length
      · have hs := Hb.out.size
        go_wp2_with fail
        refine (rrow_any k pw l.length L F _ (HM.out.below Hb.out) hL Hr.out).mono ?_
        rintro e w2 (⟨hno, rfl, hb2⟩ | ⟨o, ho, oi, oc, ov, od, rfl, hu0, hv0, hb2⟩)
        · have He := Lib.hid (stable_bar (R := RL L) (incs := l) hkl (fits_no hno))
          have HB2 := Lib.hid (Hb.out.trans (hb2.mono hs))
          clear hb2 hno q1
          go_wp2_with fail
          refine region_text [([0, 1, 2, 3, 4, 5, 6, 7, 8, 9, 10, 11, 12, 13, 14, 15, 16, 17, 18], false)] mixed (by kernel_rfl) ?_
          simp only [wpSegs, List.map_cons, List.map_nil, List.getD_cons_succ, List.getD_cons_zero]
          go_wp2_with fail
          refine And.intro (by kernel_rfl) ?_
          go_wp2_with fail
          exact bodyPost_ret (v := .tuple #[.slice none 0 0, .bool false]) (by simp [results, Try.results78, go_sem]) rfl (st_no He.out (below_drewN (HB2.out.alloc HB2.out.size _) _))
        · obtain ⟨x, hx⟩ : ∃ x, l[k]? = some x := ⟨l[k], by simp [hkl]⟩
          have Hfit := Lib.hid (fits_eq (R := RL L) (l := l) ho hx)
          have Ho := Lib.hid (hR k o ho)
          have Hvv := Lib.hid (show vvM (RL L) k = o.vv by unfold vvM; rw [show RL L k = some o from ho])
          have hba : Below w2.heap.size w2 (w2.alloc (.cells #[.int .u8 o.r, .int .u32 o.i, .slice oi o.incs.length oc, .slice ov o.vv.length od] 51)) := (Below.refl _ w2).alloc (Nat.le_refl _) _
          have hbx := heap_new w2 (.cells #[.int .u8 o.r, .int .u32 o.i, .slice oi o.incs.length oc, .slice ov o.vv.length od] 51)
          have Hu0 := Lib.hid (hu0.below hba)
          have Hv0 := Lib.hid (hv0.below hba)
          have Hok := Lib.hid Ho.out.2.2.2.1
          have hol : o.incs.length ≤ 1000000 := by have := ((mayIncs_iff o.incs l.length).1 Ho.out.2.2.2.2.1).2.2.1; omega
          have hov : o.vv.length ≤ 64 := by rw [← Ho.out.2.2.2.2.2]; exact vecOf_length _
          have HB2 := Lib.hid (Hb.out.trans ((hb2.trans (hba.mono hb2.size)).mono hs))
          have Hown2 := Lib.hid (owns_chg (F := []) (owns_chg (F := []) hown.out (Chg.of_below hb2) (by simp)) (Chg.of_below hba) (by simp))
          obtain ⟨ad, had, c0, hl0⟩ := (Hi.out.below HB2.out).at hx
          subst had
          have dx := cells_at hbx
          clear hu0 hv0 hb2 ho hx q1 hba
          by_cases hix : o.i = x
          · subst hix
            have hix' : (o.i == o.i) = true := by simp
            go_wp2_with fail
            refine region_text [([0, 1, 2, 3, 4, 5, 6, 7, 8, 9, 10, 11, 12, 13, 14, 15, 16, 17, 18], false)] mixed (by kernel_rfl) ?_
            simp only [wpSegs, List.map_cons, List.map_nil, List.getD_cons_succ, List.getD_cons_zero]
            go_wp2_with fail
            refine (rsameI_any oi (some ad) oc c o.incs l _ (Hu0.out.below (Below.refl _ _).drew) (Hi.out.below HB2.out.drew) hol hl).mono ?_
            rintro e w3 ⟨rfl, hb3⟩
            have hb3' := (Below.refl _ _).drew.trans hb3
            have hs2 := HB2.out.size
            have HB3 := Lib.hid (HB2.out.trans (hb3'.mono hs2))
            have hs3 := HB3.out.size
            have hbx3 := (hb3'.block _ (heap_lt hbx)).trans hbx
            have dx3 := cells_at hbx3
            have q3 := cells_at ((HB3.out.block _ hlt).trans H.out.blk)
            have Hown3 := Lib.hid (owns_chg (F := []) Hown2.out (Chg.of_below hb3') (by simp))
            have Hv3 := Lib.hid (Hv0.out.below hb3')
            clear hb3 hb3' dx c0 hbx hbx3 Hown2 Hv0
            cases hde : decide (o.incs = l) with
            | false =>
              have He := Lib.hid (stable_bar (R := RL L) (incs := l) hkl (show fitsM (RL L) l k = false by rw [Hfit.out, hde]; simp))
              clear hde
              go_wp2_with fail
              refine And.intro (by kernel_rfl) ?_
              go_wp2_with fail
              exact bodyPost_ret (v := .tuple #[.slice none 0 0, .bool false]) (by simp [results, Try.results78, go_sem]) rfl (st_no He.out HB3.out)
            | true =>
              have Hfit2 := Lib.hid (lt_snoc hfit.out (show fitsM (RL L) l k = true by rw [Hfit.out, hde, hix']; rfl))
              clear hde
              rcases Nat.eq_zero_or_pos k with rfl | hk0
              · go_wp2_with fail
                refine And.intro (by kernel_rfl) ?_
                go_wp2_with fail
                refine (rmeet_any ov ov od od o.vv o.vv _ Hv3.out Hv3.out Hok.out Hok.out (by omega) (by omega)).mono ?_
                rintro e w4 ⟨a3, c3, rfl, ho3, hb4⟩
                have Ho3 := Lib.hid (owns_base ho3 hs3)
                have HB4 := Lib.hid (HB3.out.trans (hb4.mono hs3))
                clear ho3 hb4
                go_wp2_with fail
                go_roundw
                case rel => exact ⟨1, meetV o.vv o.vv, a3, c3, by omega, by go_num, rfl, Lib.hid (by rw [frontM_one, Hvv.out, meetV_self]), Ho3, Hfit2, HB4⟩
                case measure => simp [intOf]; omega
              · have hk0' : ((k : Int) == 0) = false := by simp; omega
                go_wp2_with fail
                refine And.intro (by kernel_rfl) ?_
                go_wp2_with fail
                refine (rmeet_any av ov cv od fr o.vv _ (vec_of Hown3.out) Hv3.out hfo.out Hok.out (by omega) (by omega)).mono ?_
                rintro e w4 ⟨a3, c3, rfl, ho3, hb4⟩
                have Ho3 := Lib.hid (owns_base ho3 hs3)
                have HB4 := Lib.hid (HB3.out.trans (hb4.mono hs3))
                clear ho3 hb4
                go_wp2_with fail
                go_roundw
                case rel => exact ⟨k + 1, meetV fr o.vv, a3, c3, by omega, by go_num, rfl, Lib.hid (by rw [frontM_succ hk0, Hvv.out, hfr.out]), Ho3, Hfit2, HB4⟩
                case measure => simp [intOf]; omega
          · have hix' : (o.i == x) = false := by simpa using hix
            have He := Lib.hid (stable_bar (R := RL L) (incs := l) hkl (show fitsM (RL L) l k = false by rw [Hfit.out, hix']; rfl))
            go_wp2_with fail
            refine region_text [([0, 1, 2, 3, 4, 5, 6, 7, 8, 9, 10, 11, 12, 13, 14, 15, 16, 17, 18], false)] mixed (by kernel_rfl) ?_
            simp only [wpSegs, List.map_cons, List.map_nil, List.getD_cons_succ, List.getD_cons_zero]
            go_wp2_with fail
            refine And.intro (by kernel_rfl) ?_
            go_wp2_with fail
            exact bodyPost_ret (v := .tuple #[.slice none 0 0, .bool false]) (by simp [results, Try.results78, go_sem]) rfl (st_no He.out (below_drewN HB2.out _))
      · have He := Lib.hid (stable_all (R := RL L) Hmi.out (fun j hj => hfit.out j (by omega)))
        obtain rfl : k = l.length := by omega
        go_wp2_with fail
        exact bodyPost_ret (v := .tuple #[.slice av fr.length cv, .bool true]) (by simp [results, Try.results78, go_sem]) rfl (.inr ⟨fr, by rw [He.out, hfr.out], av, cv, rfl, hown.out, Hb.out⟩)
end Go.Proofs.Ytblahapjdgncfaa
