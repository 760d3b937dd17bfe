/- The walk of MatrixRises. -/
import Derived.Test.YtblahapjdgncfaaMatI
import Derived.Test.YtblahapjdgncfaaMatQ
namespace Go.Proofs.Ytblahapjdgncfaa
open Go.RowKit
set_option linter.unusedVariables false
set_option linter.unusedSimpArgs false

structure RiE (w wr : World) (pm n : Nat) (incs : List Int) (R : Mx) (last : List Dt) (was over : Bool) (av : Option Addr) (cv : Nat) : Prop where
  mat : MatE w wr pm n R
  own : wr.ownsRow (pm + 1) 34 3 (.slice av last.length cv) last.length (dcells last)
  rises : Rises n incs R last was over
theorem RiE.step {w wr w' : World} {pm n : Nat} {incs : List Int} {R : Mx} {last : List Dt} {was over : Bool} {av : Option Addr} {cv : Nat} (h : RiE w wr pm n incs R last was over av cv) (hb : Below wr.heap.size wr w') : RiE w w' pm n incs R last was over av cv :=
  ⟨h.mat.step hb, owns_chg (F := []) h.own (Chg.of_below hb) (by simp), h.rises⟩
theorem pm_lt {w wr : World} {pm n : Nat} {R : Mx} (h : MatE w wr pm n R) : pm + 1 ≤ wr.heap.size := by
  obtain ⟨C, P, h⟩ := h.mat
  exact heap_lt h.blk
theorem own_take {wr w' : World} {pm : Nat} {last : List Dt} {av : Option Addr} {cv : Nat} (h : wr.ownsRow (pm + 1) 34 3 (.slice av last.length cv) last.length (dcells last)) (hc : Chg [pm] wr w') : w'.ownsRow (pm + 1) 34 3 (.slice av last.length cv) last.length (dcells last) :=
  owns_chg h hc (fun k hk => by have := (owns_lt h k hk).1; simp; omega)
/-- behind Take: the matrix has gone on, what was known of the old one is still at hand -/
structure RiT (w wr : World) (pm n : Nat) (incs : List Int) (R R' : Mx) (last : List Dt) (was over : Bool) (av : Option Addr) (cv : Nat) : Prop where
  mat : MatE w wr pm n R'
  own : wr.ownsRow (pm + 1) 34 3 (.slice av last.length cv) last.length (dcells last)
  okR : okR n R
  le : leM R R'
  rises : Rises n incs R last was over
theorem RiT.step {w wr w' : World} {pm n : Nat} {incs : List Int} {R R' : Mx} {last : List Dt} {was over : Bool} {av : Option Addr} {cv : Nat} (h : RiT w wr pm n incs R R' last was over av cv) (hb : Below wr.heap.size wr w') : RiT w w' pm n incs R R' last was over av cv :=
  ⟨h.mat.step hb, owns_chg (F := []) h.own (Chg.of_below hb) (by simp), h.okR, h.le, h.rises⟩
theorem RiE.take {w wr w' : World} {pm n : Nat} {incs : List Int} {R : Mx} {last : List Dt} {was over : Bool} {av : Option Addr} {cv : Nat} {a : Ak} (h : RiE w wr pm n incs R last was over av cv) (ha : okAk a) {F : Nat → Prop} (hm : MatR w' F pm n (nextM n R a)) (hc : Chg [pm] wr w') : RiT w w' pm n incs R (nextM n R a) last was over av cv :=
  ⟨h.mat.take ha hm hc, own_take h.own hc, h.mat.ok, leM_next h.mat.ok ha, h.rises⟩
/-- the frontier v is there -/
structure RiV (w wr : World) (pm n : Nat) (incs : List Int) (R : Mx) (v : List Dt) (av : Option Addr) (cv : Nat) : Prop where
  mat : MatE w wr pm n R
  own : wr.ownsRow (pm + 1) 34 3 (.slice av v.length cv) v.length (dcells v)
  st : stableM n R incs = some v
  rises : Rises n incs R v true false
theorem RiV.step {w wr w' : World} {pm n : Nat} {incs : List Int} {R : Mx} {v : List Dt} {av : Option Addr} {cv : Nat} (h : RiV w wr pm n incs R v av cv) (hb : Below wr.heap.size wr w') : RiV w w' pm n incs R v av cv :=
  ⟨h.mat.step hb, owns_chg (F := []) h.own (Chg.of_below hb) (by simp), h.st, h.rises⟩
theorem RiV.row {w wr : World} {pm n : Nat} {incs : List Int} {R : Mx} {v : List Dt} {av : Option Addr} {cv : Nat} (h : RiV w wr pm n incs R v av cv) {k : Nat} (hk : k < n) : ∃ a, rowM n R k = some a ∧ withinV v a.vv = true ∧ okV a.vv ∧ a.vv.length ≤ 64 := by
  obtain ⟨a, h1, h2⟩ := stable_row h.mat.ok h.st hk
  have ho := h.mat.ok k a h1
  exact ⟨a, by unfold rowM; rw [if_pos (by omega)]; simpa using h1, h2, ho.2.2.2.1, by rw [← ho.2.2.2.2.2]; exact vecOf_length _⟩

set_option maxRecDepth 100000 in
set_option maxHeartbeats 4000000 in
theorem rises_walk (n : Int) (la ia : Option Addr) (lc ic : Nat) (ys : List Ak) (l : List Int) (w : World) (hl : Acks w la lc ys) (hi : U32 w ia ic l) :
    Calls Try.prog 5 #[.int .i64 n, .slice la ys.length lc, .slice ia l.length ic] w fun e w' => e = .returned (.bool true) ∧ Below w.heap.size w w' := by
  have hlm := hi.2.1
  have hlm2 := hi.2.2.1
  unfold maxLen at hlm2
  have Hl := Lib.hid hl
  have Hi := Lib.hid hi
  clear hl hi
  go_enter Try.func5, Try.ntmps5
  go_wp2_with fail
  refine (new_any n w).mono ?_
  rintro e w1 (⟨hn, rfl, rfl⟩ | ⟨hn, rfl, hM, hB⟩)
  · go_wp2_with fail
    refine (great17_any la lc ys _ Hl.out).mono ?_
    rintro e w2 ⟨rfl, hb2⟩
    have HB := Lib.hid hb2
    clear hb2
    cases hg : greatL ys with
    | true =>
      clear hg
      go_wp2_with fail
      refine (known17_any _).mono ?_
      rintro e w3 ⟨rfl, hb3⟩
      have HB3 := Lib.hid (HB.out.trans (hb3.mono HB.out.size))
      clear hb3
      go_wp2_with fail
      go_ret
      exact ⟨rfl, HB3.out⟩
    | false =>
      clear hg
      by_cases h20 : 20 < l.length
      · go_wp2_with fail
        refine (known17_any _).mono ?_
        rintro e w3 ⟨rfl, hb3⟩
        have HB3 := Lib.hid (HB.out.trans (hb3.mono HB.out.size))
        clear hb3
        go_wp2_with fail
        go_ret
        exact ⟨rfl, HB3.out⟩
      · have h20' : decide ((20 : Int) < l.length) = false := by simp; omega
        go_wp2_with fail
        refine (known17_any _).mono ?_
        rintro e w3 ⟨rfl, hb3⟩
        have HB3 := Lib.hid (HB.out.trans (hb3.mono HB.out.size))
        clear hb3
        go_wp2_with fail
        go_ret
        exact ⟨rfl, HB3.out⟩
  · obtain ⟨N, rfl⟩ : ∃ N : Nat, n = N := ⟨n.toNat, by omega⟩
    simp only [Int.toNat_natCast] at hM
    have E := Lib.hid (⟨hM.mono (fun _ _ => trivial), okR_new _, Nat.le_refl _, hB⟩ : MatE w w1 w.heap.size N newR)
    clear hM hB
    go_wp2_with fail
    refine (great17_any la lc ys _ (Hl.out.below E.out.below)).mono ?_
    rintro e w2 ⟨rfl, hb2⟩
    replace E := Lib.hid (E.out.step hb2)
    clear hb2
    cases hg : greatL ys with
    | true =>
      clear hg
      go_wp2_with fail
      refine (known17_any _).mono ?_
      rintro e w3 ⟨rfl, hb3⟩
      replace E := Lib.hid (E.out.step hb3)
      clear hb3
      go_wp2_with fail
      go_ret
      exact ⟨rfl, E.out.below⟩
    | false =>
      have Hg := Lib.hid hg
      clear hg
      by_cases h20 : 20 < l.length
      · go_wp2_with fail
        refine (known17_any _).mono ?_
        rintro e w3 ⟨rfl, hb3⟩
        replace E := Lib.hid (E.out.step hb3)
        clear hb3
        go_wp2_with fail
        go_ret
        exact ⟨rfl, E.out.below⟩
      · have h20' : decide ((20 : Int) < l.length) = false := by simp; omega
        have hys : ys.length ≤ 60 := by have := Hg.out; simp [greatL] at this; omega
        have Hgk := Lib.hid (show ∀ y ∈ ys, y.vv.length ≤ 40 ∧ y.incs.length ≤ 20 by
          have := Hg.out; simp only [greatL, Bool.or_eq_false_iff, List.any_eq_false] at this
          intro y hy; have := this.1 y hy; simp [greatK] at this; omega)
        clear Hg
        go_wp2_with fail
        go_loopw [9, 10, 11, 43] (fun x9 x10 x11 j wr => ∃ (k : Nat) (R : Mx) (last : List Dt) (was over : Bool) (av : Option Addr) (cv : Nat), k ≤ ys.length ∧ j = .int .i64 k ∧ x9 = .slice av last.length cv ∧ x10 = .bool was ∧ x11 = .bool over ∧ Hid (RiE w wr w.heap.size N l R last was over av cv)) (fun _ _ _ j _ => ys.length - (intOf j).toNat)
        case atStart => exact ⟨0, newR, [], false, false, none, 0, Nat.zero_le _, rfl, rfl, rfl, rfl, Lib.hid ⟨E.out, ⟨rfl, .inl ⟨rfl, rfl⟩⟩, Rises.start _ _ _⟩⟩
        case round =>
          obtain ⟨k, R, last, was, over, av, cv, hk, rfl, rfl, rfl, rfl, HE⟩ := hrel
          clear E
          by_cases hlt : k < ys.length
          · obtain ⟨⟨yr, yi, yl, yv⟩, hy⟩ : ∃ y, ys[k]? = some y := ⟨ys[k], by simp [hlt]⟩
            obtain ⟨ad, ai, ci, av1, cv1, had, hat, hl0⟩ := (Hl.out.below HE.out.mat.below).at hy
            have hgk := Hgk.out _ (List.mem_of_getElem? hy)
            obtain ⟨c0, c1, c2, c3, hi1, hv1, hok⟩ := hat
            dsimp only at c0 c1 c2 c3 hi1 hv1 hgk
            obtain ⟨rn, rfl⟩ : ∃ rn : Nat, yr = rn := ⟨yr.toNat, by have := hok.1.1.1; dsimp only at this; omega⟩
            have hrn : rn ≤ 255 := by have := hok.1.1.2; dsimp only at this; omega
            subst had
            have Hi1 := Lib.hid hi1
            have Hv1 := Lib.hid hv1
            have Hok := Lib.hid hok
            clear hy hi1 hv1 hok
            go_wp2_with fail
            replace HE := Lib.hid (HE.out.step ((Below.refl _ wr).alloc (Nat.le_refl _) (.cells #[.int .u8 rn, .int .u32 yi, .slice ai yl.length ci, .slice av1 yv.length cv1] 51)))
            have hba : Below wr.heap.size wr (wr.alloc (.cells #[.int .u8 rn, .int .u32 yi, .slice ai yl.length ci, .slice av1 yv.length cv1] 51)) := (Below.refl _ wr).alloc (Nat.le_refl _) _
            refine (take_any rn yi ai av1 ci cv1 yl yv w.heap.size N R AllB _ HE.out.mat.mat HE.out.mat.ok (Hi1.out.below hba) (Hv1.out.below hba) hrn Hok.out.2.2 (by omega) (by omega)).mono ?_
            clear hba
            rintro e w3 ⟨rfl, hM, hc⟩
            have HT := Lib.hid (HE.out.take Hok.out hM hc)
            clear hM hc HE Hi1 Hv1 Hok
            generalize nextM (N : Int) R ⟨rn, yi, yl, yv⟩ = R' at HT
            go_wp2_with fail
            refine (stable_any ia ic l w.heap.size N R' AllB w3 HT.out.mat.mat HT.out.mat.ok (Hi.out.below HT.out.mat.below) (by omega)).mono ?_
            rintro e w4 (⟨hst, rfl, hb⟩ | ⟨v, hst, a4, c4, rfl, ho4, hb⟩)
            · have HN := Lib.hid (HT.out.rises.no HT.out.okR HT.out.mat.ok HT.out.le hst)
              have HO := Lib.hid (HT.out.step hb)
              have HF := Lib.hid (⟨HO.out.mat, HO.out.own, HN.out⟩ : RiE w w4 w.heap.size N l R' last was (over || was) av cv)
              clear hst hb HT HN HO
              cases was with
              | true =>
                go_wp2_with fail
                go_roundw
                case rel => exact ⟨k + 1, R', last, true, true, av, cv, by omega, by go_num, rfl, rfl, rfl, by simpa using HF⟩
                case measure => simp [intOf]; omega
              | false =>
                go_wp2_with fail
                go_roundw
                case rel => exact ⟨k + 1, R', last, false, over, av, cv, by omega, by go_num, rfl, rfl, rfl, by simpa using HF⟩
                case measure => simp [intOf]; omega
            · have HY := Lib.hid (HT.out.rises.yes HT.out.okR HT.out.mat.ok HT.out.le hst)
              have hpm := pm_lt HT.out.mat
              have HO := Lib.hid (HT.out.step hb)
              have HV := Lib.hid (⟨HO.out.mat, owns_base ho4 hpm, hst, HY.out.2.2⟩ : RiV w w4 w.heap.size N l R' v a4 c4)
              obtain rfl : over = false := HY.out.1
              have HL := Lib.hid HO.out.own
              have hvl := HY.out.2.2.len
              have hll := HT.out.rises.len
              have Hlo := Lib.hid HT.out.rises.ok
              have Hwi := Lib.hid HY.out.2.1
              have Hvo := Lib.hid HY.out.2.2.ok
              clear hst hb HT HO HY ho4 hpm
              cases was with
              | true =>
                have Hw := Lib.hid (Hwi.out rfl)
                clear Hwi
                go_wp2_with fail
                refine (rwithin_any av a4 cv c4 last v _ (vec_of HL.out) (vec_of HV.out.own) Hlo.out (by omega) (by omega)).mono ?_
                rintro e w5 ⟨rfl, hb⟩
                rw [Hw.out]
                replace HV := Lib.hid (HV.out.step hb)
                clear hb Hw HL
                go_wp2_with fail
                go_loopw [76] (fun j wx => ∃ (m : Nat), m ≤ N ∧ j = .int .i64 m ∧ Hid (RiV w wx w.heap.size N l R' v a4 c4)) (fun j _ => N - (intOf j).toNat)
                case atStart => exact ⟨0, Nat.zero_le _, rfl, HV⟩
                case round =>
                  rename_i wx _ _ _ _ _ _ _ _ _ _ _ _ _ _ _ _ _ _ _
                  obtain ⟨m, hm, rfl, HX⟩ := hrel
                  clear HV
                  by_cases hmn : m < N
                  · obtain ⟨o, hro, hwo, hoo, hlo⟩ := HX.out.row hmn
                    have Hro := Lib.hid hro
                    have Hwo := Lib.hid hwo
                    clear hro hwo
                    go_wp2_with fail
                    refine (row_any m w.heap.size N R' AllB _ HX.out.mat.mat HX.out.mat.ok).mono ?_
                    rintro e w6 (⟨hno, _⟩ | ⟨o', ho', oi, oc, ov, od, rfl, _, ho6, hb6⟩)
                    · rw [Hro.out] at hno; cases hno
                    obtain rfl : o = o' := by rw [Hro.out] at ho'; exact Option.some.inj ho'
                    replace HX := Lib.hid (HX.out.step hb6)
                    have H6 := Lib.hid (vec_of ho6)
                    clear ho' ho6 hb6
                    go_wp2_with fail
                    have hba : Below w6.heap.size w6 (w6.alloc (.cells #[.int .u8 o.r, .int .u32 o.i, .slice oi o.incs.length oc, .slice ov o.vv.length od] 51)) := (Below.refl _ w6).alloc (Nat.le_refl _) _
                    replace HX := Lib.hid (HX.out.step hba)
                    refine (rwithin_any a4 ov c4 od v o.vv _ (vec_of HX.out.own) (H6.out.below hba) Hvo.out (by omega) (by omega)).mono ?_
                    clear hba
                    rintro e w7 ⟨rfl, hb⟩
                    rw [Hwo.out]
                    replace HX := Lib.hid (HX.out.step hb)
                    clear hb
                    go_wp2_with fail
                    go_roundw
                    case rel => exact ⟨m + 1, by omega, by go_num, HX⟩
                    case measure => simp [intOf]; omega
                  · go_wp2_with fail
                    go_roundw
                    case rel => exact ⟨k + 1, R', v, true, false, a4, c4, by omega, by go_num, rfl, rfl, rfl, Lib.hid ⟨HX.out.mat, HX.out.own, HX.out.rises⟩⟩
                    case measure => simp [intOf]; omega
              | false =>
                clear Hwi HL
                go_wp2_with fail
                go_loopw [76] (fun j wx => ∃ (m : Nat), m ≤ N ∧ j = .int .i64 m ∧ Hid (RiV w wx w.heap.size N l R' v a4 c4)) (fun j _ => N - (intOf j).toNat)
                case atStart => exact ⟨0, Nat.zero_le _, rfl, HV⟩
                case round =>
                  rename_i wx _ _ _ _ _ _ _ _ _ _ _ _ _ _ _ _ _ _ _
                  obtain ⟨m, hm, rfl, HX⟩ := hrel
                  clear HV
                  by_cases hmn : m < N
                  · obtain ⟨o, hro, hwo, hoo, hlo⟩ := HX.out.row hmn
                    have Hro := Lib.hid hro
                    have Hwo := Lib.hid hwo
                    clear hro hwo
                    go_wp2_with fail
                    refine (row_any m w.heap.size N R' AllB _ HX.out.mat.mat HX.out.mat.ok).mono ?_
                    rintro e w6 (⟨hno, _⟩ | ⟨o', ho', oi, oc, ov, od, rfl, _, ho6, hb6⟩)
                    · rw [Hro.out] at hno; cases hno
                    obtain rfl : o = o' := by rw [Hro.out] at ho'; exact Option.some.inj ho'
                    replace HX := Lib.hid (HX.out.step hb6)
                    have H6 := Lib.hid (vec_of ho6)
                    clear ho' ho6 hb6
                    go_wp2_with fail
                    have hba : Below w6.heap.size w6 (w6.alloc (.cells #[.int .u8 o.r, .int .u32 o.i, .slice oi o.incs.length oc, .slice ov o.vv.length od] 51)) := (Below.refl _ w6).alloc (Nat.le_refl _) _
                    replace HX := Lib.hid (HX.out.step hba)
                    refine (rwithin_any a4 ov c4 od v o.vv _ (vec_of HX.out.own) (H6.out.below hba) Hvo.out (by omega) (by omega)).mono ?_
                    clear hba
                    rintro e w7 ⟨rfl, hb⟩
                    rw [Hwo.out]
                    replace HX := Lib.hid (HX.out.step hb)
                    clear hb
                    go_wp2_with fail
                    go_roundw
                    case rel => exact ⟨m + 1, by omega, by go_num, HX⟩
                    case measure => simp [intOf]; omega
                  · go_wp2_with fail
                    go_roundw
                    case rel => exact ⟨k + 1, R', v, true, false, a4, c4, by omega, by go_num, rfl, rfl, rfl, Lib.hid ⟨HX.out.mat, HX.out.own, HX.out.rises⟩⟩
                    case measure => simp [intOf]; omega
          · go_wp2_with fail
            refine (row_none 0 _).mono ?_
            rintro e w3 (⟨_, rfl, hb3⟩ | ⟨a, h, _⟩)
            case inr => cases h
            replace HE := Lib.hid (HE.out.step hb3)
            clear hb3
            go_wp2_with fail
            replace HE := Lib.hid (HE.out.step ((Below.refl _ w3).alloc (Nat.le_refl _) (.cells #[.int .u8 0, .int .u32 0, .slice none 0 0, .slice none 0 0] 51)))
            refine (stable_none ia l.length ic _).mono ?_
            rintro e w4 (⟨_, rfl, hb3⟩ | ⟨a, h, _⟩)
            case inr => cases h
            replace HE := Lib.hid (HE.out.step hb3)
            clear hb3
            go_wp2_with fail
            refine (ack_any 0 1 1 _).mono ?_
            rintro e w5 ⟨ai, ci, av2, cv2, rfl, ho3, ho4, hb2⟩
            replace HE := Lib.hid (HE.out.step hb2)
            clear ho3 ho4 hb2
            go_wp2_with fail
            refine (take_none 0 1 ai av2 ci cv2 _ _ _).mono ?_
            rintro e w6 ⟨rfl, hb2⟩
            replace HE := Lib.hid (HE.out.step hb2)
            clear hb2
            go_wp2_with fail
            refine (copy_none _).mono ?_
            rintro e w7 ⟨rfl, rfl⟩
            go_wp2_with fail
            refine (known17_any _).mono ?_
            rintro e w8 ⟨rfl, hb2⟩
            replace HE := Lib.hid (HE.out.step hb2)
            clear hb2
            go_wp2_with fail
            go_ret
            exact ⟨rfl, HE.out.mat.below⟩
end Go.Proofs.Ytblahapjdgncfaa
