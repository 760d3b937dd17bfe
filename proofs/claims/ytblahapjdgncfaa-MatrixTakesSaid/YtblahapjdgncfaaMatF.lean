/- Stable. -/
import Derived.Test.YtblahapjdgncfaaMatE
namespace Go.Proofs.Ytblahapjdgncfaa
open Go.RowKit
set_option linter.unusedVariables false
set_option linter.unusedSimpArgs false

def StNo (w : World) (e : Ending) (w' : World) : Prop := e = .returned (.tuple #[.slice none 0 0, .bool false]) ∧ Below w.heap.size w w'
def StYes (w : World) (v : List Dt) (e : Ending) (w' : World) : Prop := ∃ a c, e = .returned (.tuple #[.slice a v.length c, .bool true]) ∧ w'.ownsRow w.heap.size 34 3 (.slice a v.length c) v.length (dcells v) ∧ Below w.heap.size w w'
/-- what Stable tells -/
def StTo (w : World) (o : Option (List Dt)) (e : Ending) (w' : World) : Prop := (o = none ∧ StNo w e w') ∨ ∃ v, o = some v ∧ StYes w v e w'
theorem st_no {w w' : World} {o : Option (List Dt)} (ho : o = none) (hb : Below w.heap.size w w') : StTo w o (.returned (.tuple #[.slice none 0 0, .bool false])) w' := .inl ⟨ho, rfl, hb⟩

theorem stable_none (a : Option Addr) (q c : Nat) (w : World) : Calls Try.prog 34 #[.pointer none, .slice a q c] w (StTo w none) := by
  go_enter Try.func34, Try.ntmps34
  go_wp2_with fail
  exact bodyPost_ret (v := .tuple #[.slice none 0 0, .bool false]) (by simp [results, Try.results34, go_sem]) rfl (st_no rfl (Below.refl _ _))

theorem slice_rows (pm n : Nat) (hn : n ≤ 16) (W : World) : (Instr.sliceAt 94 (.pointer (some ⟨pm, 1, none⟩)) none (some (.int .i64 (n : Int))) none).run Try.prog W = .ok (.slice (some ⟨pm, 1, none⟩) n 16) W := by
  simp [go_sem, Instr.sliceAt, run_underlying Try.underlying94]
  intro h; omega
theorem fits_no {R : Mx} {l : List Int} {k : Nat} (h : R k = none) : fitsM R l k = false := by simp [fitsM, h]
theorem fits_eq {R : Mx} {l : List Int} {k : Nat} {o : Ak} {x : Int} (h : R k = some o) (hx : l[k]? = some x) : fitsM R l k = (o.i == x && decide (o.incs = l)) := by simp [fitsM, h, List.getD, hx]
theorem lt_snoc {p : Nat → Prop} {k : Nat} (h : ∀ j, j < k → p j) (hk : p k) : ∀ j, j < k + 1 → p j := fun j hj => by
  rcases Nat.lt_succ_iff_lt_or_eq.1 hj with h1 | rfl
  · exact h j h1
  · exact hk
set_option maxHeartbeats 4000000 in
theorem stable_any (a : Option Addr) (c : Nat) (l : List Int) (pm n : Nat) (R : Mx) (F : Nat → Prop) (w : World) (hM : MatR w F pm n R) (hR : okR n R) (hi : U32 w a c l) (hl : l.length ≤ 1000000) :
    Calls Try.prog 34 #[.pointer (some ⟨pm, 0, none⟩), .slice a l.length c] w (StTo w (stableM n R l)) := by
  have Hi := Lib.hid hi
  obtain ⟨C, P, h⟩ := hM
  have H := Lib.hid h
  have hlt := heap_lt h.blk
  have q0 := cells_at h.blk
  have e0 := h.c0
  have hn16 := h.hn
  clear h hi
  go_enter Try.func34, Try.ntmps34
  go_wp2_with fail
  refine (mayIncs_any a c l n w Hi.out hl).mono ?_
  rintro e w1 ⟨rfl, hb1⟩
  have HB1 := Lib.hid hb1
  have q1 := cells_at ((hb1.block _ hlt).trans H.out.blk)
  clear hb1 q0
  cases hmi : mayIncs l n with
  | false =>
    have He := Lib.hid (stable_may (R := R) hmi)
    clear hmi
    go_wp2_with fail
    exact bodyPost_ret (v := .tuple #[.slice none 0 0, .bool false]) (by simp [results, Try.results34, go_sem]) rfl (st_no He.out HB1.out)
  | true =>
    have Hmi := Lib.hid hmi
    have hll : l.length = n := by have := ((mayIncs_iff l n).1 hmi).2.2.1; omega
    subst hll
    have hsl := slice_rows pm l.length hn16.2
    clear hmi
    go_wp2_with fail
    refine region_text [([0, 1, 2, 3, 4, 5, 6, 7, 8, 9], false)] mixed (by kernel_rfl) ?_
    simp only [wpSegs, List.map_cons, List.map_nil, List.getD_cons_succ, List.getD_cons_zero]
    go_wp2_with fail
    refine And.intro (by kernel_rfl) ?_
    clear q1
    go_wp2_with fail
    go_loopw [4, 28] (fun vv j wr => ∃ (k : Nat) (fr : List Dt) (av : Option Addr) (cv : Nat), k ≤ l.length ∧ j = .int .i64 k ∧ vv = .slice av fr.length cv ∧ Hid (fr = frontM R k) ∧ Hid (wr.ownsRow w.heap.size 34 3 (.slice av fr.length cv) fr.length (dcells fr)) ∧ Hid (∀ j, j < k → fitsM R l j = true) ∧ Hid (Below w.heap.size w wr)) (fun _ j _ => l.length - (intOf j).toNat)
    case atStart => exact ⟨0, [], none, 0, Nat.zero_le _, rfl, rfl, Lib.hid rfl, Lib.hid ⟨rfl, .inl ⟨rfl, rfl⟩⟩, Lib.hid (fun j h => absurd h (Nat.not_lt_zero _)), Lib.hid HB1.out.drew⟩
    case round =>
      obtain ⟨k, fr, av, cv, hk, rfl, rfl, hfr, hown, hfit, Hb⟩ := hrel
      have q1 := cells_at ((Hb.out.block _ hlt).trans H.out.blk)
      have hfl : fr.length ≤ 64 := by rw [hfr.out]; exact frontM_length R k
      have hfo := Lib.hid (show okV fr by rw [hfr.out]; exact frontM_ok (fun k a h => (hR k a h).2.2.2.1) k)
      by_cases hkl : k < l.length
      · have hk16 : k < 16 := by omega
        have eP := H.out.cP k hk16
        have hs := Hb.out.size
        rcases H.out.rows k hk16 with ⟨hP, hRk⟩ | ⟨p, o, hP, hRk, hrow⟩
        · rw [hP] at eP
          dsimp only [ptrV] at eP
          have He := Lib.hid (stable_bar (R := R) (incs := l) hkl (fits_no hRk))
          clear hP hRk
          go_wp2_with fail
          refine region_text [([0, 1, 2, 3, 4, 5, 6, 7, 8, 9, 10, 11, 12, 13, 14, 15, 16, 17, 18, 19, 20, 21, 22], false)] mixed (by kernel_rfl) ?_
          simp only [wpSegs, List.map_cons, List.map_nil, List.getD_cons_succ, List.getD_cons_zero]
          go_wp2_with fail
          refine And.intro (by kernel_rfl) ?_
          go_wp2_with fail
          exact bodyPost_ret (v := .tuple #[.slice none 0 0, .bool false]) (by simp [results, Try.results34, go_sem]) rfl (st_no He.out Hb.out.drew)
        · rw [hP] at eP
          dsimp only [ptrV] at eP
          obtain ⟨x, hx⟩ : ∃ x, l[k]? = some x := ⟨l[k], by simp [hkl]⟩
          have Hfit := Lib.hid (fits_eq (l := l) hRk hx)
          have Ho := Lib.hid (hR k o hRk)
          have Hvv := Lib.hid (show vvM R k = o.vv by simp [vvM, hRk])
          obtain ⟨oi, oc, ov, od, hb0, hu0, hv0, hf0⟩ := hrow
          have hlp := heap_lt hb0
          have dp := cells_at ((Hb.out.block _ hlp).trans hb0)
          have Hb0 := Lib.hid hb0
          have Hu0 := Lib.hid hu0
          have Hv0 := Lib.hid hv0
          have Hok := Lib.hid Ho.out.2.2.2.1
          have hol : o.incs.length ≤ 1000000 := by have := ((mayIncs_iff o.incs l.length).1 Ho.out.2.2.2.2.1).2.2.1; omega
          have hov : o.vv.length ≤ 64 := by rw [← Ho.out.2.2.2.2.2]; exact vecOf_length _
          obtain ⟨ad, had, c0, hl0⟩ := (Hi.out.below Hb.out).at hx
          subst had
          clear hP hRk hb0 hu0 hv0 hf0 hx
          by_cases hix : o.i = x
          · have hix' : (o.i == x) = true := by simpa using hix
            go_wp2_with fail
            refine region_text [([0, 1, 2, 3, 4, 5, 6, 7, 8, 9, 10, 11, 12, 13, 14, 15, 16, 17, 18, 19, 20, 21, 22], false)] mixed (by kernel_rfl) ?_
            simp only [wpSegs, List.map_cons, List.map_nil, List.getD_cons_succ, List.getD_cons_zero]
            go_wp2_with fail
            refine (equal_any oi (some ad) oc c o.incs l _ (Hu0.out.below Hb.out.drew) (Hi.out.below Hb.out.drew) hol hl).mono ?_
            rintro e w2 ⟨rfl, hb2⟩
            have hb2' : Below wr.heap.size wr w2 := (Below.refl _ _).drew.trans hb2
            have HB2 := Lib.hid (Hb.out.trans (hb2'.mono hs))
            have hs2 := HB2.out.size
            have dp2 := cells_at ((HB2.out.block _ hlp).trans Hb0.out)
            have q2 := cells_at ((HB2.out.block _ hlt).trans H.out.blk)
            have Hown2 := Lib.hid (owns_chg (F := []) hown.out (Chg.of_below hb2') (by simp))
            clear hb2 hb2' dp q1 c0
            cases hde : decide (o.incs = l) with
            | false =>
              have He := Lib.hid (stable_bar (R := R) (incs := l) hkl (show fitsM R l k = false by rw [Hfit.out, hde]; simp))
              clear hde
              go_wp2_with fail
              refine And.intro (by kernel_rfl) ?_
              go_wp2_with fail
              exact bodyPost_ret (v := .tuple #[.slice none 0 0, .bool false]) (by simp [results, Try.results34, go_sem]) rfl (st_no He.out HB2.out)
            | true =>
              have Hfit2 := Lib.hid (lt_snoc hfit.out (show fitsM R l k = true by rw [Hfit.out, hde, hix']; rfl))
              clear hde
              rcases Nat.eq_zero_or_pos k with rfl | hk0
              · go_wp2_with fail
                refine And.intro (by kernel_rfl) ?_
                go_wp2_with fail
                refine (canon_any ov od o.vv _ (Hv0.out.below HB2.out) Hok.out (by omega)).mono ?_
                rintro e w3 ⟨a3, c3, rfl, ho3, hb3⟩
                have Ho3 := Lib.hid (owns_base ho3 hs2)
                have HB3 := Lib.hid (HB2.out.trans (hb3.mono hs2))
                clear ho3 hb3
                go_wp2_with fail
                go_roundw
                case rel => exact ⟨1, canonV o.vv, a3, c3, by omega, by go_num, rfl, Lib.hid (by rw [frontM_one, Hvv.out]), Ho3, Hfit2, HB3⟩
                case measure => simp [intOf]; omega
              · have hk0' : ((k : Int) == 0) = false := by simp; omega
                go_wp2_with fail
                refine And.intro (by kernel_rfl) ?_
                go_wp2_with fail
                refine (meet_any av ov cv od fr o.vv _ (vec_of Hown2.out) (Hv0.out.below HB2.out) hfo.out Hok.out (by omega) (by omega)).mono ?_
                rintro e w3 ⟨a3, c3, rfl, ho3, hb3⟩
                have Ho3 := Lib.hid (owns_base ho3 hs2)
                have HB3 := Lib.hid (HB2.out.trans (hb3.mono hs2))
                clear ho3 hb3
                go_wp2_with fail
                go_roundw
                case rel => exact ⟨k + 1, meetV fr o.vv, a3, c3, by omega, by go_num, rfl, Lib.hid (by rw [frontM_succ hk0, Hvv.out, hfr.out]), Ho3, Hfit2, HB3⟩
                case measure => simp [intOf]; omega
          · have hix' : (o.i == x) = false := by simpa using hix
            have He := Lib.hid (stable_bar (R := R) (incs := l) hkl (show fitsM R l k = false by rw [Hfit.out, hix']; rfl))
            go_wp2_with fail
            refine region_text [([0, 1, 2, 3, 4, 5, 6, 7, 8, 9, 10, 11, 12, 13, 14, 15, 16, 17, 18, 19, 20, 21, 22], false)] mixed (by kernel_rfl) ?_
            simp only [wpSegs, List.map_cons, List.map_nil, List.getD_cons_succ, List.getD_cons_zero]
            go_wp2_with fail
            refine And.intro (by kernel_rfl) ?_
            go_wp2_with fail
            exact bodyPost_ret (v := .tuple #[.slice none 0 0, .bool false]) (by simp [results, Try.results34, go_sem]) rfl (st_no He.out Hb.out.drew)
      · have He := Lib.hid (stable_all (R := R) Hmi.out (fun j hj => hfit.out j (by omega)))
        obtain rfl : k = l.length := by omega
        go_wp2_with fail
        exact bodyPost_ret (v := .tuple #[.slice av fr.length cv, .bool true]) (by simp [results, Try.results34, go_sem]) rfl (.inr ⟨fr, by rw [He.out, hfr.out], av, cv, rfl, hown.out, Hb.out⟩)
end Go.Proofs.Ytblahapjdgncfaa
