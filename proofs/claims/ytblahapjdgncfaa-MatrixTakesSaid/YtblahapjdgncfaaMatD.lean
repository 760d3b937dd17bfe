/- Take. -/
import Derived.Test.YtblahapjdgncfaaMatC
namespace Go.Proofs.Ytblahapjdgncfaa
open Go.RowKit
set_option linter.unusedVariables false
set_option linter.unusedSimpArgs false

theorem Chg.set {F : List Nat} {w w' : World} (h : Chg F w w') (p : Addr) (x : Value) (hp : p.block ∈ F) : Chg F w (w'.setCell p x) :=
  h.trans (Chg.setCell w' p x) (fun y hy _ => by rw [List.mem_singleton] at hy; rw [hy]; exact hp)
def boxed (w4 : World) (s pm k : Nat) (x0 x1 x2 x3 : Value) : World :=
  (((((w4.setCell ⟨s, 0, none⟩ x0).setCell ⟨s, 1, none⟩ x1).setCell ⟨s, 2, none⟩ x2).setCell ⟨s, 3, none⟩ x3).setCell ⟨pm, 1 + k, none⟩ (.pointer (some ⟨s, 0, none⟩))).drew
theorem take_end {w w4 : World} {F : Nat → Prop} {pm n k : Nat} {R : Mx} {C : Array Value} {P : Nat → Option Nat} {i : Int} {l : List Int} {v : List Dt} {b0 b1 b2 b3 : Value} {a3 a4 : Option Addr} {c3 c4 : Nat}
    (hb : Below w.heap.size w w4) (h : MatAt w F pm n R C P) (hk : k < 16) (he : takesM n R ⟨k, i, l, v⟩ = true) (hx : w4.heap[w.heap.size]? = some (.cells #[b0, b1, b2, b3] 51 (0, 0))) (hy : w4.heap[pm]? = some (.cells C 96 (0, 0)))
    (ho3 : w4.ownsRow (w.heap.size + 1) 29 1 (.slice a3 l.length c3) l.length (ucells l)) (ho4 : w4.ownsRow (w.heap.size + 1) 34 3 (.slice a4 (canonV v).length c4) (canonV v).length (dcells (canonV v))) :
    MatR (boxed w4 w.heap.size pm k (.int .u8 k) (.int .u32 i) (.slice a3 l.length c3) (.slice a4 (canonV v).length c4)) (fun b => F b ∨ w.heap.size ≤ b ∧ b < (boxed w4 w.heap.size pm k (.int .u8 k) (.int .u32 i) (.slice a3 l.length c3) (.slice a4 (canonV v).length c4)).heap.size) pm n (nextM n R ⟨k, i, l, v⟩) ∧
    Chg [pm] w (boxed w4 w.heap.size pm k (.int .u8 k) (.int .u32 i) (.slice a3 l.length c3) (.slice a4 (canonV v).length c4)) := by
  have hlt := heap_lt h.blk
  have hsz : (boxed w4 w.heap.size pm k (.int .u8 k) (.int .u32 i) (.slice a3 l.length c3) (.slice a4 (canonV v).length c4)).heap.size = w4.heap.size := by simp [boxed]
  rw [hsz]
  have hlx := heap_lt hx
  have hne : pm ≠ w.heap.size := by omega
  have k0 := heap_setCell_same w4 w.heap.size 0 _ _ (.int .u8 k) hx
  have k1 := heap_setCell_same _ w.heap.size 1 _ _ (.int .u32 i) k0
  have k2 := heap_setCell_same _ w.heap.size 2 _ _ (.slice a3 l.length c3) k1
  have k3 := heap_setCell_same _ w.heap.size 3 _ _ (.slice a4 (canonV v).length c4) k2
  have C1 : Chg [w.heap.size] w4 ((((w4.setCell ⟨w.heap.size, 0, none⟩ (.int .u8 k)).setCell ⟨w.heap.size, 1, none⟩ (.int .u32 i)).setCell ⟨w.heap.size, 2, none⟩ (.slice a3 l.length c3)).setCell ⟨w.heap.size, 3, none⟩ (.slice a4 (canonV v).length c4)) :=
    ((((Chg.refl _ w4).set _ _ (by simp)).set _ _ (by simp)).set _ _ (by simp)).set _ _ (by simp)
  have m3 := heap_chg hy C1 (by simpa using hne)
  have o3 := owns_chg ho3 C1 (fun b hb => by have := (owns_lt ho3 b hb).1; simp; omega)
  have o4 := owns_chg ho4 C1 (fun b hb => by have := (owns_lt ho4 b hb).1; simp; omega)
  generalize hT : ((((w4.setCell ⟨w.heap.size, 0, none⟩ (.int .u8 k)).setCell ⟨w.heap.size, 1, none⟩ (.int .u32 i)).setCell ⟨w.heap.size, 2, none⟩ (.slice a3 l.length c3)).setCell ⟨w.heap.size, 3, none⟩ (.slice a4 (canonV v).length c4)) = T at *
  have hW : boxed w4 w.heap.size pm k (.int .u8 k) (.int .u32 i) (.slice a3 l.length c3) (.slice a4 (canonV v).length c4) = (T.setCell ⟨pm, 1 + k, none⟩ (.pointer (some ⟨w.heap.size, 0, none⟩))).drew := by unfold boxed; rw [hT]
  rw [hW]
  have C2 : Chg [pm] T (T.setCell ⟨pm, 1 + k, none⟩ (.pointer (some ⟨w.heap.size, 0, none⟩))).drew := ((Chg.refl [pm] T).set _ _ (by simp)).trans (Chg.drew [] _) (by simp)
  have m4 := heap_setCell_same T pm (1 + k) _ _ (.pointer (some ⟨w.heap.size, 0, none⟩)) m3
  have s4 := heap_chg k3 C2 (by simpa using Ne.symm hne)
  have u3 := owns_chg o3 C2 (fun b hb => by have := (owns_lt ho3 b hb).1; simp; omega)
  have u4 := owns_chg o4 C2 (fun b hb => by have := (owns_lt ho4 b hb).1; simp; omega)
  have CC : Chg [pm] w (T.setCell ⟨pm, 1 + k, none⟩ (.pointer (some ⟨w.heap.size, 0, none⟩))).drew :=
    ((Chg.of_below (F := [pm]) hb).trans C1 (by simp)).trans C2 (by simp)
  refine ⟨⟨_, fun j => if j = k then some w.heap.size else P j, m4, ?_, ?_, ?_, .inl h.hF, h.hn, ?_⟩, CC⟩
  · simp [h.size]
  · rw [Array.getElem?_setIfInBounds_ne (by omega)]; exact h.c0
  · intro j hj
    by_cases e : j = k
    · subst e
      rw [Array.getElem?_setIfInBounds_self_of_lt (by rw [h.size]; omega)]; simp [ptrV]
    · rw [Array.getElem?_setIfInBounds_ne (by omega), h.cP j hj]; simp [e]
  · intro j hj
    unfold nextM
    rw [if_pos he]
    by_cases e : j = k
    · subst e
      refine .inr ⟨w.heap.size, ownK ⟨j, i, l, v⟩, by simp, by simp [putM], a3, c3, a4, c4, s4, u32_of u3, vec_of u4, ?_⟩
      intro b hb
      have : w.heap.size ≤ b ∧ b < w4.heap.size := by
        simp at hb
        rcases hb with rfl | hb | hb
        · exact ⟨Nat.le_refl _, hlx⟩
        · have := owns_lt ho3 b hb; omega
        · have := owns_lt ho4 b hb; omega
      exact ⟨.inr this, by omega⟩
    · rcases h.rows j hj with ⟨h1, h2⟩ | ⟨p, a, h1, h2, h3⟩
      · exact .inl ⟨by simp [e, h1], by simp [putM, e, h2]⟩
      · exact .inr ⟨p, a, by simp [e, h1], by simp [putM, e, h2], (h3.chg CC (by simp)).mono (fun _ h => .inl h)⟩
theorem takes_bar {n : Int} {R : Mx} {a o : Ak} (h : R a.r.toNat = some o) (hb : bars o a = true) : takesM n R a = false := by simp [takesM, h, barsO, hb]
theorem takes_new {n : Int} {R : Mx} {a : Ak} (hm : mayK a n = true) (h : R a.r.toNat = none) : takesM n R a = true := by simp [takesM, h, barsO, hm]
theorem takes_old {n : Int} {R : Mx} {a o : Ak} (hm : mayK a n = true) (h : R a.r.toNat = some o) (hb : bars o a = false) : takesM n R a = true := by simp [takesM, h, barsO, hm, hb]
set_option maxHeartbeats 2000000 in
theorem take_strong (k : Nat) (i : Int) (ai av : Option Addr) (ci cv : Nat) (l : List Int) (v : List Dt) (pm n : Nat) (R : Mx) (F : Nat → Prop) (w : World) (hM : MatR w F pm n R) (hR : okR n R) (hi : U32 w ai ci l) (hv : Vec w av cv v) (hk : k ≤ 255) (hok : okV v) (hn : l.length ≤ 1000000) (hm : v.length ≤ 1000000) :
    Calls Try.prog 33 #[.pointer (some ⟨pm, 0, none⟩), .agg #[.int .u8 k, .int .u32 i, .slice ai l.length ci, .slice av v.length cv]] w fun e w' =>
      e = .returned (.bool (takesM n R ⟨k, i, l, v⟩)) ∧ MatR w' (fun b => F b ∨ w.heap.size ≤ b ∧ b < w'.heap.size) pm n (nextM n R ⟨k, i, l, v⟩) ∧ Chg [pm] w w' := by
  have Hi := Lib.hid hi
  have Hv := Lib.hid hv
  have HM := Lib.hid hM
  obtain ⟨C, P, h⟩ := hM
  have H := Lib.hid h
  have hlt := heap_lt h.blk
  have q0 := cells_at h.blk
  have e0 := h.c0
  clear hi hv h
  go_enter Try.func33, Try.ntmps33
  go_wp2_with fail
  refine region_text [([0, 1, 2, 3, 4, 5, 6, 7, 8, 9, 10], false)] mixed (by kernel_rfl) ?_
  simp only [wpSegs, List.map_cons, List.map_nil, List.getD_cons_succ, List.getD_cons_zero]
  go_wp2_with fail
  refine (mayK_any k i ai av ci cv v.length l v n _ (Hi.out.below ?hb) hk hn).mono ?_
  case hb => exact ((Below.refl _ _).alloc (Nat.le_refl _) _).drew
  rintro e w1 ⟨rfl, hb1⟩
  obtain ⟨hx0, hz, hB1⟩ := new1 (((Below.refl _ _).drew).trans hb1)
  have hy0 := (hB1.block _ hlt).trans H.out.blk
  have HB1 := Lib.hid hB1
  have q1 := cells_at hy0
  have d1 := cells_at hx0
  have f1 := free_at hx0
  have Hx0 := Lib.hid hx0
  clear hb1 hx0 hB1 hy0 q0
  cases hmk : mayK ⟨k, i, l, v⟩ n with
  | false =>
    have He := Lib.hid (show takesM n R ⟨k, i, l, v⟩ = false by simp [takesM, hmk])
    clear hmk
    go_wp2_with fail
    refine And.intro (by kernel_rfl) ?_
    go_wp2_with fail
    go_ret
    exact ⟨by rw [He.out]; rfl, by unfold nextM; rw [He.out]; exact (HM.out.below HB1.out).mono (fun _ h => .inl h), Chg.of_below HB1.out⟩
  | true =>
    have hkn : k < n ∧ mayIncs l n = true := by
      simp only [mayK, Bool.and_eq_true, decide_eq_true_eq] at hmk
      exact ⟨by have := hmk.1.1.2; omega, hmk.1.2⟩
    have hn16 := H.out.hn
    have hk16 : k < 16 := by omega
    have eP := H.out.cP k hk16
    have Hmk := Lib.hid hmk
    clear hmk
    go_wp2_with fail
    refine And.intro (by kernel_rfl) ?_
    go_wp2_with fail
    refine region_text [([0, 1, 2, 3, 4, 5, 6, 7, 8], false)] mixed (by kernel_rfl) ?_
    simp only [wpSegs, List.map_cons, List.map_nil, List.getD_cons_succ, List.getD_cons_zero]
    rcases H.out.rows k hk16 with ⟨hP, hRk⟩ | ⟨p, o, hP, hRk, hrow⟩
    · rw [hP] at eP
      dsimp only [ptrV] at eP
      have He := Lib.hid (takes_new (n := n) (R := R) (a := ⟨k, i, l, v⟩) Hmk.out (by simpa using hRk))
      clear hP hRk
      go_wp2_with fail
      refine And.intro (by kernel_rfl) ?_
      go_wp2_with fail
      refine region_text [([0, 1, 2, 3, 4, 5, 6, 7, 8, 9, 10, 11, 12, 13, 14, 15, 16, 17, 18, 19, 20, 21, 22, 23, 24, 25, 26, 27, 28, 29, 30, 31, 32, 33, 34, 35, 36, 37, 38, 39, 40, 41, 42], false)] mixed (by kernel_rfl) ?_
      simp only [wpSegs, List.map_cons, List.map_nil, List.getD_cons_succ, List.getD_cons_zero]
      go_wp2_with fail
      refine And.intro (by kernel_rfl) ?_
      go_wp2_with fail
      refine (own_any k i ai av ci cv l v _ (Hi.out.below ?hbi) (Hv.out.below ?hbv) hok hn hm).mono ?_
      case hbi => first | exact HB1.out.drew.drew | exact HB1.out.drew | exact HB1.out
      case hbv => first | exact HB1.out.drew.drew | exact HB1.out.drew | exact HB1.out
      rintro e w4 ⟨a3, c3, a4, c4, rfl, ho3, ho4, hb4⟩
      dsimp only at ho3 ho4
      have hb4' : Below w1.heap.size w1 w4 := by first | exact (Below.refl _ _).drew.drew.trans hb4 | exact (Below.refl _ _).drew.trans hb4 | exact hb4
      have hxq := (hb4'.block _ (heap_lt Hx0.out)).trans Hx0.out
      have HB4 := Lib.hid (HB1.out.trans (hb4'.mono HB1.out.size))
      have hyq := (HB4.out.block _ hlt).trans H.out.blk
      have d4 := cells_at hxq
      have f4 := free_at hxq
      have q4 := cells_at hyq
      have g4 := free_at hyq
      have Hxq := Lib.hid hxq
      have Hyq := Lib.hid hyq
      have hz4 : w.heap.size + 1 ≤ w4.heap.size := by have := heap_lt hxq; omega
      have Ho3 := Lib.hid (owns_base ho3 (show w.heap.size + 1 ≤ _ from ?hs3))
      case hs3 => have := heap_lt Hx0.out; first | exact this | (simp; omega)
      have Ho4 := Lib.hid (owns_base ho4 (show w.heap.size + 1 ≤ _ from ?hs4))
      case hs4 => have := heap_lt Hx0.out; first | exact this | (simp; omega)
      clear ho3 ho4 hb4 hb4' hxq hyq d1 f1 q1 HB1 Hx0
      go_wp2_with fail
      refine region_text [([0, 1, 2, 3, 4, 5, 6, 7], false)] mixed (by kernel_rfl) ?_
      simp only [wpSegs, List.map_cons, List.map_nil, List.getD_cons_succ, List.getD_cons_zero]
      go_wp2_with fail
      refine And.intro (by kernel_rfl) ?_
      go_wp2_with fail
      go_ret
      exact ⟨by rw [He.out]; rfl, take_end HB4.out H.out hk16 He.out Hxq.out Hyq.out Ho3.out Ho4.out⟩
    · rw [hP] at eP
      dsimp only [ptrV] at eP
      have Ho := Lib.hid (hR k o hRk)
      have HRk := Lib.hid hRk
      obtain ⟨oi, oc, ov, od, hb0, hu0, hv0, hf0⟩ := hrow
      have hlp := heap_lt hb0
      have dp := cells_at ((HB1.out.block _ hlp).trans hb0)
      have Hb0 := Lib.hid hb0
      have Hu0 := Lib.hid hu0
      have Hv0 := Lib.hid hv0
      clear hP hRk hb0 hu0 hv0 hf0
      go_wp2_with fail
      refine And.intro (by kernel_rfl) ?_
      go_wp2_with fail
      refine region_text [([0, 1, 2, 3, 4, 5, 6, 7, 8, 9, 10, 11, 12, 13, 14, 15, 16, 17, 18, 19, 20, 21, 22, 23, 24, 25, 26, 27, 28, 29, 30, 31, 32, 33, 34, 35, 36, 37, 38, 39, 40, 41, 42], false)] mixed (by kernel_rfl) ?_
      simp only [wpSegs, List.map_cons, List.map_nil, List.getD_cons_succ, List.getD_cons_zero]
      by_cases hgt : i < o.i
      · have He := Lib.hid (takes_bar (n := n) (R := R) (a := ⟨k, i, l, v⟩) (by simpa using HRk.out) (show bars o ⟨k, i, l, v⟩ = true by simp [bars, hgt]))
        go_wp2_with fail
        refine And.intro (by kernel_rfl) ?_
        go_wp2_with fail
        go_ret
        exact ⟨by rw [He.out]; rfl, by unfold nextM; rw [He.out]; exact (HM.out.below HB1.out.drew.drew).mono (fun _ h => .inl h), Chg.of_below HB1.out.drew.drew⟩
      · have hgt' : decide (i < o.i) = false := by simpa using hgt
        by_cases heq : o.i = i
        · have heq' : (o.i == i) = true := by simpa using heq
          have Hok := Lib.hid Ho.out.2.2.2.1
          have hol : o.incs.length ≤ 1000000 := by have := ((mayIncs_iff o.incs n).1 Ho.out.2.2.2.2.1).2.2.1; omega
          have hov : o.vv.length ≤ 1000000 := by rw [← Ho.out.2.2.2.2.2]; exact Nat.le_trans (vecOf_length _) (by decide)
          go_wp2_with fail
          refine (withinI_any oi ai oc ci o.incs l _ (Hu0.out.below HB1.out.drew.drew) (Hi.out.below HB1.out.drew.drew) hol hn).mono ?_
          rintro e w2 ⟨rfl, hb2⟩
          have hb2' : Below w1.heap.size w1 w2 := (Below.refl _ _).drew.drew.trans hb2
          have hx1 := (hb2'.block _ (heap_lt Hx0.out)).trans Hx0.out
          have HB2 := Lib.hid (HB1.out.trans (hb2'.mono HB1.out.size))
          have dp2 := cells_at ((HB2.out.block _ hlp).trans Hb0.out)
          have d2 := cells_at hx1
          have f2 := free_at hx1
          have Hx1 := Lib.hid hx1
          clear hb2 hb2' hx1 d1 f1 q1 dp HB1 Hx0
          cases hwi : withinI o.incs l with
          | false =>
            have He := Lib.hid (takes_bar (n := n) (R := R) (a := ⟨k, i, l, v⟩) (by simpa using HRk.out) (show bars o ⟨k, i, l, v⟩ = true by simp [bars, heq, hwi]))
            clear hwi
            go_wp2_with fail
            refine And.intro (by kernel_rfl) ?_
            go_wp2_with fail
            go_ret
            exact ⟨by rw [He.out]; rfl, by unfold nextM; rw [He.out]; exact (HM.out.below HB2.out).mono (fun _ h => .inl h), Chg.of_below HB2.out⟩
          | true =>
            have Hwi := Lib.hid hwi
            clear hwi
            go_wp2_with fail
            refine (within_any ov av od cv o.vv v _ (Hv0.out.below HB2.out) (Hv.out.below HB2.out) Hok.out hok hov hm).mono ?_
            rintro e w3 ⟨rfl, hb3⟩
            have hx2 := (hb3.block _ (heap_lt Hx1.out)).trans Hx1.out
            have HB3 := Lib.hid (HB2.out.trans (hb3.mono HB2.out.size))
            have d1 := cells_at hx2
            have f1 := free_at hx2
            have q1 := cells_at ((HB3.out.block _ hlt).trans H.out.blk)
            have Hx2 := Lib.hid hx2
            clear hb3 hx2 d2 f2 dp2 HB2 Hx1
            cases hwv : withinV o.vv v with
            | false =>
              have He := Lib.hid (takes_bar (n := n) (R := R) (a := ⟨k, i, l, v⟩) (by simpa using HRk.out) (show bars o ⟨k, i, l, v⟩ = true by simp [bars, heq, hwv]))
              clear hwv
              go_wp2_with fail
              refine And.intro (by kernel_rfl) ?_
              go_wp2_with fail
              go_ret
              exact ⟨by rw [He.out]; rfl, by unfold nextM; rw [He.out]; exact (HM.out.below HB3.out).mono (fun _ h => .inl h), Chg.of_below HB3.out⟩
            | true =>
              have He := Lib.hid (takes_old (n := n) (R := R) (a := ⟨k, i, l, v⟩) Hmk.out (by simpa using HRk.out) (show bars o ⟨k, i, l, v⟩ = false by simp [bars, hgt, heq, hwv, Hwi.out]))
              clear hwv
              go_wp2_with fail
              refine And.intro (by kernel_rfl) ?_
              go_wp2_with fail
              refine (own_any k i ai av ci cv l v _ (Hi.out.below ?hbi) (Hv.out.below ?hbv) hok hn hm).mono ?_
              case hbi => first | exact HB3.out.drew.drew | exact HB3.out.drew | exact HB3.out
              case hbv => first | exact HB3.out.drew.drew | exact HB3.out.drew | exact HB3.out
              rintro e w4 ⟨a3, c3, a4, c4, rfl, ho3, ho4, hb4⟩
              dsimp only at ho3 ho4
              have hb4' : Below w3.heap.size w3 w4 := by first | exact (Below.refl _ _).drew.drew.trans hb4 | exact (Below.refl _ _).drew.trans hb4 | exact hb4
              have hxq := (hb4'.block _ (heap_lt Hx2.out)).trans Hx2.out
              have HB4 := Lib.hid (HB3.out.trans (hb4'.mono HB3.out.size))
              have hyq := (HB4.out.block _ hlt).trans H.out.blk
              have d4 := cells_at hxq
              have f4 := free_at hxq
              have q4 := cells_at hyq
              have g4 := free_at hyq
              have Hxq := Lib.hid hxq
              have Hyq := Lib.hid hyq
              have hz4 : w.heap.size + 1 ≤ w4.heap.size := by have := heap_lt hxq; omega
              have Ho3 := Lib.hid (owns_base ho3 (show w.heap.size + 1 ≤ _ from ?hs3))
              case hs3 => have := heap_lt Hx2.out; first | exact this | (simp; omega)
              have Ho4 := Lib.hid (owns_base ho4 (show w.heap.size + 1 ≤ _ from ?hs4))
              case hs4 => have := heap_lt Hx2.out; first | exact this | (simp; omega)
              clear ho3 ho4 hb4 hb4' hxq hyq d1 f1 q1 HB3 Hx2
              go_wp2_with fail
              refine region_text [([0, 1, 2, 3, 4, 5, 6, 7], false)] mixed (by kernel_rfl) ?_
              simp only [wpSegs, List.map_cons, List.map_nil, List.getD_cons_succ, List.getD_cons_zero]
              go_wp2_with fail
              refine And.intro (by kernel_rfl) ?_
              go_wp2_with fail
              go_ret
              exact ⟨by rw [He.out]; rfl, take_end HB4.out H.out hk16 He.out Hxq.out Hyq.out Ho3.out Ho4.out⟩
        · have heq' : (o.i == i) = false := by simpa using heq
          have He := Lib.hid (takes_old (n := n) (R := R) (a := ⟨k, i, l, v⟩) Hmk.out (by simpa using HRk.out) (show bars o ⟨k, i, l, v⟩ = false by simp [bars, hgt, heq]))
          go_wp2_with fail
          refine And.intro (by kernel_rfl) ?_
          go_wp2_with fail
          refine (own_any k i ai av ci cv l v _ (Hi.out.below ?hbi) (Hv.out.below ?hbv) hok hn hm).mono ?_
          case hbi => first | exact HB1.out.drew.drew | exact HB1.out.drew | exact HB1.out
          case hbv => first | exact HB1.out.drew.drew | exact HB1.out.drew | exact HB1.out
          rintro e w4 ⟨a3, c3, a4, c4, rfl, ho3, ho4, hb4⟩
          dsimp only at ho3 ho4
          have hb4' : Below w1.heap.size w1 w4 := by first | exact (Below.refl _ _).drew.drew.trans hb4 | exact (Below.refl _ _).drew.trans hb4 | exact hb4
          have hxq := (hb4'.block _ (heap_lt Hx0.out)).trans Hx0.out
          have HB4 := Lib.hid (HB1.out.trans (hb4'.mono HB1.out.size))
          have hyq := (HB4.out.block _ hlt).trans H.out.blk
          have d4 := cells_at hxq
          have f4 := free_at hxq
          have q4 := cells_at hyq
          have g4 := free_at hyq
          have Hxq := Lib.hid hxq
          have Hyq := Lib.hid hyq
          have hz4 : w.heap.size + 1 ≤ w4.heap.size := by have := heap_lt hxq; omega
          have Ho3 := Lib.hid (owns_base ho3 (show w.heap.size + 1 ≤ _ from ?hs3))
          case hs3 => have := heap_lt Hx0.out; first | exact this | (simp; omega)
          have Ho4 := Lib.hid (owns_base ho4 (show w.heap.size + 1 ≤ _ from ?hs4))
          case hs4 => have := heap_lt Hx0.out; first | exact this | (simp; omega)
          clear ho3 ho4 hb4 hb4' hxq hyq d1 f1 q1 HB1 Hx0
          go_wp2_with fail
          refine region_text [([0, 1, 2, 3, 4, 5, 6, 7], false)] mixed (by kernel_rfl) ?_
          simp only [wpSegs, List.map_cons, List.map_nil, List.getD_cons_succ, List.getD_cons_zero]
          go_wp2_with fail
          refine And.intro (by kernel_rfl) ?_
          go_wp2_with fail
          go_ret
          exact ⟨by rw [He.out]; rfl, take_end HB4.out H.out hk16 He.out Hxq.out Hyq.out Ho3.out Ho4.out⟩
theorem take_any (k : Nat) (i : Int) (ai av : Option Addr) (ci cv : Nat) (l : List Int) (v : List Dt) (pm n : Nat) (R : Mx) (F : Nat → Prop) (w : World) (hM : MatR w F pm n R) (hR : okR n R) (hi : U32 w ai ci l) (hv : Vec w av cv v) (hk : k ≤ 255) (hok : okV v) (hn : l.length ≤ 1000000) (hm : v.length ≤ 1000000) :
    Calls Try.prog 33 #[.pointer (some ⟨pm, 0, none⟩), .agg #[.int .u8 k, .int .u32 i, .slice ai l.length ci, .slice av v.length cv]] w fun e w' =>
      e = .returned (.bool (takesM n R ⟨k, i, l, v⟩)) ∧ MatR w' (fun b => F b ∨ w.heap.size ≤ b) pm n (nextM n R ⟨k, i, l, v⟩) ∧ Chg [pm] w w' :=
  (take_strong k i ai av ci cv l v pm n R F w hM hR hi hv hk hok hn hm).mono fun e w' ⟨h1, h2, h3⟩ => ⟨h1, h2.mono (fun b hb => hb.imp id And.left), h3⟩
end Go.Proofs.Ytblahapjdgncfaa
