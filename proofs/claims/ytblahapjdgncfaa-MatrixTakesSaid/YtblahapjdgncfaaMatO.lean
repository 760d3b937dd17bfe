/- Contracts: JoinIncs, Copy of the program's matrix. -/
import Derived.Test.YtblahapjdgncfaaMatF
import Derived.Test.YtblahapjdgncfaaEpoC
namespace Go.Proofs.Ytblahapjdgncfaa
open Go.RowKit
set_option linter.unusedVariables false
set_option linter.unusedSimpArgs false

set_option maxRecDepth 100000 in
set_option maxHeartbeats 2000000 in
theorem joinIncs_any (a b : Option Addr) (c d : Nat) (l m : List Int) (w : World) (hv : U32 w a c l) (hu : U32 w b d m) (hn : l.length ≤ 1000000) (hm : m.length ≤ 1000000) :
    Calls Try.prog 43 #[.slice a l.length c, .slice b m.length d] w (IncTo w (joinI l m)) := by
  obtain ⟨i0, hi0, hz0, hz1, hz2⟩ := info_parts Try.info_u32
  have Hv := Lib.hid hv
  have Hu := Lib.hid hu
  clear hv hu
  by_cases hl : l.length = m.length
  · have Hl := Lib.hid hl
    rw [← hl]
    clear hl
    go_enter Try.func43, Try.ntmps43
    go_wp2_with fail
    go_loopw [4, 13] (fun x5 j wr => ∃ (k : Nat) (av : Option Addr) (cv : Nat), k ≤ l.length ∧ j = .int .i64 k ∧ x5 = .slice av k cv ∧ Hid (wr.ownsRow w.heap.size 29 1 (.slice av k cv) k (ucells ((joinI l m).take k))) ∧ Hid (Below w.heap.size w wr)) (fun _ j _ => l.length - (intOf j).toNat)
    case atStart => exact ⟨0, none, 0, Nat.zero_le _, rfl, rfl, Lib.hid ⟨rfl, .inl ⟨rfl, rfl⟩⟩, Lib.hid (Below.refl _ _)⟩
    case round =>
      obtain ⟨k, av, cv, hk, rfl, rfl, hown, Hb⟩ := hrel
      have hs := Hb.out.size
      by_cases hlt : k < l.length
      · have hlm : k < m.length := by have := Hl.out; omega
        obtain ⟨x, hx⟩ : ∃ x, l[k]? = some x := ⟨l[k], by simp [hlt]⟩
        obtain ⟨y, hy⟩ : ∃ y, m[k]? = some y := ⟨m[k], by simp [hlm]⟩
        obtain ⟨ad, had, c0, hl0⟩ := (Hv.out.below Hb.out).at hx
        obtain ⟨ae, hae, c1, hl1⟩ := (Hu.out.below Hb.out).at hy
        subst had hae
        have Hj := Lib.hid (joinI_take Hl.out hx hy)
        clear hx hy
        go_wp2_with fail
        refine region_text [([0, 1, 2, 3, 4, 5, 6, 7, 8, 9, 10, 11, 12], false)] mixed (by kernel_rfl) ?_
        simp only [wpSegs, List.map_cons, List.map_nil, List.getD_cons_succ, List.getD_cons_zero]
        go_wp2_with (at_builtin; go_must (refine wpList_append_sl rfl _ _ 45 rfl w.heap.size 29 i0 (.int .u32 0) 1 4 Try.underlying45 hi0 hz0 hz1 hz2 rfl (by decide) av k cv (ucells ((joinI l m).take k)) rfl ?o1 (some ⟨wr.heap.size, 0, none⟩) 1 1 [.int .u32 (max x y)] rfl ?s1 ?t1 ?c1 ?d1 ?e1 ?_))
        case o1 => exact owns_chg (F := []) (w := wr) hown.out (Chg.of_below (((Below.refl _ wr).alloc (Nat.le_refl _) _).drew)) (by simp)
        case s1 => exact Sl.blk (heap_new wr _) rfl (by decide)
        case t1 => first | rfl | (intro u hu; simp at hu; subst hu; rfl)
        case c1 => unfold maxLen; omega
        case d1 => omega
        case e1 => first | omega | (simp; omega)
        intro a1 c1 w1 ho1 hC1 hob1
        have hlt1 := owns_lt hown.out
        have hC : Chg (ob av) wr w1 := (((Chg.of_below (F := ob av) (((Below.refl _ wr).alloc (Nat.le_refl _) _).drew))).trans hC1 (fun x hx _ => hx))
        have HB1 := Lib.hid (Hb.out.trans (hC.below hs (fun x hx => (hlt1 x hx).1)))
        have Ho1 := Lib.hid (show w1.ownsRow w.heap.size 29 1 (.slice a1 (k + 1) c1) (k + 1) (ucells ((joinI l m).take (k + 1))) by rw [Hj.out]; simpa [ucells] using ho1)
        clear ho1 hC1 hob1 hC hlt1
        go_wp2_with fail
        refine And.intro (by kernel_rfl) ?_
        go_wp2_with fail
        go_roundw
        case rel => exact ⟨k + 1, a1, c1, by omega, by go_num, rfl, Ho1, HB1⟩
        case measure => simp [intOf]; omega
      · obtain rfl : k = l.length := by omega
        have Ho := Lib.hid (show wr.ownsRow w.heap.size 29 1 (.slice av (joinI l m).length cv) (joinI l m).length (ucells (joinI l m)) by
          have h := hown.out
          have e := joinI_length Hl.out
          rw [List.take_of_length_le (by omega)] at h
          rw [e]; exact h)
        have He := Lib.hid (joinI_length Hl.out)
        go_wp2_with fail
        go_ret
        exact ⟨av, cv, by rw [He.out]; rfl, Ho.out, Hb.out⟩
  · have He := Lib.hid (show joinI l m = [] by simp [joinI, hl])
    have hl' : ((l.length : Int) == (m.length : Int)) = false := by simp; omega
    go_enter Try.func43, Try.ntmps43
    go_wp2_with fail
    go_ret
    rw [He.out]
    exact ⟨none, 0, rfl, ⟨rfl, .inl ⟨rfl, rfl⟩⟩, Below.refl _ _⟩

def cutM (R : Mx) (k : Nat) : Mx := fun j => if j < k then R j else none
theorem cutM_all {n : Nat} {R : Mx} (hR : okR n R) (hn : n ≤ 16) : cutM R 16 = R := by
  funext j
  unfold cutM
  split
  · rfl
  · cases h : R j with
    | none => rfl
    | some a => have := (hR j a h).1; omega
theorem cutM_none {R : Mx} {k : Nat} (h : R k = none) : cutM R (k + 1) = cutM R k := by
  funext j
  unfold cutM
  by_cases e : j = k
  · subst e; simp [h]
  · by_cases h2 : j < k
    · rw [if_pos h2, if_pos (by omega)]
    · rw [if_neg h2, if_neg (by omega)]
theorem cutM_some {R : Mx} {k : Nat} {a : Ak} (h : R k = some a) : cutM R (k + 1) = fun j => if j = k then some a else cutM R k j := by
  funext j
  unfold cutM
  by_cases e : j = k
  · subst e; simp [h]
  · rw [if_neg e]
    by_cases h2 : j < k
    · rw [if_pos h2, if_pos (by omega)]
    · rw [if_neg h2, if_neg (by omega)]
theorem mat_put {w : World} {F : Nat → Prop} {pm n k p : Nat} {R : Mx} {C : Array Value} {P : Nat → Option Nat} {a : Ak} (h : MatAt w F pm n R C P) (hk : k < 16) (hr : RowAt w F pm p a) :
    MatR (w.setCell ⟨pm, 1 + k, none⟩ (.pointer (some ⟨p, 0, none⟩))) F pm n (fun j => if j = k then some a else R j) := by
  have C2 : Chg [pm] w (w.setCell ⟨pm, 1 + k, none⟩ (.pointer (some ⟨p, 0, none⟩))) := Chg.setCell w ⟨pm, 1 + k, none⟩ _
  have m4 := heap_setCell_same w pm (1 + k) _ _ (.pointer (some ⟨p, 0, none⟩)) h.blk
  refine ⟨_, fun j => if j = k then some p else P j, m4, ?_, ?_, ?_, h.hF, h.hn, ?_⟩
  · simp [h.size]
  · rw [Array.getElem?_setIfInBounds_ne (by omega)]; exact h.c0
  · intro j hj
    by_cases e : j = k
    · subst e
      rw [Array.getElem?_setIfInBounds_self_of_lt (by rw [h.size]; omega)]; simp [ptrV]
    · rw [Array.getElem?_setIfInBounds_ne (by omega), h.cP j hj]; simp [e]
  · intro j hj
    by_cases e : j = k
    · subst e
      exact .inr ⟨p, a, by simp, by simp, hr.chg C2 (by simp)⟩
    · rcases h.rows j hj with ⟨h1, h2⟩ | ⟨p, a, h1, h2, h3⟩
      · exact .inl ⟨by simp [e, h1], by simp [e, h2]⟩
      · exact .inr ⟨p, a, by simp [e, h1], by simp [e, h2], h3.chg C2 (by simp)⟩
theorem mat_cells {w : World} {F : Nat → Prop} {pm n : Nat} {R : Mx} {C : Array Value} {P : Nat → Option Nat} (h : MatAt w F pm n R C P) : C = #[.int .i64 n, ptrV (P 0), ptrV (P 1), ptrV (P 2), ptrV (P 3), ptrV (P 4), ptrV (P 5), ptrV (P 6), ptrV (P 7), ptrV (P 8), ptrV (P 9), ptrV (P 10), ptrV (P 11), ptrV (P 12), ptrV (P 13), ptrV (P 14), ptrV (P 15)] := by
  refine Array.ext (by rw [h.size]; rfl) fun i h1 h2 => ?_
  have hs : i < 17 := by rw [← h.size]; exact h1
  have key : C[i]? = #[Value.int .i64 n, ptrV (P 0), ptrV (P 1), ptrV (P 2), ptrV (P 3), ptrV (P 4), ptrV (P 5), ptrV (P 6), ptrV (P 7), ptrV (P 8), ptrV (P 9), ptrV (P 10), ptrV (P 11), ptrV (P 12), ptrV (P 13), ptrV (P 14), ptrV (P 15)][i]? := by
    match i, hs with
    | 0, _ => exact h.c0
    | 1, _ => exact h.cP 0 (by omega)
    | 2, _ => exact h.cP 1 (by omega)
    | 3, _ => exact h.cP 2 (by omega)
    | 4, _ => exact h.cP 3 (by omega)
    | 5, _ => exact h.cP 4 (by omega)
    | 6, _ => exact h.cP 5 (by omega)
    | 7, _ => exact h.cP 6 (by omega)
    | 8, _ => exact h.cP 7 (by omega)
    | 9, _ => exact h.cP 8 (by omega)
    | 10, _ => exact h.cP 9 (by omega)
    | 11, _ => exact h.cP 10 (by omega)
    | 12, _ => exact h.cP 11 (by omega)
    | 13, _ => exact h.cP 12 (by omega)
    | 14, _ => exact h.cP 13 (by omega)
    | 15, _ => exact h.cP 14 (by omega)
    | 16, _ => exact h.cP 15 (by omega)
    | i + 17, h => omega
  rw [Array.getElem?_eq_getElem h1, Array.getElem?_eq_getElem h2] at key
  exact Option.some.inj key
theorem ptrV_none : ptrV none = .pointer none := rfl
theorem ptrV_some (p : Nat) : ptrV (some p) = .pointer (some ⟨p, 0, none⟩) := rfl
theorem index16 (P : Nat → Option Nat) : ∀ k, k < 16 → ∀ w, (Instr.index 94 (.agg #[ptrV (P 0), ptrV (P 1), ptrV (P 2), ptrV (P 3), ptrV (P 4), ptrV (P 5), ptrV (P 6), ptrV (P 7), ptrV (P 8), ptrV (P 9), ptrV (P 10), ptrV (P 11), ptrV (P 12), ptrV (P 13), ptrV (P 14), ptrV (P 15)]) (.int .i64 (k : Nat))).run Try.prog w = .ok (ptrV (P k)) w
  | 0, _ => fun w => by kernel_rfl
  | 1, _ => fun w => by kernel_rfl
  | 2, _ => fun w => by kernel_rfl
  | 3, _ => fun w => by kernel_rfl
  | 4, _ => fun w => by kernel_rfl
  | 5, _ => fun w => by kernel_rfl
  | 6, _ => fun w => by kernel_rfl
  | 7, _ => fun w => by kernel_rfl
  | 8, _ => fun w => by kernel_rfl
  | 9, _ => fun w => by kernel_rfl
  | 10, _ => fun w => by kernel_rfl
  | 11, _ => fun w => by kernel_rfl
  | 12, _ => fun w => by kernel_rfl
  | 13, _ => fun w => by kernel_rfl
  | 14, _ => fun w => by kernel_rfl
  | 15, _ => fun w => by kernel_rfl
  | k + 16, h => fun w => by omega
theorem own_row {w : World} {s : Nat} {a : Ak} {ai av : Option Addr} {ci cv : Nat} (h1 : w.ownsRow s 29 1 (.slice ai a.incs.length ci) a.incs.length (ucells a.incs)) (h2 : w.ownsRow s 34 3 (.slice av a.vv.length cv) a.vv.length (dcells a.vv)) {b : Nat} (hb : b < s) (hs : s ≤ w.heap.size) :
    RowAt (w.alloc (.cells #[.int .u8 a.r, .int .u32 a.i, .slice ai a.incs.length ci, .slice av a.vv.length cv] 51)) (fun k => b ≤ k ∧ k < w.heap.size + 1) b w.heap.size a := by
  refine ⟨ai, ci, av, cv, heap_new w _, (u32_of h1).below ((Below.refl _ w).alloc (Nat.le_refl _) _), (vec_of h2).below ((Below.refl _ w).alloc (Nat.le_refl _) _), fun k hk => ?_⟩
  simp at hk
  rcases hk with rfl | hk | hk
  · exact ⟨⟨by omega, by omega⟩, by omega⟩
  · have := owns_lt h1 k hk; exact ⟨⟨by omega, by omega⟩, by omega⟩
  · have := owns_lt h2 k hk; exact ⟨⟨by omega, by omega⟩, by omega⟩

set_option maxRecDepth 100000 in
set_option maxHeartbeats 4000000 in
theorem copy_any (pm n : Nat) (R : Mx) (F : Nat → Prop) (w : World) (hM : MatR w F pm n R) (hR : okR n R) :
    Calls Try.prog 37 #[.pointer (some ⟨pm, 0, none⟩)] w fun e w' =>
      e = .returned (.pointer (some ⟨w.heap.size, 0, none⟩)) ∧ MatR w' (fun b => w.heap.size ≤ b ∧ b < w'.heap.size) w.heap.size n R ∧ Below w.heap.size w w' := by
  obtain ⟨C, P, h⟩ := hM
  obtain rfl := mat_cells h
  have H := Lib.hid h
  have hlt := heap_lt h.blk
  have q0 := cells_at h.blk
  have hidx := index16 P
  clear h
  go_enter Try.func37, Try.ntmps37
  go_upto_region 4 with (fail)
  have hb1 := (Below.refl _ w).alloc (Nat.le_refl _) (.cells #[.int .i64 n, .pointer none, .pointer none, .pointer none, .pointer none, .pointer none, .pointer none, .pointer none, .pointer none, .pointer none, .pointer none, .pointer none, .pointer none, .pointer none, .pointer none, .pointer none, .pointer none] 96)
  have hm1 : MatR (w.alloc (.cells #[.int .i64 n, .pointer none, .pointer none, .pointer none, .pointer none, .pointer none, .pointer none, .pointer none, .pointer none, .pointer none, .pointer none, .pointer none, .pointer none, .pointer none, .pointer none, .pointer none, .pointer none] 96)) (fun b => w.heap.size ≤ b ∧ b < w.heap.size + 1) w.heap.size n (cutM R 0) := by
    refine ⟨_, fun _ => none, heap_new w _, rfl, rfl, ?_, ⟨Nat.le_refl _, by omega⟩, H.out.hn, fun k _ => .inl ⟨rfl, by simp [cutM]⟩⟩
    intro k hk
    match k, hk with
    | 0, _ | 1, _ | 2, _ | 3, _ | 4, _ | 5, _ | 6, _ | 7, _ | 8, _ | 9, _ | 10, _ | 11, _ | 12, _ | 13, _ | 14, _ | 15, _ => rfl
    | k + 16, h => omega
  have hs1 : (w.alloc (.cells #[.int .i64 n, .pointer none, .pointer none, .pointer none, .pointer none, .pointer none, .pointer none, .pointer none, .pointer none, .pointer none, .pointer none, .pointer none, .pointer none, .pointer none, .pointer none, .pointer none, .pointer none] 96)).heap.size = w.heap.size + 1 := by simp
  generalize w.alloc (.cells #[.int .i64 n, .pointer none, .pointer none, .pointer none, .pointer none, .pointer none, .pointer none, .pointer none, .pointer none, .pointer none, .pointer none, .pointer none, .pointer none, .pointer none, .pointer none, .pointer none, .pointer none] 96) = w1 at *
  have q1 := cells_at ((hb1.block _ hlt).trans H.out.blk)
  have Hb1 := Lib.hid hb1
  have Hm1 := Lib.hid (hm1.mono (G := fun b => w.heap.size ≤ b ∧ b < w1.heap.size) (fun b hb => by omega))
  clear hb1 hm1 q0 hs1
  go_wp2_with fail
  go_loopw [19] (fun j wr => ∃ k : Nat, k ≤ 16 ∧ j = .int .i64 k ∧ Hid (MatR wr (fun b => w.heap.size ≤ b ∧ b < wr.heap.size) w.heap.size n (cutM R k)) ∧ Hid (Below w.heap.size w wr)) (fun j _ => 16 - (intOf j).toNat)
  case atStart => exact ⟨0, Nat.zero_le _, rfl, Hm1, Hb1⟩
  case round =>
    obtain ⟨k, hk, rfl, HM, HB⟩ := hrel
    clear q1 Hm1 Hb1
    by_cases hk16 : k < 16
    · have hix := hidx k hk16
      rcases H.out.rows k hk16 with ⟨hP, hRk⟩ | ⟨p, o, hP, hRk, hrow⟩
      · rw [hP, ptrV_none] at hix
        clear hidx
        have Hc := Lib.hid (cutM_none hRk)
        clear hP hRk
        go_wp2_with fail
        go_roundw
        case rel => exact ⟨k + 1, by omega, by go_num, Lib.hid (by rw [Hc.out]; exact HM.out), HB⟩
        case measure => simp [intOf]; omega
      · rw [hP, ptrV_some] at hix
        clear hidx
        have Hc := Lib.hid (cutM_some hRk)
        have Ho := Lib.hid (hR k o hRk)
        obtain ⟨oi, oc, ov, od, hb0, hu0, hv0, hf0⟩ := hrow
        have hlp := heap_lt hb0
        have dp := cells_at ((HB.out.block _ hlp).trans hb0)
        have Hu0 := Lib.hid hu0
        have Hv0 := Lib.hid hv0
        have hol : o.incs.length ≤ 1000000 := by have := ((mayIncs_iff o.incs n).1 Ho.out.2.2.2.2.1).2.2.1; have := ((mayIncs_iff o.incs n).1 Ho.out.2.2.2.2.1).2.1; omega
        have hov : o.vv.length ≤ 1000000 := by rw [← Ho.out.2.2.2.2.2]; exact Nat.le_trans (vecOf_length _) (by decide)
        have Hcv := Lib.hid Ho.out.2.2.2.2.2
        clear hP hRk hb0 hu0 hv0 hf0
        go_wp2_with fail
        refine (own_any o.r o.i oi ov oc od o.incs o.vv _ (Hu0.out.below HB.out) (Hv0.out.below HB.out) Ho.out.2.2.2.1 hol hov).mono ?_
        rintro e w4 ⟨a3, c3, a4, c4, rfl, ho3, ho4, hb4⟩
        dsimp only at ho3 ho4
        rw [Hcv.out] at ho4 ⊢
        have hsr : w.heap.size < wr.heap.size := by obtain ⟨C, P, h⟩ := HM.out; exact heap_lt h.blk
        have hrow := own_row (a := o) (b := w.heap.size) ho3 ho4 hsr hb4.size
        have HB4 := Lib.hid (HB.out.trans (hb4.mono HB.out.size))
        have hba := (Below.refl _ w4).alloc (Nat.le_refl _) (.cells #[.int .u8 o.r, .int .u32 o.i, .slice a3 o.incs.length c3, .slice a4 o.vv.length c4] 51)
        have hM5 := ((HM.out.below hb4).below hba).mono (G := fun b => w.heap.size ≤ b ∧ b < w4.heap.size + 1) (fun b hb => by have := hb4.size; omega)
        have hs5 : (w4.alloc (.cells #[.int .u8 o.r, .int .u32 o.i, .slice a3 o.incs.length c3, .slice a4 o.vv.length c4] 51)).heap.size = w4.heap.size + 1 := by simp
        have hw4 : w.heap.size < w4.heap.size := Nat.lt_of_lt_of_le hsr hb4.size
        clear ho3 ho4 hb4 dp HM HB
        go_upto_region 9 with (fail)
        have HB5 := Lib.hid (HB4.out.trans (hba.mono HB4.out.size))
        generalize w4.alloc (.cells #[.int .u8 o.r, .int .u32 o.i, .slice a3 o.incs.length c3, .slice a4 o.vv.length c4] 51) = w5 at *
        generalize w4.heap.size = p4 at *
        obtain ⟨C, P5, hm5⟩ := hM5
        have Hp := Lib.hid (mat_put hm5 hk16 hrow)
        have f5 := free_at hm5.blk
        have q5 := cells_at hm5.blk
        have e5 := hm5.cP k hk16
        rw [← hs5] at Hp
        clear hba hm5 hrow HB4 hs5
        go_wp2_with fail
        go_roundw
        case rel => exact ⟨k + 1, by omega, by go_num, Lib.hid (by rw [Hc.out, World.size_setCell]; exact Hp.out), Lib.hid (HB5.out.setCell (Nat.le_refl _) _)⟩
        case measure => simp [intOf]; omega
    · obtain rfl : k = 16 := by omega
      have He := Lib.hid (cutM_all hR H.out.hn.2)
      clear hidx
      go_wp2_with fail
      go_ret
      exact ⟨rfl, by have := HM.out; rw [He.out] at this; exact this, HB.out⟩
end Go.Proofs.Ytblahapjdgncfaa
