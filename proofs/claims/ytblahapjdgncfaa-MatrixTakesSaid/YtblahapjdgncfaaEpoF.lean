/- The reference's Next, Judge (varveref18), WithinIncs, SameIncs (varveref17). -/
import Derived.Test.YtblahapjdgncfaaEpoA
import Derived.Test.YtblahapjdgncfaaVec4
namespace Go.Proofs.Ytblahapjdgncfaa
open Go.RowKit
set_option linter.unusedVariables false
set_option linter.unusedSimpArgs false

set_option maxHeartbeats 1000000 in
theorem repoNext_any (num inc : Int) (w : World) (h0 : 0 ≤ num) (h1 : num ≤ 18446744073709551615) (hi : 0 ≤ inc) :
    Calls Try.prog 55 #[.int .u64 num, .int .u32 inc] w fun e w' => e = nextRes num inc ∧ w = w' := by
  by_cases hl : inc = 0
  · subst hl
    have He := Lib.hid (show nextE num 0 = (0, 2) by unfold nextE; rw [if_pos (.inl (by omega))])
    go_enter Try.func55, Try.ntmps55
    go_wp2_with fail
    exact bodyPost_ret (v := .tuple #[.int .u64 0, .int .i64 2]) (by simp [results, Try.results55, go_sem]) rfl ⟨next_res He.out, rfl⟩
  · have hl' : (inc == 0) = false := by simpa using hl
    by_cases hg : 4 < inc
    · have He := Lib.hid (show nextE num inc = (0, 2) by unfold nextE; rw [if_pos (.inr hg)])
      go_enter Try.func55, Try.ntmps55
      go_wp2_with fail
      exact bodyPost_ret (v := .tuple #[.int .u64 0, .int .i64 2]) (by simp [results, Try.results55, go_sem]) rfl ⟨next_res He.out, rfl⟩
    · have hg' : decide (4 < inc) = false := by simpa using hg
      by_cases hn : 1099511627775 < num
      · have He := Lib.hid (show nextE num inc = (0, 14) by unfold nextE; rw [if_neg (by omega), if_pos (by omega)])
        go_enter Try.func55, Try.ntmps55
        go_wp2_with fail
        exact bodyPost_ret (v := .tuple #[.int .u64 0, .int .i64 14]) (by simp [results, Try.results55, go_sem]) rfl ⟨next_res He.out, rfl⟩
      · have hn' : decide (1099511627775 < num) = false := by simpa using hn
        by_cases hx : inc * 4294967296 < num + 1
        · have He := Lib.hid (show nextE num inc = (num + 1, 0) by unfold nextE; rw [if_neg (by omega), if_neg (by omega), show max (num + 1) (inc * 4294967296) = num + 1 by omega])
          go_enter Try.func55, Try.ntmps55
          go_wp2_with fail
          exact bodyPost_ret (v := .tuple #[.int .u64 (num + 1), .int .i64 0]) (by simp [results, Try.results55, go_sem]) rfl ⟨next_res He.out, rfl⟩
        · have hx' : decide (inc * 4294967296 < num + 1) = false := by simpa using hx
          have He := Lib.hid (show nextE num inc = (inc * 4294967296, 0) by unfold nextE; rw [if_neg (by omega), if_neg (by omega), show max (num + 1) (inc * 4294967296) = inc * 4294967296 by omega])
          go_enter Try.func55, Try.ntmps55
          go_wp2_with fail
          exact bodyPost_ret (v := .tuple #[.int .u64 (inc * 4294967296), .int .i64 0]) (by simp [results, Try.results55, go_sem]) rfl ⟨next_res He.out, rfl⟩

set_option maxHeartbeats 1000000 in
theorem rjudge_any (m num : Int) (Fa fa va : Option Addr) (Fc fc vc : Nat) (F f vv : List Dt) (w : World) (hF : Vec w Fa Fc F) (hf : Vec w fa fc f) (hv : Vec w va vc vv) (oF : okV F) (of : okV f) (nF : F.length ≤ 1000000) (nf : f.length ≤ 1000000) (nv : vv.length ≤ 1000000) :
    Calls Try.prog 56 #[.agg #[.int .u64 m, .slice Fa F.length Fc], .int .u64 num, .slice fa f.length fc, .slice va vv.length vc] w fun e w' => e = .returned (.int .u8 (judgeN m num F f vv)) ∧ Below w.heap.size w w' := by
  have HF := Lib.hid hF
  have Hf := Lib.hid hf
  have Hv := Lib.hid hv
  clear hF hf hv
  by_cases hle : m ≤ num
  · have He := Lib.hid (show judgeN m num F f vv = 2 by unfold judgeN; rw [if_pos hle])
    go_enter Try.func56, Try.ntmps56
    go_wp2_with fail
    go_ret
    exact ⟨by rw [He.out]; rfl, (Below.refl _ _).alloc (Nat.le_refl _) _⟩
  · have hle' : decide (m ≤ num) = false := by simpa using hle
    go_enter Try.func56, Try.ntmps56
    go_wp2_with fail
    have hba : Below w.heap.size w (w.alloc (.cells #[.int .u64 m, .slice Fa F.length Fc] 72)) := (Below.refl _ w).alloc (Nat.le_refl _) _
    refine (rwithin_any Fa va Fc vc F vv _ (HF.out.below hba) (Hv.out.below hba) oF nF nv).mono ?_
    rintro e w1 ⟨rfl, hb1⟩
    obtain ⟨hx0, hz, hB1⟩ := new1 hb1
    have d1 := cells_at hx0
    have HB1 := Lib.hid hB1
    clear hb1 hx0 hB1 hba
    cases h1 : withinV F vv with
    | false =>
      have He := Lib.hid (show judgeN m num F f vv = 3 by unfold judgeN; rw [if_neg (by omega : ¬ m ≤ num), if_pos h1])
      clear h1
      go_wp2_with fail
      go_ret
      exact ⟨by rw [He.out]; rfl, HB1.out⟩
    | true =>
      have H1 := Lib.hid h1
      clear h1
      go_wp2_with fail
      refine (rwithin_any fa Fa fc Fc f F _ (Hf.out.below HB1.out) (HF.out.below HB1.out) of nf nF).mono ?_
      rintro e w2 ⟨rfl, hb2⟩
      have HB2 := Lib.hid (HB1.out.trans (hb2.mono HB1.out.size))
      clear hb2
      cases h2 : withinV f F with
      | false =>
        have He := Lib.hid (show judgeN m num F f vv = 4 by unfold judgeN; rw [if_neg (by omega : ¬ m ≤ num), H1.out, if_neg (by simp), if_pos h2])
        clear h2
        go_wp2_with fail
        go_ret
        exact ⟨by rw [He.out]; rfl, HB2.out⟩
      | true =>
        have He := Lib.hid (show judgeN m num F f vv = 1 by unfold judgeN; rw [if_neg (by omega : ¬ m ≤ num), H1.out, if_neg (by simp), h2, if_neg (by simp)])
        clear h2
        go_wp2_with fail
        go_ret
        exact ⟨by rw [He.out]; rfl, HB2.out⟩

set_option maxHeartbeats 1000000 in
theorem rwithinI_any (a b : Option Addr) (c d : Nat) (l m : List Int) (w : World) (hv : U32 w a c l) (hu : U32 w b d m) (hn : l.length ≤ 1000000) (hm : m.length ≤ 1000000) :
    Calls Try.prog 41 #[.slice a l.length c, .slice b m.length d] w fun e w' => e = .returned (.bool (withinI l m)) ∧ Below w.heap.size w w' := by
  have Hv := Lib.hid hv
  have Hu := Lib.hid hu
  clear hv hu
  by_cases hl : l.length = m.length
  · have Hl := Lib.hid hl
    rw [← hl]
    clear hl
    go_enter Try.func41, Try.ntmps41
    go_wp2_with fail
    go_loopw [5] (fun j wr => ∃ k : Nat, k ≤ l.length ∧ j = .int .i64 k ∧ Hid (upTo l m k) ∧ Below w.heap.size w wr) (fun j _ => l.length - (intOf j).toNat)
    case atStart => exact ⟨0, Nat.zero_le _, rfl, Lib.hid (fun j _ _ h => absurd h (Nat.not_lt_zero _)), Below.refl _ _⟩
    case round =>
      obtain ⟨k, hk, rfl, hle, hb⟩ := hrel
      have Hb := Lib.hid hb
      clear hb
      by_cases hlt : k < l.length
      · have hlm : k < m.length := by have := Hl.out; omega
        obtain ⟨x, hx⟩ : ∃ x, l[k]? = some x := ⟨l[k], by simp [hlt]⟩
        obtain ⟨y, hy⟩ : ∃ y, m[k]? = some y := ⟨m[k], by simp [hlm]⟩
        obtain ⟨ad, had, c0, hl0⟩ := (Hv.out.below Hb.out).at hx
        obtain ⟨ae, hae, c1, hl1⟩ := (Hu.out.below Hb.out).at hy
        subst had hae
        have Hx := Lib.hid hx
        have Hy := Lib.hid hy
        clear hx hy
        by_cases hxy : y < x
        · have He := Lib.hid (withinI_false Hx.out Hy.out (by omega))
          go_wp2_with fail
          refine region_text [([0, 1, 2, 3, 4, 5, 6, 7, 8], false)] mixed (by kernel_rfl) ?_
          simp only [wpSegs, List.map_cons, List.map_nil, List.getD_cons_succ, List.getD_cons_zero]
          go_wp2_with fail
          refine And.intro (by kernel_rfl) ?_
          go_wp2_with fail
          go_ret
          exact ⟨by rw [He.out]; rfl, below_drewN Hb.out _⟩
        · have hxy' : decide (y < x) = false := by simpa using hxy
          go_wp2_with fail
          refine region_text [([0, 1, 2, 3, 4, 5, 6, 7, 8], false)] mixed (by kernel_rfl) ?_
          simp only [wpSegs, List.map_cons, List.map_nil, List.getD_cons_succ, List.getD_cons_zero]
          go_wp2_with fail
          refine And.intro (by kernel_rfl) ?_
          go_wp2_with fail
          go_roundw
          case rel => exact ⟨k + 1, by omega, by go_num, Lib.hid (hle.out.snoc Hx.out Hy.out (by omega)), below_drewN Hb.out _⟩
          case measure => simp [intOf]; omega
      · have He := Lib.hid (show withinI l m = true by rw [hle.out.all (by omega)]; exact decide_eq_true Hl.out)
        go_wp2_with fail
        go_ret
        exact ⟨by rw [He.out]; rfl, Hb.out⟩
  · have He := Lib.hid (withinI_short hl)
    have hl' : ((l.length : Int) == (m.length : Int)) = false := by simp; omega
    go_enter Try.func41, Try.ntmps41
    go_wp2_with fail
    go_ret
    exact ⟨by rw [He.out]; rfl, Below.refl _ _⟩

theorem sameI_eq (l m : List Int) : (withinI l m && withinI m l) = decide (l = m) := by
  by_cases h : l = m
  · subst h; simp [withinI_refl]
  · rw [decide_eq_false h]
    cases h1 : withinI l m with
    | false => rfl
    | true =>
      cases h2 : withinI m l with
      | false => rfl
      | true => exact absurd (withinI_anti h1 h2) h
theorem rsameI_any (a b : Option Addr) (c d : Nat) (l m : List Int) (w : World) (hv : U32 w a c l) (hu : U32 w b d m) (hn : l.length ≤ 1000000) (hm : m.length ≤ 1000000) :
    Calls Try.prog 42 #[.slice a l.length c, .slice b m.length d] w fun e w' => e = .returned (.bool (decide (l = m))) ∧ Below w.heap.size w w' := by
  have Hv := Lib.hid hv
  have Hu := Lib.hid hu
  clear hv hu
  rw [← sameI_eq]
  go_enter Try.func42, Try.ntmps42
  go_wp2_with fail
  refine (rwithinI_any a b c d l m w Hv.out Hu.out hn hm).mono ?_
  rintro e w1 ⟨rfl, hb⟩
  have Hb := Lib.hid hb
  clear hb
  cases h1 : withinI l m with
  | false =>
    go_wp2_with fail
    go_ret
    exact ⟨by rw [h1]; rfl, Hb.out⟩
  | true =>
    go_wp2_with fail
    refine (rwithinI_any b a d c m l w1 (Hu.out.below Hb.out) (Hv.out.below Hb.out) hm hn).mono ?_
    rintro e w2 ⟨rfl, hb⟩
    have Hb2 := Lib.hid (Hb.out.trans (hb.mono Hb.out.size))
    clear hb
    go_wp2_with fail
    go_ret
    exact ⟨by rw [h1]; simp, Hb2.out⟩
end Go.Proofs.Ytblahapjdgncfaa
