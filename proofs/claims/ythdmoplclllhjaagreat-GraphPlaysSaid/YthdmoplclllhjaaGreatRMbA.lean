/- varveref12.MayBase: the contract. -/
import Derived.Test.YthdmoplclllhjaaGreatWidB
namespace Go.Proofs.YthdmoplclllhjaaGreat
open Go.RowKit
set_option linter.unusedVariables false
set_option linter.unusedSimpArgs false

set_option maxRecDepth 100000 in
set_option maxHeartbeats 8000000 in
theorem rmayBase_any (v : Bw) (m : Nat) (w : World) (h : BwAt w m v) (hf : v.b.f.length ≤ 1100000) (ht : v.b.tips.length ≤ 1100000) (hB : BdA 1100000 3 v.b.tr) :
    Calls Tryz.prog 14 #[.agg (bwcells v)] w (IsTo w (BaseP v.b)) := by
  obtain ⟨⟨num, F, tips, t, tr⟩, fa, fc, ta, tc, ra, rc⟩ := v
  have H := Lib.hid h
  have HBd := Lib.hid hB
  dsimp only at hf ht
  have ht0 := h.t.1
  dsimp only at ht0
  have HA := Lib.hid (show Below w.heap.size w (w.alloc (.cells (basecells num fa F.length fc ta tips.length tc t ra tr.length rc) 28)).drew from ((Below.refl _ _).alloc (Nat.le_refl _) _).drew)
  clear h hB
  simp only [bwcells]
  go_enter Tryz.func14, Tryz.ntmps14
  go_wp2_with fail
  refine region_text [([0, 1, 3, 4], false), ([2], true), ([5, 6, 7, 8, 9, 10, 11, 12, 13, 14, 15, 16, 17, 18, 19, 20, 21, 22, 23], false)] mixed (by kernel_rfl) ?_
  simp only [wpSegs, List.map_cons, List.map_nil, List.getD_cons_succ, List.getD_cons_zero]
  go_wp2_with fail
  refine (rcanon_any fa fc F _ (H.out.f.below HA.out) H.out.okf hf).mono ?_
  rintro e w1 ⟨a1, c1, rfl, hown, hb⟩
  have E : Hid (BoxE 28 w w1 (basecells num fa F.length fc ta tips.length tc t ra tr.length rc)) := Lib.hid (BoxE.of (((Below.refl _ _).drew).trans hb))
  have Hb := Lib.hid hb
  have d0 := cells_at E.out.blk
  simp only [basecells] at d0
  have z0 := heap_lt E.out.blk
  have Hv := Lib.hid (vec_of hown)
  have hcl : (canonV F).length ≤ 64 := vecOf_length _
  clear hb hown
  go_wp2_with fail
  refine And.intro (Agree.of_below Hb.out) ?_
  go_wp2_with fail
  refine (same_any a1 fa c1 fc (canonV F) F _ Hv.out (H.out.f.below E.out.bel) (by omega) hf).mono ?_
  rintro e w2 ⟨rfl, hb⟩
  replace E := Lib.hid (E.out.step hb)
  clear hb d0 z0 Hb
  have d0 := cells_at E.out.blk
  simp only [basecells] at d0
  have z0 := heap_lt E.out.blk
  by_cases hcan : canonV F = F
  rotate_left
  · have Hn := Lib.hid (show ¬ BaseP ⟨num, F, tips, t, tr⟩ from fun h => hcan h.canon)
    rw [decide_eq_false hcan]
    go_wp2_with fail
    refine And.intro (by kernel_rfl) ?_
    go_wp2_with fail
    go_ret
    exact no_name Hn.out E.out.bel
  rw [decide_eq_true hcan]
  have Hcan := Lib.hid hcan
  clear hcan
  by_cases h64 : 64 < tips.length
  · have Hn := Lib.hid (show ¬ BaseP ⟨num, F, tips, t, tr⟩ from fun h => by have h1 : tips.length ≤ 64 := h.few; omega)
    have e1 : decide ((64 : Int) < (tips.length : Int)) = true := decide_eq_true (by omega)
    go_wp2_with fail
    refine And.intro (by kernel_rfl) ?_
    go_wp2_with fail
    go_ret
    exact no_name Hn.out E.out.bel
  have e1 : decide ((64 : Int) < (tips.length : Int)) = false := decide_eq_false (by omega)
  by_cases hT : 1099511627776 < t
  · have Hn := Lib.hid (show ¬ BaseP ⟨num, F, tips, t, tr⟩ from fun h => by have h1 : t ≤ 1099511627776 := h.time; omega)
    have e2 : decide (1099511627776 < t) = true := decide_eq_true hT
    go_wp2_with fail
    refine And.intro (by kernel_rfl) ?_
    go_wp2_with fail
    go_ret
    exact no_name Hn.out E.out.bel
  have e2 : decide (1099511627776 < t) = false := decide_eq_false hT
  go_wp2_with fail
  refine (rmayTop_any m ra rc tr _ (H.out.tr.below E.out.bel) HBd.out.bdT).mono ?_
  intro e w3 hto
  obtain ⟨z, rfl, hz, hb⟩ := hto
  replace E := Lib.hid (E.out.step hb)
  have Hz := Lib.hid hz
  clear hb hz d0 z0
  have d0 := cells_at E.out.blk
  simp only [basecells] at d0
  have z0 := heap_lt E.out.blk
  cases z with
  | false =>
    have Hn := Lib.hid (show ¬ BaseP ⟨num, F, tips, t, tr⟩ from fun h => by have := Hz.out.2 h.tree; cases this)
    go_wp2_with fail
    refine And.intro (by kernel_rfl) ?_
    go_wp2_with fail
    go_ret
    exact no_name Hn.out E.out.bel
  | true =>
    have Htr := Lib.hid (Hz.out.1 rfl)
    clear Hz
    go_wp2_with fail
    refine And.intro (by kernel_rfl) ?_
    go_wp2_with fail
    clear d0 z0
    go_loopw [3] (fun i wr => ∃ k : Nat, k ≤ tips.length ∧ i = .int .i64 k ∧ Hid (∀ d ∈ tips.take k, hasV F d = true) ∧ Hid (upTo ltD tips k) ∧ Hid (BoxE 28 w wr (basecells num fa F.length fc ta tips.length tc t ra tr.length rc))) (fun i _ => tips.length - (intOf i).toNat)
    case atStart => exact ⟨0, Nat.zero_le _, rfl, Lib.hid (by simp), Lib.hid upTo.zero, E⟩
    case round =>
      obtain ⟨k, hk, rfl, HW, HU, B⟩ := hrel
      clear E
      have d0 := cells_at B.out.blk
      simp only [basecells] at d0
      have z0 := heap_lt B.out.blk
      by_cases hlt : k < tips.length
      · obtain ⟨⟨⟨r, i⟩, s⟩, hx⟩ : ∃ x, tips[k]? = some x := ⟨tips[k], by simp [hlt]⟩
        obtain ⟨ad, had, f0, f1, f2, hl0⟩ := (H.out.tips.below B.out.bel).at hx
        dsimp only at had f0 f1 f2
        subst had
        have Hx := Lib.hid hx
        clear hx
        have BD := Lib.hid (B.out.step ((Below.refl _ _).drew))
        go_wp2_with fail
        refine region_text [([0, 1, 2, 3, 4, 5, 6, 7, 8, 9, 10, 11, 12, 13, 14, 15, 16, 17, 18, 19, 20, 21, 22, 23, 24, 25, 26, 27], false)] mixed (by kernel_rfl) ?_
        simp only [wpSegs, List.map_cons, List.map_nil, List.getD_cons_succ, List.getD_cons_zero]
        go_wp2_with fail
        refine (rhas_any fa fc F r i s _ (H.out.f.below BD.out.bel) hf).mono ?_
        rintro e w4 ⟨rfl, hb⟩
        replace B := Lib.hid (BD.out.step hb)
        clear hb d0 z0 BD
        have d0 := cells_at B.out.blk
        simp only [basecells] at d0
        have z0 := heap_lt B.out.blk
        cases hin : hasV F ((r, i), s) with
        | false =>
          have Hn := Lib.hid (show ¬ BaseP ⟨num, F, tips, t, tr⟩ from fun h => by
            have h1 := h.within _ (List.mem_of_getElem? Hx.out)
            have h2 : hasV F ((r, i), s) = true := h1
            rw [hin] at h2; cases h2)
          go_wp2_with fail
          refine And.intro (by kernel_rfl) ?_
          go_wp2_with fail
          go_ret
          exact no_name Hn.out B.out.bel
        | true =>
          have HW' := Lib.hid (all_snoc Hx.out HW.out hin)
          clear hin
          cases k with
          | zero =>
            have HU' : Hid (upTo ltD tips 1) := Lib.hid upTo.one
            clear HU
            have ek : decide ((0 : Int) < ((0 : Nat) : Int)) = false := decide_eq_false (by omega)
            go_wp2_with fail
            refine And.intro (by kernel_rfl) ?_
            go_wp2_with fail
            go_roundw
            case rel => exact ⟨1, by omega, by go_num, HW', HU', B⟩
            case measure => simp [intOf]; omega
          | succ k =>
            obtain ⟨⟨⟨r', i'⟩, s'⟩, hy⟩ : ∃ x, tips[k]? = some x := ⟨tips[k], by simp⟩
            obtain ⟨ae, hae, g0, g1, g2, hl1⟩ := (H.out.tips.below B.out.bel).at hy
            obtain ⟨af, haf, k0, k1, k2, hl2⟩ := (H.out.tips.below B.out.bel).at Hx.out
            dsimp only at hae g0 g1 g2 haf k0 k1 k2
            obtain rfl : ad = ae := Option.some.inj (hae)
            obtain rfl : ad = af := Option.some.inj (haf)
            clear f0 f1 f2 haf
            have Hy := Lib.hid hy
            clear hy hae
            have ek : decide ((0 : Int) < ((k + 1 : Nat) : Int)) = true := decide_eq_true (by omega)
            have BD := Lib.hid B.out
            go_wp2_with fail
            refine (rless_any r' i' s' r i s _).mono ?_
            rintro e w5 ⟨rfl, hb⟩
            replace B := Lib.hid (B.out.step hb)
            clear hb d0 z0 BD
            have d0 := cells_at B.out.blk
            simp only [basecells] at d0
            have z0 := heap_lt B.out.blk
            cases hq : lessD ((r', i'), s') ((r, i), s) with
            | true =>
              have HU' := Lib.hid (HU.out.succ Hy.out Hx.out hq)
              clear hq
              go_wp2_with fail
              refine And.intro (by kernel_rfl) ?_
              go_wp2_with fail
              go_roundw
              case rel => exact ⟨k + 2, by omega, by go_num, HW', HU', B⟩
              case measure => simp [intOf]; omega
            | false =>
              have Hn := Lib.hid (show ¬ BaseP ⟨num, F, tips, t, tr⟩ from fun h => not_risen Hy.out Hx.out hq h.rise)
              clear hq
              go_wp2_with fail
              refine And.intro (by kernel_rfl) ?_
              go_wp2_with fail
              go_ret
              exact no_name Hn.out B.out.bel
      · have hkk : k = tips.length := by omega
        have HW2 := Lib.hid (show ∀ d ∈ tips, hasV F d = true from fun d hd => HW.out d (by rw [hkk, List.take_length]; exact hd))
        have HP := Lib.hid (show tips.Pairwise ltD from upTo.all (lt := ltD) (fun {a b c} h k => ltD_trans h k) HU.out (by omega))
        clear HW HU
        clear hkk
        by_cases h0F : 0 < F.length
        · have xF : decide ((0 : Int) < (F.length : Int)) = true := decide_eq_true (by omega)
          have yF : ((F.length : Int) == (0 : Int)) = false := by rw [beq_eq_false_iff_ne]; omega
          by_cases h0t : 0 < t
          · have xt : decide ((0 : Int) < t) = true := decide_eq_true (by omega)
            have yt : (t == (0 : Int)) = false := by rw [beq_eq_false_iff_ne]; omega
            by_cases h0p : 0 < tips.length
            · have xp : decide ((0 : Int) < (tips.length : Int)) = true := decide_eq_true (by omega)
              have yp : ((tips.length : Int) == (0 : Int)) = false := by rw [beq_eq_false_iff_ne]; omega
              go_wp2_with fail
              go_ret
              exact yes_name (show BaseP ⟨num, F, tips, t, tr⟩ from ⟨Hcan.out, by show tips.length ≤ 64; omega, HP.out, HW2.out, hT, by show F ≠ [] ↔ 0 < t; rw [ne_len]; omega, by show F ≠ [] ↔ tips ≠ []; rw [ne_len, ne_len]; omega, Htr.out⟩) B.out.bel
            · have xp : decide ((0 : Int) < (tips.length : Int)) = false := decide_eq_false (by omega)
              have yp : ((tips.length : Int) == (0 : Int)) = true := by rw [beq_iff_eq]; omega
              have Hn := Lib.hid (show ¬ BaseP ⟨num, F, tips, t, tr⟩ from fun h => by
                have h1 := h.some1
                have h2 := h.some2
                replace h1 : F ≠ [] ↔ 0 < t := h1
                replace h2 : F ≠ [] ↔ tips ≠ [] := h2
                rw [ne_len] at h1 h2
                rw [ne_len] at h2
                omega)
              go_wp2_with fail
              go_ret
              exact no_name Hn.out B.out.bel
          · have xt : decide ((0 : Int) < t) = false := decide_eq_false (by omega)
            have yt : (t == (0 : Int)) = true := by rw [beq_iff_eq]; omega
            by_cases h0p : 0 < tips.length
            · have xp : decide ((0 : Int) < (tips.length : Int)) = true := decide_eq_true (by omega)
              have yp : ((tips.length : Int) == (0 : Int)) = false := by rw [beq_eq_false_iff_ne]; omega
              have Hn := Lib.hid (show ¬ BaseP ⟨num, F, tips, t, tr⟩ from fun h => by
                have h1 := h.some1
                have h2 := h.some2
                replace h1 : F ≠ [] ↔ 0 < t := h1
                replace h2 : F ≠ [] ↔ tips ≠ [] := h2
                rw [ne_len] at h1 h2
                rw [ne_len] at h2
                omega)
              go_wp2_with fail
              go_ret
              exact no_name Hn.out B.out.bel
            · have xp : decide ((0 : Int) < (tips.length : Int)) = false := decide_eq_false (by omega)
              have yp : ((tips.length : Int) == (0 : Int)) = true := by rw [beq_iff_eq]; omega
              have Hn := Lib.hid (show ¬ BaseP ⟨num, F, tips, t, tr⟩ from fun h => by
                have h1 := h.some1
                have h2 := h.some2
                replace h1 : F ≠ [] ↔ 0 < t := h1
                replace h2 : F ≠ [] ↔ tips ≠ [] := h2
                rw [ne_len] at h1 h2
                rw [ne_len] at h2
                omega)
              go_wp2_with fail
              go_ret
              exact no_name Hn.out B.out.bel
        · have xF : decide ((0 : Int) < (F.length : Int)) = false := decide_eq_false (by omega)
          have yF : ((F.length : Int) == (0 : Int)) = true := by rw [beq_iff_eq]; omega
          by_cases h0t : 0 < t
          · have xt : decide ((0 : Int) < t) = true := decide_eq_true (by omega)
            have yt : (t == (0 : Int)) = false := by rw [beq_eq_false_iff_ne]; omega
            by_cases h0p : 0 < tips.length
            · have xp : decide ((0 : Int) < (tips.length : Int)) = true := decide_eq_true (by omega)
              have yp : ((tips.length : Int) == (0 : Int)) = false := by rw [beq_eq_false_iff_ne]; omega
              have Hn := Lib.hid (show ¬ BaseP ⟨num, F, tips, t, tr⟩ from fun h => by
                have h1 := h.some1
                have h2 := h.some2
                replace h1 : F ≠ [] ↔ 0 < t := h1
                replace h2 : F ≠ [] ↔ tips ≠ [] := h2
                rw [ne_len] at h1 h2
                rw [ne_len] at h2
                omega)
              go_wp2_with fail
              go_ret
              exact no_name Hn.out B.out.bel
            · have xp : decide ((0 : Int) < (tips.length : Int)) = false := decide_eq_false (by omega)
              have yp : ((tips.length : Int) == (0 : Int)) = true := by rw [beq_iff_eq]; omega
              have Hn := Lib.hid (show ¬ BaseP ⟨num, F, tips, t, tr⟩ from fun h => by
                have h1 := h.some1
                have h2 := h.some2
                replace h1 : F ≠ [] ↔ 0 < t := h1
                replace h2 : F ≠ [] ↔ tips ≠ [] := h2
                rw [ne_len] at h1 h2
                rw [ne_len] at h2
                omega)
              go_wp2_with fail
              go_ret
              exact no_name Hn.out B.out.bel
          · have xt : decide ((0 : Int) < t) = false := decide_eq_false (by omega)
            have yt : (t == (0 : Int)) = true := by rw [beq_iff_eq]; omega
            by_cases h0p : 0 < tips.length
            · have xp : decide ((0 : Int) < (tips.length : Int)) = true := decide_eq_true (by omega)
              have yp : ((tips.length : Int) == (0 : Int)) = false := by rw [beq_eq_false_iff_ne]; omega
              have Hn := Lib.hid (show ¬ BaseP ⟨num, F, tips, t, tr⟩ from fun h => by
                have h1 := h.some1
                have h2 := h.some2
                replace h1 : F ≠ [] ↔ 0 < t := h1
                replace h2 : F ≠ [] ↔ tips ≠ [] := h2
                rw [ne_len] at h1 h2
                rw [ne_len] at h2
                omega)
              go_wp2_with fail
              go_ret
              exact no_name Hn.out B.out.bel
            · have xp : decide ((0 : Int) < (tips.length : Int)) = false := decide_eq_false (by omega)
              have yp : ((tips.length : Int) == (0 : Int)) = true := by rw [beq_iff_eq]; omega
              go_wp2_with fail
              go_ret
              exact yes_name (show BaseP ⟨num, F, tips, t, tr⟩ from ⟨Hcan.out, by show tips.length ≤ 64; omega, HP.out, HW2.out, hT, by show F ≠ [] ↔ 0 < t; rw [ne_len]; omega, by show F ≠ [] ↔ tips ≠ []; rw [ne_len, ne_len]; omega, Htr.out⟩) B.out.bel
end Go.Proofs.YthdmoplclllhjaaGreat
