/- graph.rising, MayBase: contracts. -/
import Derived.Test.YthdmoplclllhjaaGreatTreM
import Derived.Test.YthdmoplclllhjaaGreatGraM
namespace Go.Proofs.YthdmoplclllhjaaGreat
open Go.RowKit
set_option linter.unusedVariables false
set_option linter.unusedSimpArgs false

theorem not_risen {l : List Dt} {q : Nat} {x y : Dt} (hx : l[q]? = some x) (hy : l[q + 1]? = some y) (h : lessD x y = false) : ¬ l.Pairwise ltD := fun hh => by
  have := pairwise_next hh hx hy
  unfold ltD at this
  rw [h] at this; cases this
set_option maxRecDepth 100000 in
set_option maxHeartbeats 2000000 in
theorem riseD_any (a : Option Addr) (c : Nat) (l : List Dt) (w : World) (h : Vec w a c l) (hn : l.length ≤ 1100000) : Calls Tryz.prog 102 #[.slice a l.length c] w (IsTo w (l.Pairwise ltD)) := by
  have H := Lib.hid h
  clear h
  go_enter Tryz.func102, Tryz.ntmps102
  go_wp2_with fail
  go_loopw [3] (fun i wr => ∃ k : Nat, k ≤ l.length ∧ i = .int .i64 ((k : Int) + 1) ∧ Hid (upTo ltD l (k + 1)) ∧ Below w.heap.size w wr) (fun i _ => l.length + 1 - (intOf i).toNat)
  case atStart => exact ⟨0, Nat.zero_le _, rfl, Lib.hid upTo.one, Below.refl _ _⟩
  case round =>
    obtain ⟨k, hk, rfl, HU, hb⟩ := hrel
    have HB := Lib.hid hb
    clear hb
    by_cases hlt : k + 1 < l.length
    · obtain ⟨⟨⟨r, i⟩, s⟩, hx⟩ : ∃ x, l[k]? = some x := ⟨l[k], by simp⟩
      obtain ⟨⟨⟨r', i'⟩, s'⟩, hy⟩ : ∃ x, l[k + 1]? = some x := ⟨l[k + 1], by simp [hlt]⟩
      obtain ⟨ad, had, d0, d1, d2, hl0⟩ := (H.out.below HB.out).at hx
      obtain ⟨ae, hae, e0, e1, e2, hl1⟩ := (H.out.below HB.out).at hy
      obtain rfl : ae = ad := Option.some.inj (hae.symm.trans had)
      subst had
      dsimp only at d0 d1 d2 e0 e1 e2
      have Hx := Lib.hid hx
      have Hy := Lib.hid hy
      clear hx hy hae
      go_wp2_with fail
      refine region_text [([0, 1, 2, 3, 4, 5, 6, 7, 8, 9, 10], false)] mixed (by kernel_rfl) ?_
      simp only [wpSegs, List.map_cons, List.map_nil, List.getD_cons_succ, List.getD_cons_zero]
      go_wp2_with fail
      refine (compareD_any r i s r' i' s' _).mono ?_
      rintro e w1 ⟨rfl, hg⟩
      have HB1 := Lib.hid (below2 HB.out (((Below.refl _ _).drew).trans hg.below) HB.out.size)
      clear hg
      cases hq : lessD ((r, i), s) ((r', i'), s') with
      | true =>
        have e3 : decide ((0 : Int) ≤ cmpDD ((r, i), s) ((r', i'), s')) = false := by
          have := (cmpD_neg ((r, i), s) ((r', i'), s')).2 hq
          rw [cmpDD_eq]
          simp; omega
        have Hup := Lib.hid (HU.out.succ Hx.out Hy.out hq)
        go_wp2_with fail
        refine And.intro (by kernel_rfl) ?_
        go_wp2_with fail
        go_roundw
        case rel => exact ⟨k + 1, by omega, by go_num, Hup, HB1.out⟩
        case measure => simp [intOf]; omega
      | false =>
        have e3 : decide ((0 : Int) ≤ cmpDD ((r, i), s) ((r', i'), s')) = true := by
          rw [cmpDD_eq]
          simp only [decide_eq_true_eq]
          rcases Int.lt_or_le (cmpD ((r, i), s) ((r', i'), s')) 0 with h | h
          · have := (cmpD_neg ((r, i), s) ((r', i'), s')).1 h
            rw [hq] at this; cases this
          · exact h
        have Hn := Lib.hid (not_risen Hx.out Hy.out hq)
        go_wp2_with fail
        refine And.intro (by kernel_rfl) ?_
        go_wp2_with fail
        go_ret
        exact no_name Hn.out HB1.out
    · have Hr := Lib.hid (show l.Pairwise ltD from upTo.all (lt := ltD) (fun {a b c} h k => ltD_trans h k) HU.out (by omega))
      go_wp2_with fail
      go_ret
      exact yes_name Hr.out HB.out
/-- a baseline's cells -/
def bwcells (v : Bw) : Array Value := basecells v.b.num v.fa v.b.f.length v.fc v.ta v.b.tips.length v.tc v.b.t v.ra v.b.tr.length v.rc
set_option maxRecDepth 100000 in
theorem outside_any (num : Int) (fa : Option Addr) (F : List Dt) (fc : Nat) (ta : Option Addr) (tn tc : Nat) (t : Int) (ra : Option Addr) (rn rc bb : Nat) (r i s : Int) (W : World) (hblk : W.heap[bb]? = some (.cells (basecells num fa F.length fc ta tn tc t ra rn rc) 28 (0, 0)))
    (hF : Vec W fa fc F) (hok : okV F) (hn : F.length ≤ 1100000) (hd : okA (r, i)) :
    Calls Tryz.prog 99 #[.agg #[.int .u8 r, .int .u32 i, .int .u64 s], .pointer (some ⟨bb, 0, none⟩)] W fun e W' => e = .returned (.bool (!hasV F ((r, i), s))) ∧ Below W.heap.size W W' := by
  have H := Lib.hid hF
  have d0 := cells_at hblk
  simp only [basecells] at d0
  have z0 := heap_lt hblk
  have HA := Lib.hid (show Below W.heap.size W (W.alloc (.cells #[.int .u8 r, .int .u32 i, .int .u64 s] 41)) from (Below.refl _ _).alloc (Nat.le_refl _) _)
  clear hF hblk
  go_enter Tryz.func99, Tryz.ntmps99
  go_wp2_with fail
  refine (has_any fa fc F r i s _ (H.out.below HA.out) hn hok hd).mono ?_
  rintro e w1 ⟨rfl, hb⟩
  have HB := Lib.hid (below2 HA.out hb HA.out.size)
  clear hb
  go_wp2_with fail
  go_ret
  exact ⟨rfl, HB.out⟩
theorem ne_len {α : Type} {l : List α} : l ≠ [] ↔ 0 < l.length := by
  cases l <;> simp
set_option maxRecDepth 100000 in
set_option maxHeartbeats 8000000 in
theorem mayBase_any (v : Bw) (m : Nat) (w : World) (h : BwAt w m v) (hf : v.b.f.length ≤ 1100000) (ht : v.b.tips.length ≤ 1100000) (hB : BdA 1100000 3 v.b.tr) :
    Calls Tryz.prog 28 #[.agg (bwcells v)] w (IsTo w (BaseP v.b)) := by
  obtain ⟨⟨num, F, tips, t, tr⟩, fa, fc, ta, tc, ra, rc⟩ := v
  have H := Lib.hid h
  have HBd := Lib.hid hB
  dsimp only at hf ht
  have ht0 := h.t.1
  dsimp only at ht0
  have he := enters_of Tryz.func99 (by kernel_rfl) rfl
  have hA : Below w.heap.size w (w.alloc (.cells (basecells num fa F.length fc ta tips.length tc t ra tr.length rc) 28)).drew := ((Below.refl _ _).alloc (Nat.le_refl _) _).drew
  have HA := Lib.hid hA
  clear h hB hA
  simp only [bwcells]
  go_enter Tryz.func28, Tryz.ntmps28
  go_wp2_with fail
  refine region_text [([0, 1, 3, 4], false), ([2], true), ([5, 6, 7, 8, 9, 10, 11, 12, 13, 14, 15, 16, 17, 18, 19, 20, 21, 22, 23, 24], false)] mixed (by kernel_rfl) ?_
  simp only [wpSegs, List.map_cons, List.map_nil, List.getD_cons_succ, List.getD_cons_zero]
  go_wp2_with fail
  refine (canon_any fa fc F _ (H.out.f.below HA.out) H.out.okf hf).mono ?_
  rintro e w1 ⟨a1, c1, rfl, hown, hb⟩
  have E : Hid (BoxE 28 w w1 (basecells num fa F.length fc ta tips.length tc t ra tr.length rc)) := Lib.hid (BoxE.of (((Below.refl _ _).drew).trans hb))
  have Hb := Lib.hid hb
  have d0 := cells_at E.out.blk
  simp only [basecells] at d0
  have z0 := heap_lt E.out.blk
  have Hv := Lib.hid (vec_of hown)
  have hcl : (canonV F).length ≤ 64 := vecOf_length _
  clear hb hown
  go_wp2_with fail
  refine And.intro (Agree.of_below Hb.out) ?_
  go_wp2_with fail
  refine (equalV_any a1 fa c1 fc (canonV F) F _ Hv.out (H.out.f.below E.out.bel) (by omega) hf).mono ?_
  rintro e w2 ⟨z, rfl, hz, hb⟩
  replace E := Lib.hid (E.out.step hb)
  have Hz := Lib.hid hz
  clear hb hz d0 z0 Hb
  have d0 := cells_at E.out.blk
  simp only [basecells] at d0
  have z0 := heap_lt E.out.blk
  cases z with
  | false =>
    have Hn := Lib.hid (show ¬ BaseP ⟨num, F, tips, t, tr⟩ from fun h => by have := Hz.out.2 h.canon; cases this)
    go_wp2_with fail
    refine And.intro (by kernel_rfl) ?_
    go_wp2_with fail
    go_ret
    exact no_name Hn.out E.out.bel
  | true =>
    have Hcan := Lib.hid (Hz.out.1 rfl)
    clear Hz
    by_cases h64 : 64 < tips.length
    · have Hn := Lib.hid (show ¬ BaseP ⟨num, F, tips, t, tr⟩ from fun h => by have := h.few; dsimp only at this; omega)
      go_wp2_with fail
      refine And.intro (by kernel_rfl) ?_
      go_wp2_with fail
      go_ret
      exact no_name Hn.out E.out.bel
    · go_wp2_with fail
      refine (riseD_any ta tc tips _ (H.out.tips.below E.out.bel) ht).mono ?_
      intro e w3 hto
      obtain ⟨z, rfl, hz, hb⟩ := hto
      replace E := Lib.hid (E.out.step hb)
      have Hz := Lib.hid hz
      clear hb hz d0 z0
      have d0 := cells_at E.out.blk
      simp only [basecells] at d0
      have z0 := heap_lt E.out.blk
      cases z with
      | false =>
        have Hn := Lib.hid (show ¬ BaseP ⟨num, F, tips, t, tr⟩ from fun h => by have := Hz.out.2 h.rise; cases this)
        go_wp2_with fail
        refine And.intro (by kernel_rfl) ?_
        go_wp2_with fail
        go_ret
        exact no_name Hn.out E.out.bel
      | true =>
        have Hrise := Lib.hid (Hz.out.1 rfl)
        clear Hz
        go_wp2_with fail
        refine (containsD_fn 99 #[.pointer (some ⟨w.heap.size, 0, none⟩)] (fun d => !hasV F d) ta tc tips _ (H.out.tips.below E.out.bel) ht he (fun r i s hm W hW => outside_any num fa F fc ta tips.length tc t ra tr.length rc w.heap.size r i s W ((hW.block _ (heap_lt E.out.blk)).trans E.out.blk) ((H.out.f.below E.out.bel).below hW) H.out.okf hf (H.out.okt _ hm).1)).mono ?_
        intro e w4 hto
        obtain ⟨z, rfl, hz, hb⟩ := hto
        replace E := Lib.hid (E.out.step hb)
        have Hz := Lib.hid hz
        clear hb hz d0 z0
        have d0 := cells_at E.out.blk
        simp only [basecells] at d0
        have z0 := heap_lt E.out.blk
        cases z with
        | true =>
          have Hn := Lib.hid (show ¬ BaseP ⟨num, F, tips, t, tr⟩ from fun h => by
            obtain ⟨d, hd, h2⟩ := Hz.out.1 rfl
            rw [h.within d hd] at h2; cases h2)
          go_wp2_with fail
          refine And.intro (by kernel_rfl) ?_
          go_wp2_with fail
          go_ret
          exact no_name Hn.out E.out.bel
        | false =>
          have Hwith := Lib.hid (show ∀ d ∈ tips, hasV F d = true from fun d hd => by
            cases hh : hasV F d with
            | true => rfl
            | false => have := Hz.out.2 ⟨d, hd, by rw [hh]; rfl⟩; cases this)
          clear Hz
          by_cases hT : t ≤ 1099511627776
          rotate_left
          · have Hn := Lib.hid (show ¬ BaseP ⟨num, F, tips, t, tr⟩ from fun h => hT h.time)
            have eT : decide (t ≤ 1099511627776) = false := by simpa using hT
            go_wp2_with fail
            refine And.intro (by kernel_rfl) ?_
            go_wp2_with fail
            go_ret
            exact no_name Hn.out E.out.bel
          have eT : decide (t ≤ 1099511627776) = true := by simpa using hT
          by_cases hF0 : 0 < F.length
          · have eF' : decide ((0 : Int) < (F.length : Int)) = true := decide_eq_true (by omega)
            by_cases ht1 : 0 < t
            · have et' : decide ((0 : Int) < t) = true := decide_eq_true (by omega)
              by_cases hp0 : 0 < tips.length
              · have ep' : decide ((0 : Int) < (tips.length : Int)) = true := decide_eq_true (by omega)
                go_wp2_with fail
                refine And.intro (by kernel_rfl) ?_
                go_wp2_with fail
                refine (treeMay_any m ra rc tr _ (H.out.tr.below E.out.bel) HBd.out).mono ?_
                intro e w5 hto
                obtain ⟨z, rfl, hz, hb⟩ := hto
                have HB5 := Lib.hid (E.out.step hb).bel
                have Hz := Lib.hid hz
                clear hz hb
                go_wp2_with fail
                go_ret
                exact ⟨z, rfl, ⟨fun h => ⟨Hcan.out, by show tips.length ≤ 64; omega, Hrise.out, Hwith.out, hT, by show F ≠ [] ↔ 0 < t; rw [ne_len]; omega, by show F ≠ [] ↔ tips ≠ []; rw [ne_len, ne_len]; omega, Hz.out.1 h⟩, fun h => Hz.out.2 h.tree⟩, HB5.out⟩
              · have ep' : decide ((0 : Int) < (tips.length : Int)) = false := decide_eq_false (by omega)
                have Hn := Lib.hid (show ¬ BaseP ⟨num, F, tips, t, tr⟩ from fun h => by
                  have h1 := h.some1
                  have h2 := h.some2
                  replace h1 : F ≠ [] ↔ 0 < t := h1
                  replace h2 : F ≠ [] ↔ tips ≠ [] := h2
                  rw [ne_len] at h1 h2
                  rw [ne_len] at h2
                  omega)
                go_wp2_with fail
                refine And.intro (by kernel_rfl) ?_
                go_wp2_with fail
                go_ret
                exact no_name Hn.out E.out.bel
            · have et' : decide ((0 : Int) < t) = false := decide_eq_false (by omega)
              by_cases hp0 : 0 < tips.length
              · have ep' : decide ((0 : Int) < (tips.length : Int)) = true := decide_eq_true (by omega)
                have Hn := Lib.hid (show ¬ BaseP ⟨num, F, tips, t, tr⟩ from fun h => by
                  have h1 := h.some1
                  have h2 := h.some2
                  replace h1 : F ≠ [] ↔ 0 < t := h1
                  replace h2 : F ≠ [] ↔ tips ≠ [] := h2
                  rw [ne_len] at h1 h2
                  rw [ne_len] at h2
                  omega)
                go_wp2_with fail
                refine And.intro (by kernel_rfl) ?_
                go_wp2_with fail
                go_ret
                exact no_name Hn.out E.out.bel
              · have ep' : decide ((0 : Int) < (tips.length : Int)) = false := decide_eq_false (by omega)
                have Hn := Lib.hid (show ¬ BaseP ⟨num, F, tips, t, tr⟩ from fun h => by
                  have h1 := h.some1
                  have h2 := h.some2
                  replace h1 : F ≠ [] ↔ 0 < t := h1
                  replace h2 : F ≠ [] ↔ tips ≠ [] := h2
                  rw [ne_len] at h1 h2
                  rw [ne_len] at h2
                  omega)
                go_wp2_with fail
                refine And.intro (by kernel_rfl) ?_
                go_wp2_with fail
                go_ret
                exact no_name Hn.out E.out.bel
          · have eF' : decide ((0 : Int) < (F.length : Int)) = false := decide_eq_false (by omega)
            by_cases ht1 : 0 < t
            · have et' : decide ((0 : Int) < t) = true := decide_eq_true (by omega)
              by_cases hp0 : 0 < tips.length
              · have ep' : decide ((0 : Int) < (tips.length : Int)) = true := decide_eq_true (by omega)
                have Hn := Lib.hid (show ¬ BaseP ⟨num, F, tips, t, tr⟩ from fun h => by
                  have h1 := h.some1
                  have h2 := h.some2
                  replace h1 : F ≠ [] ↔ 0 < t := h1
                  replace h2 : F ≠ [] ↔ tips ≠ [] := h2
                  rw [ne_len] at h1 h2
                  rw [ne_len] at h2
                  omega)
                go_wp2_with fail
                refine And.intro (by kernel_rfl) ?_
                go_wp2_with fail
                go_ret
                exact no_name Hn.out E.out.bel
              · have ep' : decide ((0 : Int) < (tips.length : Int)) = false := decide_eq_false (by omega)
                have Hn := Lib.hid (show ¬ BaseP ⟨num, F, tips, t, tr⟩ from fun h => by
                  have h1 := h.some1
                  have h2 := h.some2
                  replace h1 : F ≠ [] ↔ 0 < t := h1
                  replace h2 : F ≠ [] ↔ tips ≠ [] := h2
                  rw [ne_len] at h1 h2
                  rw [ne_len] at h2
                  omega)
                go_wp2_with fail
                refine And.intro (by kernel_rfl) ?_
                go_wp2_with fail
                go_ret
                exact no_name Hn.out E.out.bel
            · have et' : decide ((0 : Int) < t) = false := decide_eq_false (by omega)
              by_cases hp0 : 0 < tips.length
              · have ep' : decide ((0 : Int) < (tips.length : Int)) = true := decide_eq_true (by omega)
                have Hn := Lib.hid (show ¬ BaseP ⟨num, F, tips, t, tr⟩ from fun h => by
                  have h1 := h.some1
                  have h2 := h.some2
                  replace h1 : F ≠ [] ↔ 0 < t := h1
                  replace h2 : F ≠ [] ↔ tips ≠ [] := h2
                  rw [ne_len] at h1 h2
                  rw [ne_len] at h2
                  omega)
                go_wp2_with fail
                refine And.intro (by kernel_rfl) ?_
                go_wp2_with fail
                go_ret
                exact no_name Hn.out E.out.bel
              · have ep' : decide ((0 : Int) < (tips.length : Int)) = false := decide_eq_false (by omega)
                go_wp2_with fail
                refine And.intro (by kernel_rfl) ?_
                go_wp2_with fail
                refine (treeMay_any m ra rc tr _ (H.out.tr.below E.out.bel) HBd.out).mono ?_
                intro e w5 hto
                obtain ⟨z, rfl, hz, hb⟩ := hto
                have HB5 := Lib.hid (E.out.step hb).bel
                have Hz := Lib.hid hz
                clear hz hb
                go_wp2_with fail
                go_ret
                exact ⟨z, rfl, ⟨fun h => ⟨Hcan.out, by show tips.length ≤ 64; omega, Hrise.out, Hwith.out, hT, by show F ≠ [] ↔ 0 < t; rw [ne_len]; omega, by show F ≠ [] ↔ tips ≠ []; rw [ne_len, ne_len]; omega, Hz.out.1 h⟩, fun h => Hz.out.2 h.tree⟩, HB5.out⟩
end Go.Proofs.YthdmoplclllhjaaGreat
