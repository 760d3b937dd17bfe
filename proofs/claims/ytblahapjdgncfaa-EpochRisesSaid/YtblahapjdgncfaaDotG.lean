/- dot.both. -/
import Derived.Test.YtblahapjdgncfaaDotF
namespace Go.Proofs.Ytblahapjdgncfaa
open Go.RowKit
set_option linter.unusedVariables false
set_option linter.unusedSimpArgs false

theorem join1_any (x y : Int) (w : World) : Calls Try.prog 64 #[.int .u64 x, .int .u64 y] w fun e w' => e = .returned (.int .u64 (max x y)) ∧ w = w' := by
  go_enter Try.func64, Try.ntmps64
  go_wp2
  go_ret
  exact ⟨rfl, rfl⟩
theorem meet1_any (x y : Int) (w : World) : Calls Try.prog 65 #[.int .u64 x, .int .u64 y] w fun e w' => e = .returned (.int .u64 (min x y)) ∧ w = w' := by
  go_enter Try.func65, Try.ntmps65
  go_wp2
  go_ret
  exact ⟨rfl, rfl⟩

/-- what is laid while the first map is gone through; while the second is -/
def part1 (op : Int → Int → Int) (fa : Ac → Option Value) (f g : Ac → Int) (left : Ac → Bool) (x : Ac) : Int := if (fa x).isSome = true ∧ left x = false then op (f x) (g x) else 0
def part2 (op : Int → Int → Int) (fa fb : Ac → Option Value) (f g : Ac → Int) (left : Ac → Bool) (x : Ac) : Int := if (fa x).isSome = true ∨ ((fb x).isSome = true ∧ left x = false) then op (f x) (g x) else 0
theorem part1_step {op : Int → Int → Int} {fa : Ac → Option Value} {f g : Ac → Int} {left : Ac → Bool} {c : Ac} {v : Value} (hv : fa c = some v) (x : Ac) :
    (if x = c then op (f c) (g c) else part1 op fa f g left x) = part1 op fa f g (fun y => left y && !decide (y = c)) x := by
  unfold part1
  by_cases e : x = c
  · subst e; simp [hv]
  · simp [e]
theorem part2_step {op : Int → Int → Int} {fa fb : Ac → Option Value} {f g : Ac → Int} {left : Ac → Bool} {c : Ac} {v : Value} (hv : fb c = some v) (x : Ac) :
    (if x = c then op (f c) (g c) else part2 op fa fb f g left x) = part2 op fa fb f g (fun y => left y && !decide (y = c)) x := by
  unfold part2
  by_cases e : x = c
  · subst e; simp [hv]
  · simp [e]

theorem RangeF.drew' {w : World} {P : Program} {k : TypeId} {α : Type} {mk : α → Value} {b n r : Nat} {f : α → Option Value} {left : α → Bool} {cnt : Nat} (h : RangeF w P k mk b r n f left cnt) : RangeF w.drew P k mk b r n f left cnt := h.chg (F := []) (Chg.drew _ _) (by simp) (by simp)
set_option maxHeartbeats 2000000 in
theorem both_any (fn : Nat) (op : Int → Int → Int) (h00 : op 0 0 = 0) (hop : ∀ x y w, Calls Try.prog fn #[.int .u64 x, .int .u64 y] w fun e w' => e = .returned (.int .u64 (op x y)) ∧ w = w')
    (he : ∀ args w, (callFunc fn args).run Try.prog w = .ok (.enter fn args) w)
    (ba bb na nb : Nat) (f g : Ac → Int) (w : World) (hA : NumsAt w ba na f) (hB : NumsAt w bb nb g) (hna : na ≤ 1000000) (hnb : nb ≤ 1000000) :
    Calls Try.prog 62 #[.map (some ba), .map (some bb), .func (.func fn) #[] #[]] w fun e w' => ∃ b n, e = .returned (.map (some b)) ∧ w.heap.size ≤ b ∧ n ≤ na + nb ∧ NumsAt w' b n (fun x => op (f x) (g x)) ∧ Below w.heap.size w w' := by
  have hmm := @run_makeMap Try.prog
  have la := hA.lt
  have lb := hB.lt
  have HA := Lib.hid hA
  have HB := Lib.hid hB
  have Hop := Lib.hid hop
  obtain ⟨fa, hMa, hfa⟩ := hA
  obtain ⟨fb, hMb, hfb⟩ := hB
  have HMa := Lib.hid hMa
  have HMb := Lib.hid hMb
  have Hfa := Lib.hid hfa
  have Hfb := Lib.hid hfb
  clear hMa hMb hfa hfb hop
  go_enter Try.func62, Try.ntmps62
  go_wp2_with (at_range; go_must (refine wpList_range_F keysA rfl _ _ rfl _ Try.underlying85 ba na fa rfl (HMa.out.alloc _) ?_))
  intro w0 cnt0 hrg0 hcn0 hg0 hs0
  have hb0 : Below w.heap.size w w0 := ((Below.refl _ w).alloc (Nat.le_refl _) _).grown hg0 (by simp) (by simp)
  have hN0 : NumsAt w0 w.heap.size 0 (part1 op fa f g (fun a => (fa a).isSome)) := by
    refine ((NumsAt.made w).chg (F := []) (Chg.grown hg0) (by simp)).congr fun a _ => ?_
    unfold part1
    rw [if_neg (fun h => by have h1 := h.1; have h2 := h.2; dsimp only at h2; rw [h1] at h2; cases h2)]
  have HN0 := Lib.hid hN0
  have Hb0 := Lib.hid hb0
  have Hrg0 := Lib.hid hrg0
  clear hg0 hs0 hN0 hb0 hrg0 hmm
  go_wp2_with fail
  go_loopw [8, 9] (fun _ _ wr => ∃ (left : Ac → Bool) (cnt n : Nat), RangeF wr Try.prog 31 mkA ba (w.heap.size + 1) na fa left cnt ∧ n + cnt ≤ na ∧ NumsAt wr w.heap.size n (part1 op fa f g left) ∧ Below w.heap.size w wr) (fun _ _ wr => wr.rangeLeft ba (w.heap.size + 1))
  case atStart => exact ⟨_, cnt0, 0, Hrg0.out, by omega, HN0.out, Hb0.out⟩
  case round =>
    obtain ⟨left, cnt, n, hrg, hcn, hN, hb⟩ := hrel
    have Hrg := Lib.hid hrg
    have HN := Lib.hid hN
    have Hb := Lib.hid hb
    have hs := hb.size
    have hrl := hrg.lt
    clear hN hb HN0 Hb0 Hrg0 hcn0
    go_wp2_with (at_next; go_must (refine wpList_next_A rfl _ rfl ba (w.heap.size + 1) na fa left cnt rfl hrg ?_ ?_))
    · intro hl
      clear hrg
      go_wp2_with (at_range; go_must (refine wpList_range_F keysA rfl _ _ rfl _ Try.underlying85 bb nb fb rfl (HMb.out.below Hb.out) ?_))
      intro v0 ct0 hrg0 hct0 hg0 hs0
      have hv0 : Below w.heap.size w v0 := Hb.out.grown hg0 hs (by simp)
      have hN0 : NumsAt v0 w.heap.size n (part2 op fa fb f g (fun a => (fb a).isSome)) := by
        refine (HN.out.chg (F := []) (Chg.grown hg0) (by simp)).congr fun a ha => ?_
        unfold part1 part2
        rw [hl a ha]
        by_cases h : (fa a).isSome = true
        · rw [if_pos ⟨h, rfl⟩, if_pos (.inl h)]
        · rw [if_neg (fun k => h k.1), if_neg (fun k => by
            rcases k with k | ⟨k1, k2⟩
            · exact h k
            · dsimp only at k2; rw [k1] at k2; cases k2)]
      have KN0 := Lib.hid hN0
      have Kb0 := Lib.hid hv0
      have Krg0 := Lib.hid hrg0
      have Hl := Lib.hid hl
      have hsz0 : wr.heap.size < v0.heap.size := by omega
      clear hg0 hs0 hN0 hv0 hrg0 hl
      go_wp2_with fail
      go_loopw [10, 11] (fun _ _ wx => ∃ (left : Ac → Bool) (cnt m : Nat), RangeF wx Try.prog 31 mkA bb wr.heap.size nb fb left cnt ∧ m + cnt ≤ na + nb ∧ NumsAt wx w.heap.size m (part2 op fa fb f g left) ∧ Below w.heap.size w wx) (fun _ _ wx => wx.rangeLeft bb wr.heap.size)
      case atStart => exact ⟨_, ct0, n, Krg0.out, by omega, KN0.out, Kb0.out⟩
      case round =>
        obtain ⟨left2, cnt2, m, hrg, hcm, hN, hb⟩ := hrel
        have Krg := Lib.hid hrg
        have KN := Lib.hid hN
        have Kb := Lib.hid hb
        have ks := hb.size
        have krl := hrg.lt
        clear hN hb KN0 Kb0 Krg0 hct0
        go_wp2_with (at_next; go_must (refine wpList_next_A rfl _ rfl _ _ _ _ _ _ rfl hrg ?_ ?_))
        · intro hl2
          clear hrg
          have KNe := Lib.hid (KN.out.congr (g' := fun x => op (f x) (g x)) fun a ha => by
            unfold part2
            rw [hl2 a ha]
            by_cases h : (fa a).isSome = true ∨ ((fb a).isSome = true ∧ false = false)
            · rw [if_pos h]
            · rw [if_neg h]
              have h1 : f a = 0 := by
                rcases Hfa.out a ha with ⟨_, e⟩ | e
                · exact e
                · exact absurd (.inl (by rw [e]; rfl)) h
              have h2 : g a = 0 := by
                rcases Hfb.out a ha with ⟨_, e⟩ | e
                · exact e
                · exact absurd (.inr ⟨by rw [e]; rfl, rfl⟩) h
              rw [h1, h2, h00])
          clear hl2
          go_wp2_with fail
          go_ret
          exact ⟨w.heap.size, m, rfl, Nat.le_refl _, by omega, KNe.out, Kb.out⟩
        · intro rr ii v w1 cnt1 hX hen
          clear hrg
          have hok := hX.ok
          have hlt1 := hX.lt
          obtain rfl : v = .int .u64 (g (rr, ii)) := by
            have h := hX.val
            rcases Hfb.out _ hok with ⟨h1, _⟩ | h1
            · rw [h1] at h; cases h
            · rw [h1] at h; exact (Option.some.inj h).symm
          have KX := Lib.hid hX
          have hc1 := Chg.grown hX.grown
          simp only [Option.toList_some] at hc1
          have hs1 := hc1.size
          have KN1 := Lib.hid ((KN.out.chg hc1 (by simp; omega)).alloc (.cells #[.int .u8 rr, .int .u32 ii] 31))
          have hb1 : Below w.heap.size w w1 := Kb.out.trans (hc1.below ks (by simpa using hs))
          have KA1 := Lib.hid ((HA.out.below hb1).alloc (.cells #[.int .u8 rr, .int .u32 ii] 31))
          have Krg1 := Lib.hid (hX.rng.alloc (.cells #[.int .u8 rr, .int .u32 ii] 31))
          have Kb1 := Lib.hid (hb1.alloc (by omega) (.cells #[.int .u8 rr, .int .u32 ii] 31))
          clear hX hc1 hb1
          go_wp2_with fail
          refine region_text [([0, 1, 2, 3, 4, 6], false), ([5], true), ([7], true), ([8], false)] mixed (by kernel_rfl) ?_
          simp only [wpSegs, List.map_cons, List.map_nil, List.getD_cons_succ, List.getD_cons_zero]
          go_wp2_with (at_lookup; go_must (refine wpList_look_N rfl _ _ rfl _ _ _ rfl KA1.out rr ii rfl hok ?_))
          refine And.intro (Agree.refl _) ?_
          go_wp2_with fail
          refine (Hop.out _ _ _).mono ?_
          rintro e w' ⟨rfl, rfl⟩
          go_wp2_with fail
          refine And.intro (Agree.refl _) ?_
          go_wp2_with (at_mapUpdate; go_must (refine wpList_update_N rfl _ _ _ rfl _ _ _ rfl KN1.out (by omega) rr ii _ rfl hok rfl ?_))
          intro w2 hN2 hC2
          have KN2 := Lib.hid (hN2.congr fun a _ => part2_step KX.out.val a)
          have Krg2 := Lib.hid (Krg1.out.drew'.chg hC2 (by simp; omega) (by simp; omega))
          have Kb2 := Lib.hid (Kb1.out.drew.trans (hC2.below (by simp; omega) (by simp)))
          clear hN2 hC2 hen
          go_wp2_with fail
          refine And.intro (by kernel_rfl) ?_
          go_wp2_with fail
          go_roundw
          case rel => exact ⟨_, cnt1, m + 1, Krg2.out, by omega, KN2.out, Kb2.out⟩
          case measure => rw [Krg2.out.left_eq, Krg.out.left_eq]; exact hlt1
    · intro rr ii v w1 cnt1 hX hen
      clear hrg
      have hok := hX.ok
      have hlt1 := hX.lt
      obtain rfl : v = .int .u64 (f (rr, ii)) := by
        have h := hX.val
        rcases Hfa.out _ hok with ⟨h1, _⟩ | h1
        · rw [h1] at h; cases h
        · rw [h1] at h; exact (Option.some.inj h).symm
      have HX := Lib.hid hX
      have hc1 : Chg [w.heap.size + 1] wr w1 := Chg.grown hX.grown
      have hs1 := hc1.size
      have HN1 := Lib.hid ((HN.out.chg hc1 (by simp)).alloc (.cells #[.int .u8 rr, .int .u32 ii] 31))
      have hb1 : Below w.heap.size w w1 := Hb.out.trans (hc1.below hs (by simp))
      have HB1 := Lib.hid ((HB.out.below hb1).alloc (.cells #[.int .u8 rr, .int .u32 ii] 31))
      have Hrg1 := Lib.hid (hX.rng.alloc (.cells #[.int .u8 rr, .int .u32 ii] 31))
      have Hb1 := Lib.hid (hb1.alloc (by omega) (.cells #[.int .u8 rr, .int .u32 ii] 31))
      clear hX hc1 hb1
      go_wp2_with fail
      refine region_text [([0, 1, 2, 3, 4, 5], false), ([6], true), ([7], true), ([8], false)] mixed (by kernel_rfl) ?_
      simp only [wpSegs, List.map_cons, List.map_nil, List.getD_cons_succ, List.getD_cons_zero]
      go_wp2_with (at_lookup; go_must (refine wpList_look_N rfl _ _ rfl _ _ _ rfl HB1.out rr ii rfl hok ?_))
      refine And.intro (Agree.refl _) ?_
      go_wp2_with fail
      refine (Hop.out _ _ _).mono ?_
      rintro e w' ⟨rfl, rfl⟩
      go_wp2_with fail
      refine And.intro (Agree.refl _) ?_
      go_wp2_with (at_mapUpdate; go_must (refine wpList_update_N rfl _ _ _ rfl _ _ _ rfl HN1.out (by omega) rr ii _ rfl hok rfl ?_))
      intro w2 hN2 hC2
      have HN2 := Lib.hid (hN2.congr fun a _ => part1_step HX.out.val a)
      have Hrg2 := Lib.hid (Hrg1.out.drew'.chg hC2 (by simp; omega) (by simp))
      have Hb2 := Lib.hid (Hb1.out.drew.trans (hC2.below (by simp; omega) (by simp)))
      clear hN2 hC2 hen
      go_wp2_with fail
      refine And.intro (by kernel_rfl) ?_
      go_wp2_with fail
      go_roundw
      case rel => exact ⟨_, cnt1, n + 1, Hrg2.out, by omega, HN2.out, Hb2.out⟩
      case measure => rw [Hrg2.out.left_eq, Hrg.out.left_eq]; exact hlt1
end Go.Proofs.Ytblahapjdgncfaa
