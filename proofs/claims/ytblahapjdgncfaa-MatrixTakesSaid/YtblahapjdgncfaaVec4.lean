/- The reference's MayActor, May, Less, Compare, Get, Has, Within. | The reference's Get, Has, Within. -/
import Derived.Test.YtblahapjdgncfaaVec3
/- DotM -/
namespace Go.Proofs.Ytblahapjdgncfaa
open Go.RowKit
set_option linter.unusedVariables false
set_option linter.unusedSimpArgs false

theorem rmayActor_any (r i : Int) (w : World) : Calls Try.prog 16 #[.agg #[.int .u8 r, .int .u32 i]] w fun e w' => e = .returned (.bool (mayA (r, i))) ∧ Below w.heap.size w w' := by
  have hB : ∀ o, Below w.heap.size w (w.alloc o) := fun o => (Below.refl _ _).alloc (Nat.le_refl _) _
  by_cases h1 : r < 16
  · by_cases h2 : 1 ≤ i
    · by_cases h3 : i ≤ 4
      · have e : mayA (r, i) = true := by simp [mayA, h1, h2, h3]
        rw [e]
        clear e
        go_enter Try.func16, Try.ntmps16
        go_wp2
        go_ret
        exact ⟨rfl, hB _⟩
      · have e : mayA (r, i) = false := by simp [mayA, h1, h2, h3] <;> omega
        rw [e]
        clear e
        go_enter Try.func16, Try.ntmps16
        go_wp2
        go_ret
        exact ⟨rfl, hB _⟩
    · have e : mayA (r, i) = false := by simp [mayA, h1, h2] <;> omega
      rw [e]
      clear e
      go_enter Try.func16, Try.ntmps16
      go_wp2
      go_ret
      exact ⟨rfl, hB _⟩
  · have e : mayA (r, i) = false := by simp [mayA, h1] <;> omega
    rw [e]
    clear e
    go_enter Try.func16, Try.ntmps16
    go_wp2
    go_ret
    exact ⟨rfl, hB _⟩

theorem rmay_any (r i s : Int) (w : World) : Calls Try.prog 18 #[.agg #[.int .u8 r, .int .u32 i, .int .u64 s]] w fun e w' => e = .returned (.bool (may ((r, i), s))) ∧ Below w.heap.size w w' := by
  have hm : ∀ b, mayA (r, i) = b → Calls Try.prog 16 #[.agg #[.int .u8 r, .int .u32 i]] (w.alloc (.cells #[.int .u8 r, .int .u32 i, .int .u64 s] 34)) fun e w' => e = .returned (.bool b) ∧ Below w.heap.size w w' ∧ (∀ j, w'.cell? ⟨w.heap.size, j, none⟩ = #[Value.int .u8 r, .int .u32 i, .int .u64 s][j]?) := by
    intro b hb
    refine (rmayActor_any r i _).mono ?_
    rintro e w' ⟨rfl, hbl⟩
    obtain ⟨h1, h2, h3⟩ := new1 hbl
    rw [hb]
    exact ⟨rfl, h3, cells_at h1⟩
  cases hA : mayA (r, i) with
  | false =>
    have hm' := hm _ hA
    have e : may ((r, i), s) = false := by simp [may, hA]
    rw [e]
    clear e hm hA
    go_enter Try.func18, Try.ntmps18
    go_wp2_with (go_at_call 16; refine hm'.mono ?_; rintro e w' ⟨rfl, hb, hc⟩)
    go_ret
    exact ⟨rfl, hb⟩
  | true =>
    have hm' := hm _ hA
    clear hm
    by_cases h1 : 1 ≤ s
    · by_cases h2 : s ≤ 1048576
      · have e : may ((r, i), s) = true := by simp [may, hA, h1, h2]
        rw [e]
        clear e hA
        go_enter Try.func18, Try.ntmps18
        go_wp2_with (go_at_call 16; refine hm'.mono ?_; rintro e w' ⟨rfl, hb, hc⟩)
        go_ret
        exact ⟨rfl, hb⟩
      · have e : may ((r, i), s) = false := by simp [may, hA, h1, h2] <;> omega
        have h2' : decide (s ≤ 1048576) = false := by simpa using h2
        rw [e]
        clear e hA
        go_enter Try.func18, Try.ntmps18
        go_wp2_with (go_at_call 16; refine hm'.mono ?_; rintro e w' ⟨rfl, hb, hc⟩)
        go_ret
        exact ⟨rfl, hb⟩
    · have e : may ((r, i), s) = false := by simp [may, hA, h1] <;> omega
      rw [e]
      clear e hA
      go_enter Try.func18, Try.ntmps18
      go_wp2_with (go_at_call 16; refine hm'.mono ?_; rintro e w' ⟨rfl, hb, hc⟩)
      go_ret
      exact ⟨rfl, hb⟩


theorem rless_any (r i s r' i' s' : Int) (w : World) : Calls Try.prog 69 #[.agg #[.int .u8 r, .int .u32 i, .int .u64 s], .agg #[.int .u8 r', .int .u32 i', .int .u64 s']] w fun e w' => e = .returned (.bool (lessD ((r, i), s) ((r', i'), s'))) ∧ Below w.heap.size w w' := by
  have hB : ∀ o o', Below w.heap.size w ((w.alloc o).alloc o') := fun o o' => ((Below.refl _ _).alloc (Nat.le_refl _) _).alloc (by simp) _
  by_cases h1 : r = r'
  · subst h1
    by_cases h2 : i = i'
    · subst h2
      have e : lessD ((r, i), s) ((r, i), s') = decide (s < s') := by simp [lessD]
      rw [e]
      clear e
      go_enter Try.func69, Try.ntmps69
      go_wp2
      go_ret
      exact ⟨rfl, hB _ _⟩
    · have e : lessD ((r, i), s) ((r, i'), s') = decide (i < i') := by simp [lessD, h2]
      have h2' : (i != i') = true := by simpa using h2
      rw [e]
      clear e
      go_enter Try.func69, Try.ntmps69
      go_wp2
      go_ret
      exact ⟨rfl, hB _ _⟩
  · have e : lessD ((r, i), s) ((r', i'), s') = decide (r < r') := by simp [lessD, h1]
    have h1' : (r != r') = true := by simpa using h1
    rw [e]
    clear e
    go_enter Try.func69, Try.ntmps69
    go_wp2
    go_ret
    exact ⟨rfl, hB _ _⟩

theorem rcompare_any (r i s r' i' s' : Int) (w : World) : Calls Try.prog 20 #[.agg #[.int .u8 r, .int .u32 i, .int .u64 s], .agg #[.int .u8 r', .int .u32 i', .int .u64 s']] w fun e w' => e = .returned (.int .i64 (cmpD ((r, i), s) ((r', i'), s'))) ∧ Below w.heap.size w w' := by
  go_enter Try.func20, Try.ntmps20
  go_wp2_with fail
  refine (rless_any r i s r' i' s' _).mono ?_
  rintro e w1 ⟨rfl, hb1⟩
  obtain ⟨hx0, hx1, hz, hB1⟩ := new2 hb1
  have c0 := cells_at hx0
  have c1 := cells_at hx1
  cases hl : lessD ((r, i), s) ((r', i'), s') with
  | true =>
    have He := Lib.hid (show cmpD ((r, i), s) ((r', i'), s') = -1 by simp [cmpD, hl])
    clear hl hb1 hx0 hx1
    go_wp2_with fail
    go_ret
    exact ⟨by rw [He.out]; rfl, hB1⟩
  | false =>
    clear hb1 hx0 hx1
    go_wp2_with fail
    refine (rless_any r' i' s' r i s _).mono ?_
    rintro e w2 ⟨rfl, hb2⟩
    have hB2 : Below w.heap.size w w2 := hB1.trans (hb2.mono hB1.size)
    cases hl2 : lessD ((r', i'), s') ((r, i), s) with
    | true =>
      have He := Lib.hid (show cmpD ((r, i), s) ((r', i'), s') = 1 by simp [cmpD, hl, hl2])
      clear hl hl2 hb2
      go_wp2_with fail
      go_ret
      exact ⟨by rw [He.out]; rfl, hB2⟩
    | false =>
      have He := Lib.hid (show cmpD ((r, i), s) ((r', i'), s') = 0 by simp [cmpD, hl, hl2])
      clear hl hl2 hb2
      go_wp2_with fail
      go_ret
      exact ⟨by rw [He.out]; rfl, hB2⟩
end Go.Proofs.Ytblahapjdgncfaa

/- DotN -/
namespace Go.Proofs.Ytblahapjdgncfaa
open Go.RowKit
set_option linter.unusedVariables false
set_option linter.unusedSimpArgs false

set_option maxHeartbeats 2000000 in
theorem rget_any (a : Option Addr) (c : Nat) (v : List Dt) (r i : Int) (w : World) (hv : Vec w a c v) (hn : v.length ≤ 1000000) :
    Calls Try.prog 23 #[.slice a v.length c, .agg #[.int .u8 r, .int .u32 i]] w fun e w' => e = .returned (.int .u64 (getN v (r, i))) ∧ Below w.heap.size w w' := by
  have Hv := Lib.hid (hv.below ((Below.refl _ w).alloc (Nat.le_refl _) (.cells #[.int .u8 r, .int .u32 i] 31)))
  clear hv
  go_enter Try.func23, Try.ntmps23
  go_wp2_with fail
  go_loopw [5, 6] (fun n j wr => ∃ k : Nat, k ≤ v.length ∧ j = .int .i64 k ∧ n = .int .u64 (getN (v.take k) (r, i)) ∧ Below (w.heap.size + 1) (w.alloc (.cells #[.int .u8 r, .int .u32 i] 31)) wr) (fun _ j _ => v.length - (intOf j).toNat)
  case atStart => exact ⟨0, Nat.zero_le _, rfl, by simp [getN], Below.refl _ _⟩
  case round =>
    obtain ⟨k, hk, rfl, rfl, hb⟩ := hrel
    have Hb := Lib.hid hb
    have hs : w.heap.size + 1 ≤ wr.heap.size := by have := hb.size; simpa using this
    clear hb
    by_cases hlt : k < v.length
    · obtain ⟨⟨⟨r1, i1⟩, s1⟩, hx⟩ : ∃ x, v[k]? = some x := ⟨v[k], by simp [hlt]⟩
      have Hb' : Hid (Below (w.alloc (.cells #[.int .u8 r, .int .u32 i] 31)).heap.size (w.alloc (.cells #[.int .u8 r, .int .u32 i] 31)) wr) := by rw [World.size_alloc]; exact Hb
      obtain ⟨ad, had, c0, c1, c2, hl0⟩ := (Hv.out.below Hb'.out).at hx
      have had' := had
      subst had'
      have Hs := Lib.hid (getN_snoc (v.take k) ((r1, i1), s1) (r, i))
      have Hx := Lib.hid (take_snoc' hx)
      have Hxx := Lib.hid hx
      dsimp only at c0 c1 c2
      clear hx had
      go_wp2_with fail
      refine region_text [([0, 1, 2, 3, 4, 5, 6, 7, 8, 9, 10, 11, 12, 13, 14, 15, 16, 17, 18, 19, 20, 21, 22], false)] mixed (by kernel_rfl) ?_
      simp only [wpSegs, List.map_cons, List.map_nil, List.getD_cons_succ, List.getD_cons_zero]
      go_wp2_with fail
      refine (rmay_any r1 i1 s1 _).mono ?_
      rintro e w1 ⟨rfl, hb1⟩
      have hb1' : Below wr.heap.size wr w1 := ((Below.refl _ wr).drew).trans hb1
      have Hb1 := Lib.hid (Hb.out.trans (hb1'.mono hs))
      have Hb1' : Hid (Below (w.alloc (.cells #[.int .u8 r, .int .u32 i] 31)).heap.size (w.alloc (.cells #[.int .u8 r, .int .u32 i] 31)) w1) := by rw [World.size_alloc]; exact Hb1
      obtain ⟨ad', had2, c0, c1, c2, hl0⟩ := (Hv.out.below Hb1'.out).at Hxx.out
      obtain rfl : ad = ad' := by simpa using had2
      have hbox := (Hb1.out.block w.heap.size (by omega)).trans (heap_new w _)
      have cb := cells_at hbox
      dsimp only at c0 c1 c2
      clear hb1 hb1' had2 hbox Hb Hb' Hb1'
      cases hm : may ((r1, i1), s1) with
      | false =>
        have Hm := Lib.hid hm
        clear hm
        go_wp2_with fail
        refine And.intro (by kernel_rfl) ?_
        go_wp2_with fail
        go_roundw
        case rel => exact ⟨k + 1, by omega, by go_num, by rw [Hx.out, Hs.out]; rw [if_neg (fun h => by have := h.1; rw [Hm.out] at this; cases this)], Hb1.out⟩
        case measure => simp [intOf]; omega
      | true =>
        have Hm := Lib.hid hm
        clear hm
        by_cases hr : r1 = r
        · subst hr
          by_cases hi : i1 = i
          · subst hi
            by_cases hgt : getN (v.take k) (r1, i1) < s1
            · go_wp2_with fail
              refine And.intro (by kernel_rfl) ?_
              go_wp2_with fail
              go_roundw
              case rel => exact ⟨k + 1, by omega, by go_num, by rw [Hx.out, Hs.out]; rw [if_pos (by simp [Hm.out])]; show _ = Value.int .u64 (max _ s1); rw [show max (getN (v.take k) (r1, i1)) s1 = s1 by omega], Hb1.out⟩
              case measure => simp [intOf]; omega
            · have hgt' : decide (getN (v.take k) (r1, i1) < s1) = false := by simpa using hgt
              go_wp2_with fail
              refine And.intro (by kernel_rfl) ?_
              go_wp2_with fail
              go_roundw
              case rel => exact ⟨k + 1, by omega, by go_num, by rw [Hx.out, Hs.out]; rw [if_pos (by simp [Hm.out])]; show _ = Value.int .u64 (max _ s1); rw [show max (getN (v.take k) (r1, i1)) s1 = getN (v.take k) (r1, i1) by omega], Hb1.out⟩
              case measure => simp [intOf]; omega
          · have hne : ¬ ((r1, i1) : Ac) = (r1, i) := by simpa using hi
            have Hne := Lib.hid hne
            clear hne
            go_wp2_with fail
            refine And.intro (by kernel_rfl) ?_
            go_wp2_with fail
            go_roundw
            case rel => exact ⟨k + 1, by omega, by go_num, by rw [Hx.out, Hs.out]; rw [if_neg (fun h => Hne.out h.2)], Hb1.out⟩
            case measure => simp [intOf]; omega
        · have hne : ¬ ((r1, i1) : Ac) = (r, i) := fun h => hr (by simpa using congrArg Prod.fst h)
          have Hne := Lib.hid hne
          clear hne
          go_wp2_with fail
          refine And.intro (by kernel_rfl) ?_
          go_wp2_with fail
          go_roundw
          case rel => exact ⟨k + 1, by omega, by go_num, by rw [Hx.out, Hs.out]; rw [if_neg (fun h => Hne.out h.2)], Hb1.out⟩
          case measure => simp [intOf]; omega
    · have e : v.take k = v := List.take_of_length_le (by omega)
      rw [e]
      clear e
      go_wp2_with fail
      go_ret
      exact ⟨rfl, ((Below.refl _ w).alloc (Nat.le_refl _) _).trans (Hb.out.mono (by omega))⟩

set_option maxHeartbeats 1000000 in
theorem rhas_any (a : Option Addr) (c : Nat) (v : List Dt) (r i s : Int) (w : World) (hv : Vec w a c v) (hn : v.length ≤ 1000000) :
    Calls Try.prog 25 #[.slice a v.length c, .agg #[.int .u8 r, .int .u32 i, .int .u64 s]] w fun e w' => e = .returned (.bool (hasV v ((r, i), s))) ∧ Below w.heap.size w w' := by
  have Hv := Lib.hid hv
  clear hv
  go_enter Try.func25, Try.ntmps25
  go_wp2_with fail
  refine region_text [([0, 1, 2, 3, 4, 5, 6, 7], false), ([8], true), ([9, 10, 11], false)] mixed (by kernel_rfl) ?_
  simp only [wpSegs, List.map_cons, List.map_nil, List.getD_cons_succ, List.getD_cons_zero]
  go_wp2_with fail
  refine (rmay_any r i s _).mono ?_
  rintro e w1 ⟨rfl, hb1⟩
  have hb1' : Below (w.alloc (.cells #[.int .u8 r, .int .u32 i, .int .u64 s] 34)).heap.size (w.alloc (.cells #[.int .u8 r, .int .u32 i, .int .u64 s] 34)) w1 := ((Below.refl _ _).drew).trans hb1
  obtain ⟨hx0, hz, hB1⟩ := new1 hb1'
  have c0 := cells_at hx0
  have HB1 := Lib.hid hB1
  clear hb1 hb1' hx0 hB1
  cases hm : may ((r, i), s) with
  | false =>
    have He := Lib.hid (show hasV v ((r, i), s) = false by simp [hasV, hm])
    clear hm
    go_wp2_with fail
    refine And.intro (Agree.refl _) ?_
    go_wp2_with fail
    refine And.intro (by kernel_rfl) ?_
    go_wp2_with fail
    go_ret
    exact ⟨by rw [He.out]; rfl, HB1.out⟩
  | true =>
    have He := Lib.hid (show hasV v ((r, i), s) = decide (s ≤ getN v (r, i)) by simp [hasV, hm])
    clear hm
    go_wp2_with fail
    refine (rget_any a c v r i _ (Hv.out.below HB1.out) hn).mono ?_
    rintro e w2 ⟨rfl, hb2⟩
    have HB2 := Lib.hid (HB1.out.trans (hb2.mono HB1.out.size))
    go_wp2_with fail
    refine And.intro (Agree.of_below hb2) ?_
    clear hb2
    go_wp2_with fail
    refine And.intro (by kernel_rfl) ?_
    go_wp2_with fail
    go_ret
    exact ⟨by rw [He.out]; rfl, HB2.out⟩

set_option maxHeartbeats 1000000 in
theorem has_any (a : Option Addr) (c : Nat) (v : List Dt) (r i s : Int) (w : World) (hv : Vec w a c v) (hn : v.length ≤ 1000000) (hok : okV v) (hA : okA (r, i)) :
    Calls Try.prog 24 #[.slice a v.length c, .agg #[.int .u8 r, .int .u32 i, .int .u64 s]] w fun e w' => e = .returned (.bool (hasV v ((r, i), s))) ∧ Below w.heap.size w w' := by
  have Hv := Lib.hid hv
  clear hv
  go_enter Try.func24, Try.ntmps24
  go_wp2_with fail
  refine region_text [([0, 1, 2, 3, 4, 5, 6, 7], false), ([8], true), ([9, 10, 11], false)] mixed (by kernel_rfl) ?_
  simp only [wpSegs, List.map_cons, List.map_nil, List.getD_cons_succ, List.getD_cons_zero]
  go_wp2_with fail
  refine (may_any r i s _).mono ?_
  rintro e w1 ⟨rfl, hb1⟩
  have hb1' : Below (w.alloc (.cells #[.int .u8 r, .int .u32 i, .int .u64 s] 34)).heap.size (w.alloc (.cells #[.int .u8 r, .int .u32 i, .int .u64 s] 34)) w1 := ((Below.refl _ _).drew).trans hb1
  obtain ⟨hx0, hz, hB1⟩ := new1 hb1'
  have c0 := cells_at hx0
  have HB1 := Lib.hid hB1
  clear hb1 hb1' hx0 hB1
  cases hm : may ((r, i), s) with
  | false =>
    have He := Lib.hid (show hasV v ((r, i), s) = false by simp [hasV, hm])
    clear hm
    go_wp2_with fail
    refine And.intro (Agree.refl _) ?_
    go_wp2_with fail
    refine And.intro (by kernel_rfl) ?_
    go_wp2_with fail
    go_ret
    exact ⟨by rw [He.out]; rfl, HB1.out⟩
  | true =>
    have He := Lib.hid (show hasV v ((r, i), s) = decide (s ≤ getN v (r, i)) by simp [hasV, hm])
    clear hm
    go_wp2_with fail
    refine (get_any a c v r i _ (Hv.out.below HB1.out) hok hn hA).mono ?_
    rintro e w2 ⟨rfl, hb2⟩
    have HB2 := Lib.hid (HB1.out.trans (hb2.mono HB1.out.size))
    go_wp2_with fail
    refine And.intro (Agree.of_below hb2) ?_
    clear hb2
    go_wp2_with fail
    refine And.intro (by kernel_rfl) ?_
    go_wp2_with fail
    go_ret
    exact ⟨by rw [He.out]; rfl, HB2.out⟩

set_option maxHeartbeats 1000000 in
theorem rwithin_any (a b : Option Addr) (c d : Nat) (v u : List Dt) (w : World) (hv : Vec w a c v) (hu : Vec w b d u) (hok : okV v) (hn : v.length ≤ 1000000) (hm : u.length ≤ 1000000) :
    Calls Try.prog 26 #[.slice a v.length c, .slice b u.length d] w fun e w' => e = .returned (.bool (withinV v u)) ∧ Below w.heap.size w w' := by
  have Hv := Lib.hid hv
  have Hu := Lib.hid hu
  clear hv hu
  go_enter Try.func26, Try.ntmps26
  go_wp2_with fail
  go_loopw [5] (fun j wr => ∃ k : Nat, k ≤ v.length ∧ j = .int .i64 k ∧ Hid (∀ d ∈ v.take k, may d = true → d.2 ≤ getN u d.1) ∧ Below w.heap.size w wr) (fun j _ => v.length - (intOf j).toNat)
  case atStart => exact ⟨0, Nat.zero_le _, rfl, Lib.hid (by simp), Below.refl _ _⟩
  case round =>
    obtain ⟨k, hk, rfl, hle, hb⟩ := hrel
    have Hb := Lib.hid hb
    have hs := hb.size
    clear hb
    by_cases hlt : k < v.length
    · obtain ⟨⟨⟨r, i⟩, s⟩, hx⟩ : ∃ x, v[k]? = some x := ⟨v[k], by simp [hlt]⟩
      obtain ⟨ad, had, c0, c1, c2, hl0⟩ := (Hv.out.below Hb.out).at hx
      have had' := had
      subst had'
      have Hx := Lib.hid hx
      dsimp only at c0 c1 c2
      clear hx had
      go_wp2_with fail
      refine region_text [([0, 1, 2, 3, 4, 5, 6, 7, 8, 9, 10, 11, 12, 13, 14, 15, 16], false), ([17], true), ([18, 19], false)] mixed (by kernel_rfl) ?_
      simp only [wpSegs, List.map_cons, List.map_nil, List.getD_cons_succ, List.getD_cons_zero]
      go_wp2_with fail
      refine (rmay_any r i s _).mono ?_
      rintro e w1 ⟨rfl, hb1⟩
      have hb1' : Below wr.heap.size wr w1 := ((Below.refl _ wr).drew).trans hb1
      have Hb1 := Lib.hid (Hb.out.trans (hb1'.mono hs))
      obtain ⟨ad', had2, c0, c1, c2, hl0⟩ := (Hv.out.below Hb1.out).at Hx.out
      obtain rfl : ad = ad' := by simpa using had2
      dsimp only at c0 c1 c2
      clear hb1 hb1' had2 Hb
      cases hm : may ((r, i), s) with
      | false =>
        have Hle : Hid (∀ d ∈ v.take (k + 1), may d = true → d.2 ≤ getN u d.1) := Lib.hid fun d hd hmd => by
          rw [take_snoc' Hx.out, List.mem_append, List.mem_singleton] at hd
          rcases hd with hd | rfl
          · exact hle.out d hd hmd
          · rw [hm] at hmd; cases hmd
        clear hm
        go_wp2_with fail
        refine And.intro (Agree.refl _) ?_
        go_wp2_with fail
        refine And.intro (by kernel_rfl) ?_
        go_wp2_with fail
        go_roundw
        case rel => exact ⟨k + 1, by omega, by go_num, Hle, Hb1.out⟩
        case measure => simp [intOf]; omega
      | true =>
        go_wp2_with fail
        refine (rget_any b d u r i _ (Hu.out.below Hb1.out) (by omega)).mono ?_
        rintro e w2 ⟨rfl, hb2⟩
        have Hb2 := Lib.hid (Hb1.out.trans (hb2.mono Hb1.out.size))
        have Hm := Lib.hid hm
        clear hm
        go_wp2_with fail
        refine And.intro (Agree.of_below hb2) ?_
        clear hb2
        by_cases hgt : getN u (r, i) < s
        · have Hw := Lib.hid (show withinV v u = false by
            cases h : withinV v u with
            | false => rfl
            | true => have := (within_dots hok).1 h _ (List.mem_of_getElem? Hx.out) Hm.out; dsimp only at this; omega)
          go_wp2_with fail
          refine And.intro (by kernel_rfl) ?_
          go_wp2_with fail
          go_ret
          exact ⟨by rw [Hw.out]; rfl, Hb2.out⟩
        · have hgt' : decide (getN u (r, i) < s) = false := by simpa using hgt
          have Hle : Hid (∀ d ∈ v.take (k + 1), may d = true → d.2 ≤ getN u d.1) := Lib.hid fun d hd hmd => by
            rw [take_snoc' Hx.out, List.mem_append, List.mem_singleton] at hd
            rcases hd with hd | rfl
            · exact hle.out d hd hmd
            · dsimp only; omega
          go_wp2_with fail
          refine And.intro (by kernel_rfl) ?_
          go_wp2_with fail
          go_roundw
          case rel => exact ⟨k + 1, by omega, by go_num, Hle, Hb2.out⟩
          case measure => simp [intOf]; omega
    · have Hw := Lib.hid (show withinV v u = true from (within_dots hok).2 fun d hd hmd => hle.out d (by rw [List.take_of_length_le (by omega)]; exact hd) hmd)
      go_wp2_with fail
      go_ret
      exact ⟨by rw [Hw.out]; rfl, Hb.out⟩
end Go.Proofs.Ytblahapjdgncfaa
