/- The reference's MayActor, May, Less, Compare, Get, Has, Within. | The reference's Get, Has, Within. | Parts of slices of dots: x[:j], x[j:]. | The reference's Canon. | The reference's Join, Meet; dot.Next. | (see Vec1..Vec5) | (see Vec1..Vec5) | (see Vec1..Vec5) -/
import Derived.Test.YtaandcblndldmaaGreatVec3
import Derived.Test.YtaandcblndldmaaGreatVec1
import Derived.Deep.CutBlock
/- Vec4 -/
/- DotM -/
namespace Go.Proofs.YtaandcblndldmaaGreat
open Go.RowKit
set_option linter.unusedVariables false
set_option linter.unusedSimpArgs false

theorem rmayActor_any (r i : Int) (w : World) : Calls Tryz.prog 96 #[.agg #[.int .u8 r, .int .u32 i]] w fun e w' => e = .returned (.bool (mayA (r, i))) ∧ Below w.heap.size w w' := by
  have hB : ∀ o, Below w.heap.size w (w.alloc o) := fun o => (Below.refl _ _).alloc (Nat.le_refl _) _
  by_cases h1 : r < 16
  · by_cases h2 : 1 ≤ i
    · by_cases h3 : i ≤ 4
      · have e : mayA (r, i) = true := by simp [mayA, h1, h2, h3]
        rw [e]
        clear e
        go_enter Tryz.func96, Tryz.ntmps96
        go_wp2
        go_ret
        exact ⟨rfl, hB _⟩
      · have e : mayA (r, i) = false := by simp [mayA, h1, h2, h3] <;> omega
        rw [e]
        clear e
        go_enter Tryz.func96, Tryz.ntmps96
        go_wp2
        go_ret
        exact ⟨rfl, hB _⟩
    · have e : mayA (r, i) = false := by simp [mayA, h1, h2] <;> omega
      rw [e]
      clear e
      go_enter Tryz.func96, Tryz.ntmps96
      go_wp2
      go_ret
      exact ⟨rfl, hB _⟩
  · have e : mayA (r, i) = false := by simp [mayA, h1] <;> omega
    rw [e]
    clear e
    go_enter Tryz.func96, Tryz.ntmps96
    go_wp2
    go_ret
    exact ⟨rfl, hB _⟩

theorem rmay_any (r i s : Int) (w : World) : Calls Tryz.prog 68 #[.agg #[.int .u8 r, .int .u32 i, .int .u64 s]] w fun e w' => e = .returned (.bool (may ((r, i), s))) ∧ Below w.heap.size w w' := by
  have hm : ∀ b, mayA (r, i) = b → Calls Tryz.prog 96 #[.agg #[.int .u8 r, .int .u32 i]] (w.alloc (.cells #[.int .u8 r, .int .u32 i, .int .u64 s] 49)) fun e w' => e = .returned (.bool b) ∧ Below w.heap.size w w' ∧ (∀ j, w'.cell? ⟨w.heap.size, j, none⟩ = #[Value.int .u8 r, .int .u32 i, .int .u64 s][j]?) := by
    intro b hb
    refine (rmayActor_any r i _).mono ?_
    rintro e w' ⟨rfl, hbl⟩
    obtain ⟨h1, h2, h3⟩ := new1 hbl
    rw [hb]
    exact ⟨rfl, h3, cells_at h1⟩
  cases hA : mayA (r, i) with
  | false =>
    have hm' := hm _ hA
    have e : may ((r, i), s) = false := by simp [may, hA]
    rw [e]
    clear e hm hA
    go_enter Tryz.func68, Tryz.ntmps68
    go_wp2_with (go_at_call 96; refine hm'.mono ?_; rintro e w' ⟨rfl, hb, hc⟩)
    go_ret
    exact ⟨rfl, hb⟩
  | true =>
    have hm' := hm _ hA
    clear hm
    by_cases h1 : 1 ≤ s
    · by_cases h2 : s ≤ 1048576
      · have e : may ((r, i), s) = true := by simp [may, hA, h1, h2]
        rw [e]
        clear e hA
        go_enter Tryz.func68, Tryz.ntmps68
        go_wp2_with (go_at_call 96; refine hm'.mono ?_; rintro e w' ⟨rfl, hb, hc⟩)
        go_ret
        exact ⟨rfl, hb⟩
      · have e : may ((r, i), s) = false := by simp [may, hA, h1, h2] <;> omega
        have h2' : decide (s ≤ 1048576) = false := by simpa using h2
        rw [e]
        clear e hA
        go_enter Tryz.func68, Tryz.ntmps68
        go_wp2_with (go_at_call 96; refine hm'.mono ?_; rintro e w' ⟨rfl, hb, hc⟩)
        go_ret
        exact ⟨rfl, hb⟩
    · have e : may ((r, i), s) = false := by simp [may, hA, h1] <;> omega
      rw [e]
      clear e hA
      go_enter Tryz.func68, Tryz.ntmps68
      go_wp2_with (go_at_call 96; refine hm'.mono ?_; rintro e w' ⟨rfl, hb, hc⟩)
      go_ret
      exact ⟨rfl, hb⟩


theorem rless_any (r i s r' i' s' : Int) (w : World) : Calls Tryz.prog 99 #[.agg #[.int .u8 r, .int .u32 i, .int .u64 s], .agg #[.int .u8 r', .int .u32 i', .int .u64 s']] w fun e w' => e = .returned (.bool (lessD ((r, i), s) ((r', i'), s'))) ∧ Below w.heap.size w w' := by
  have hB : ∀ o o', Below w.heap.size w ((w.alloc o).alloc o') := fun o o' => ((Below.refl _ _).alloc (Nat.le_refl _) _).alloc (by simp) _
  by_cases h1 : r = r'
  · subst h1
    by_cases h2 : i = i'
    · subst h2
      have e : lessD ((r, i), s) ((r, i), s') = decide (s < s') := by simp [lessD]
      rw [e]
      clear e
      go_enter Tryz.func99, Tryz.ntmps99
      go_wp2
      go_ret
      exact ⟨rfl, hB _ _⟩
    · have e : lessD ((r, i), s) ((r, i'), s') = decide (i < i') := by simp [lessD, h2]
      have h2' : (i != i') = true := by simpa using h2
      rw [e]
      clear e
      go_enter Tryz.func99, Tryz.ntmps99
      go_wp2
      go_ret
      exact ⟨rfl, hB _ _⟩
  · have e : lessD ((r, i), s) ((r', i'), s') = decide (r < r') := by simp [lessD, h1]
    have h1' : (r != r') = true := by simpa using h1
    rw [e]
    clear e
    go_enter Tryz.func99, Tryz.ntmps99
    go_wp2
    go_ret
    exact ⟨rfl, hB _ _⟩

end Go.Proofs.YtaandcblndldmaaGreat

/- DotN -/
namespace Go.Proofs.YtaandcblndldmaaGreat
open Go.RowKit
set_option linter.unusedVariables false
set_option linter.unusedSimpArgs false

set_option maxHeartbeats 2000000 in
theorem rget_any (a : Option Addr) (c : Nat) (v : List Dt) (r i : Int) (w : World) (hv : Vec w a c v) (hn : v.length ≤ 1100000) :
    Calls Tryz.prog 23 #[.slice a v.length c, .agg #[.int .u8 r, .int .u32 i]] w fun e w' => e = .returned (.int .u64 (getN v (r, i))) ∧ Below w.heap.size w w' := by
  have Hv := Lib.hid (hv.below ((Below.refl _ w).alloc (Nat.le_refl _) (.cells #[.int .u8 r, .int .u32 i] 24)))
  clear hv
  go_enter Tryz.func23, Tryz.ntmps23
  go_wp2_with fail
  go_loopw [5, 6] (fun n j wr => ∃ k : Nat, k ≤ v.length ∧ j = .int .i64 k ∧ n = .int .u64 (getN (v.take k) (r, i)) ∧ Below (w.heap.size + 1) (w.alloc (.cells #[.int .u8 r, .int .u32 i] 24)) wr) (fun _ j _ => v.length - (intOf j).toNat)
  case atStart => exact ⟨0, Nat.zero_le _, rfl, by simp [getN], Below.refl _ _⟩
  case round =>
    obtain ⟨k, hk, rfl, rfl, hb⟩ := hrel
    have Hb := Lib.hid hb
    have hs : w.heap.size + 1 ≤ wr.heap.size := by have := hb.size; simpa using this
    clear hb
    by_cases hlt : k < v.length
    · obtain ⟨⟨⟨r1, i1⟩, s1⟩, hx⟩ : ∃ x, v[k]? = some x := ⟨v[k], by simp [hlt]⟩
      have Hb' : Hid (Below (w.alloc (.cells #[.int .u8 r, .int .u32 i] 24)).heap.size (w.alloc (.cells #[.int .u8 r, .int .u32 i] 24)) wr) := by rw [World.size_alloc]; exact Hb
      obtain ⟨ad, had, c0, c1, c2, hl0⟩ := (Hv.out.below Hb'.out).at hx
      have had' := had
      subst had'
      have Hs := Lib.hid (getN_snoc (v.take k) ((r1, i1), s1) (r, i))
      have Hx := Lib.hid (take_snoc' hx)
      have Hxx := Lib.hid hx
      dsimp only at c0 c1 c2
      clear hx had
      go_wp2_with fail
      refine region_text [([0, 1, 2, 3, 4, 5, 6, 7, 8, 9, 10, 11, 12, 13, 14, 15, 16, 17, 18, 19, 20, 21, 22], false)] mixed (by kernel_rfl) ?_
      simp only [wpSegs, List.map_cons, List.map_nil, List.getD_cons_succ, List.getD_cons_zero]
      go_wp2_with fail
      refine (rmay_any r1 i1 s1 _).mono ?_
      rintro e w1 ⟨rfl, hb1⟩
      have hb1' : Below wr.heap.size wr w1 := ((Below.refl _ wr).drew).trans hb1
      have Hb1 := Lib.hid (Hb.out.trans (hb1'.mono hs))
      have Hb1' : Hid (Below (w.alloc (.cells #[.int .u8 r, .int .u32 i] 24)).heap.size (w.alloc (.cells #[.int .u8 r, .int .u32 i] 24)) w1) := by rw [World.size_alloc]; exact Hb1
      obtain ⟨ad', had2, c0, c1, c2, hl0⟩ := (Hv.out.below Hb1'.out).at Hxx.out
      obtain rfl : ad = ad' := by simpa using had2
      have hbox := (Hb1.out.block w.heap.size (by omega)).trans (heap_new w _)
      have cb := cells_at hbox
      dsimp only at c0 c1 c2
      clear hb1 hb1' had2 hbox Hb Hb' Hb1'
      cases hm : may ((r1, i1), s1) with
      | false =>
        have Hm := Lib.hid hm
        clear hm
        go_wp2_with fail
        refine And.intro (by kernel_rfl) ?_
        go_wp2_with fail
        go_roundw
        case rel => exact ⟨k + 1, by omega, by go_num, by rw [Hx.out, Hs.out]; rw [if_neg (fun h => by have := h.1; rw [Hm.out] at this; cases this)], Hb1.out⟩
        case measure => simp [intOf]; omega
      | true =>
        have Hm := Lib.hid hm
        clear hm
        by_cases hr : r1 = r
        · subst hr
          by_cases hi : i1 = i
          · subst hi
            by_cases hgt : getN (v.take k) (r1, i1) < s1
            · go_wp2_with fail
              refine And.intro (by kernel_rfl) ?_
              go_wp2_with fail
              go_roundw
              case rel => exact ⟨k + 1, by omega, by go_num, by rw [Hx.out, Hs.out]; rw [if_pos (by simp [Hm.out])]; show _ = Value.int .u64 (max _ s1); rw [show max (getN (v.take k) (r1, i1)) s1 = s1 by omega], Hb1.out⟩
              case measure => simp [intOf]; omega
            · have hgt' : decide (getN (v.take k) (r1, i1) < s1) = false := by simpa using hgt
              go_wp2_with fail
              refine And.intro (by kernel_rfl) ?_
              go_wp2_with fail
              go_roundw
              case rel => exact ⟨k + 1, by omega, by go_num, by rw [Hx.out, Hs.out]; rw [if_pos (by simp [Hm.out])]; show _ = Value.int .u64 (max _ s1); rw [show max (getN (v.take k) (r1, i1)) s1 = getN (v.take k) (r1, i1) by omega], Hb1.out⟩
              case measure => simp [intOf]; omega
          · have hne : ¬ ((r1, i1) : Ac) = (r1, i) := by simpa using hi
            have Hne := Lib.hid hne
            clear hne
            go_wp2_with fail
            refine And.intro (by kernel_rfl) ?_
            go_wp2_with fail
            go_roundw
            case rel => exact ⟨k + 1, by omega, by go_num, by rw [Hx.out, Hs.out]; rw [if_neg (fun h => Hne.out h.2)], Hb1.out⟩
            case measure => simp [intOf]; omega
        · have hne : ¬ ((r1, i1) : Ac) = (r, i) := fun h => hr (by simpa using congrArg Prod.fst h)
          have Hne := Lib.hid hne
          clear hne
          go_wp2_with fail
          refine And.intro (by kernel_rfl) ?_
          go_wp2_with fail
          go_roundw
          case rel => exact ⟨k + 1, by omega, by go_num, by rw [Hx.out, Hs.out]; rw [if_neg (fun h => Hne.out h.2)], Hb1.out⟩
          case measure => simp [intOf]; omega
    · have e : v.take k = v := List.take_of_length_le (by omega)
      rw [e]
      clear e
      go_wp2_with fail
      go_ret
      exact ⟨rfl, ((Below.refl _ w).alloc (Nat.le_refl _) _).trans (Hb.out.mono (by omega))⟩

set_option maxHeartbeats 1000000 in
theorem rhas_any (a : Option Addr) (c : Nat) (v : List Dt) (r i s : Int) (w : World) (hv : Vec w a c v) (hn : v.length ≤ 1100000) :
    Calls Tryz.prog 51 #[.slice a v.length c, .agg #[.int .u8 r, .int .u32 i, .int .u64 s]] w fun e w' => e = .returned (.bool (hasV v ((r, i), s))) ∧ Below w.heap.size w w' := by
  have Hv := Lib.hid hv
  clear hv
  go_enter Tryz.func51, Tryz.ntmps51
  go_wp2_with fail
  refine region_text [([0, 1, 2, 3, 4, 5, 6, 7], false), ([8], true), ([9, 10, 11], false)] mixed (by kernel_rfl) ?_
  simp only [wpSegs, List.map_cons, List.map_nil, List.getD_cons_succ, List.getD_cons_zero]
  go_wp2_with fail
  refine (rmay_any r i s _).mono ?_
  rintro e w1 ⟨rfl, hb1⟩
  have hb1' : Below (w.alloc (.cells #[.int .u8 r, .int .u32 i, .int .u64 s] 49)).heap.size (w.alloc (.cells #[.int .u8 r, .int .u32 i, .int .u64 s] 49)) w1 := ((Below.refl _ _).drew).trans hb1
  obtain ⟨hx0, hz, hB1⟩ := new1 hb1'
  have c0 := cells_at hx0
  have HB1 := Lib.hid hB1
  clear hb1 hb1' hx0 hB1
  cases hm : may ((r, i), s) with
  | false =>
    have He := Lib.hid (show hasV v ((r, i), s) = false by simp [hasV, hm])
    clear hm
    go_wp2_with fail
    refine And.intro (Agree.refl _) ?_
    go_wp2_with fail
    refine And.intro (by kernel_rfl) ?_
    go_wp2_with fail
    go_ret
    exact ⟨by rw [He.out]; rfl, HB1.out⟩
  | true =>
    have He := Lib.hid (show hasV v ((r, i), s) = decide (s ≤ getN v (r, i)) by simp [hasV, hm])
    clear hm
    go_wp2_with fail
    refine (rget_any a c v r i _ (Hv.out.below HB1.out) hn).mono ?_
    rintro e w2 ⟨rfl, hb2⟩
    have HB2 := Lib.hid (HB1.out.trans (hb2.mono HB1.out.size))
    go_wp2_with fail
    refine And.intro (Agree.of_below hb2) ?_
    clear hb2
    go_wp2_with fail
    refine And.intro (by kernel_rfl) ?_
    go_wp2_with fail
    go_ret
    exact ⟨by rw [He.out]; rfl, HB2.out⟩

set_option maxHeartbeats 1000000 in
theorem has_any (a : Option Addr) (c : Nat) (v : List Dt) (r i s : Int) (w : World) (hv : Vec w a c v) (hn : v.length ≤ 1100000) (hok : okV v) (hA : okA (r, i)) :
    Calls Tryz.prog 71 #[.slice a v.length c, .agg #[.int .u8 r, .int .u32 i, .int .u64 s]] w fun e w' => e = .returned (.bool (hasV v ((r, i), s))) ∧ Below w.heap.size w w' := by
  have Hv := Lib.hid hv
  clear hv
  go_enter Tryz.func71, Tryz.ntmps71
  go_wp2_with fail
  refine region_text [([0, 1, 2, 3, 4, 5, 6, 7], false), ([8], true), ([9, 10, 11], false)] mixed (by kernel_rfl) ?_
  simp only [wpSegs, List.map_cons, List.map_nil, List.getD_cons_succ, List.getD_cons_zero]
  go_wp2_with fail
  refine (may_any r i s _).mono ?_
  rintro e w1 ⟨rfl, hb1⟩
  have hb1' : Below (w.alloc (.cells #[.int .u8 r, .int .u32 i, .int .u64 s] 49)).heap.size (w.alloc (.cells #[.int .u8 r, .int .u32 i, .int .u64 s] 49)) w1 := ((Below.refl _ _).drew).trans hb1
  obtain ⟨hx0, hz, hB1⟩ := new1 hb1'
  have c0 := cells_at hx0
  have HB1 := Lib.hid hB1
  clear hb1 hb1' hx0 hB1
  cases hm : may ((r, i), s) with
  | false =>
    have He := Lib.hid (show hasV v ((r, i), s) = false by simp [hasV, hm])
    clear hm
    go_wp2_with fail
    refine And.intro (Agree.refl _) ?_
    go_wp2_with fail
    refine And.intro (by kernel_rfl) ?_
    go_wp2_with fail
    go_ret
    exact ⟨by rw [He.out]; rfl, HB1.out⟩
  | true =>
    have He := Lib.hid (show hasV v ((r, i), s) = decide (s ≤ getN v (r, i)) by simp [hasV, hm])
    clear hm
    go_wp2_with fail
    refine (get_any a c v r i _ (Hv.out.below HB1.out) hok hn hA).mono ?_
    rintro e w2 ⟨rfl, hb2⟩
    have HB2 := Lib.hid (HB1.out.trans (hb2.mono HB1.out.size))
    go_wp2_with fail
    refine And.intro (Agree.of_below hb2) ?_
    clear hb2
    go_wp2_with fail
    refine And.intro (by kernel_rfl) ?_
    go_wp2_with fail
    go_ret
    exact ⟨by rw [He.out]; rfl, HB2.out⟩

set_option maxHeartbeats 1000000 in
theorem rwithin_any (a b : Option Addr) (c d : Nat) (v u : List Dt) (w : World) (hv : Vec w a c v) (hu : Vec w b d u) (hok : okV v) (hn : v.length ≤ 1100000) (hm : u.length ≤ 1100000) :
    Calls Tryz.prog 152 #[.slice a v.length c, .slice b u.length d] w fun e w' => e = .returned (.bool (withinV v u)) ∧ Below w.heap.size w w' := by
  have Hv := Lib.hid hv
  have Hu := Lib.hid hu
  clear hv hu
  go_enter Tryz.func152, Tryz.ntmps152
  go_wp2_with fail
  go_loopw [5] (fun j wr => ∃ k : Nat, k ≤ v.length ∧ j = .int .i64 k ∧ Hid (∀ d ∈ v.take k, may d = true → d.2 ≤ getN u d.1) ∧ Below w.heap.size w wr) (fun j _ => v.length - (intOf j).toNat)
  case atStart => exact ⟨0, Nat.zero_le _, rfl, Lib.hid (by simp), Below.refl _ _⟩
  case round =>
    obtain ⟨k, hk, rfl, hle, hb⟩ := hrel
    have Hb := Lib.hid hb
    have hs := hb.size
    clear hb
    by_cases hlt : k < v.length
    · obtain ⟨⟨⟨r, i⟩, s⟩, hx⟩ : ∃ x, v[k]? = some x := ⟨v[k], by simp [hlt]⟩
      obtain ⟨ad, had, c0, c1, c2, hl0⟩ := (Hv.out.below Hb.out).at hx
      have had' := had
      subst had'
      have Hx := Lib.hid hx
      dsimp only at c0 c1 c2
      clear hx had
      go_wp2_with fail
      refine region_text [([0, 1, 2, 3, 4, 5, 6, 7, 8, 9, 10, 11, 12, 13, 14, 15, 16], false), ([17], true), ([18, 19], false)] mixed (by kernel_rfl) ?_
      simp only [wpSegs, List.map_cons, List.map_nil, List.getD_cons_succ, List.getD_cons_zero]
      go_wp2_with fail
      refine (rmay_any r i s _).mono ?_
      rintro e w1 ⟨rfl, hb1⟩
      have hb1' : Below wr.heap.size wr w1 := ((Below.refl _ wr).drew).trans hb1
      have Hb1 := Lib.hid (Hb.out.trans (hb1'.mono hs))
      obtain ⟨ad', had2, c0, c1, c2, hl0⟩ := (Hv.out.below Hb1.out).at Hx.out
      obtain rfl : ad = ad' := by simpa using had2
      dsimp only at c0 c1 c2
      clear hb1 hb1' had2 Hb
      cases hm : may ((r, i), s) with
      | false =>
        have Hle : Hid (∀ d ∈ v.take (k + 1), may d = true → d.2 ≤ getN u d.1) := Lib.hid fun d hd hmd => by
          rw [take_snoc' Hx.out, List.mem_append, List.mem_singleton] at hd
          rcases hd with hd | rfl
          · exact hle.out d hd hmd
          · rw [hm] at hmd; cases hmd
        clear hm
        go_wp2_with fail
        refine And.intro (Agree.refl _) ?_
        go_wp2_with fail
        refine And.intro (by kernel_rfl) ?_
        go_wp2_with fail
        go_roundw
        case rel => exact ⟨k + 1, by omega, by go_num, Hle, Hb1.out⟩
        case measure => simp [intOf]; omega
      | true =>
        go_wp2_with fail
        refine (rget_any b d u r i _ (Hu.out.below Hb1.out) (by omega)).mono ?_
        rintro e w2 ⟨rfl, hb2⟩
        have Hb2 := Lib.hid (Hb1.out.trans (hb2.mono Hb1.out.size))
        have Hm := Lib.hid hm
        clear hm
        go_wp2_with fail
        refine And.intro (Agree.of_below hb2) ?_
        clear hb2
        by_cases hgt : getN u (r, i) < s
        · have Hw := Lib.hid (show withinV v u = false by
            cases h : withinV v u with
            | false => rfl
            | true => have := (within_dots hok).1 h _ (List.mem_of_getElem? Hx.out) Hm.out; dsimp only at this; omega)
          go_wp2_with fail
          refine And.intro (by kernel_rfl) ?_
          go_wp2_with fail
          go_ret
          exact ⟨by rw [Hw.out]; rfl, Hb2.out⟩
        · have hgt' : decide (getN u (r, i) < s) = false := by simpa using hgt
          have Hle : Hid (∀ d ∈ v.take (k + 1), may d = true → d.2 ≤ getN u d.1) := Lib.hid fun d hd hmd => by
            rw [take_snoc' Hx.out, List.mem_append, List.mem_singleton] at hd
            rcases hd with hd | rfl
            · exact hle.out d hd hmd
            · dsimp only; omega
          go_wp2_with fail
          refine And.intro (by kernel_rfl) ?_
          go_wp2_with fail
          go_roundw
          case rel => exact ⟨k + 1, by omega, by go_num, Hle, Hb2.out⟩
          case measure => simp [intOf]; omega
    · have Hw := Lib.hid (show withinV v u = true from (within_dots hok).2 fun d hd hmd => hle.out d (by rw [List.take_of_length_le (by omega)]; exact hd) hmd)
      go_wp2_with fail
      go_ret
      exact ⟨by rw [Hw.out]; rfl, Hb.out⟩
end Go.Proofs.YtaandcblndldmaaGreat

/- Vec5 -/
/- Slice -/
namespace Go.Proofs.YtaandcblndldmaaGreat
open Go.RowKit
set_option linter.unusedVariables false
set_option linter.unusedSimpArgs false
theorem slice_hi (oa : Option Addr) (n oc j : Nat) (hj : j ≤ n) (hn : n ≤ oc) (W : World) : (Instr.sliceAt 28 (.slice oa n oc) none (some (.int .i64 (j : Int))) none).run Tryz.prog W = .ok (.slice oa j oc) W := by
  simp [go_sem, Instr.sliceAt, Instr.slice, run_underlying Tryz.underlying28]
  intro h; omega
theorem slice_lo (oa : Option Addr) (n oc j : Nat) (hj : j ≤ n) (hn : n ≤ oc) (W : World) : (Instr.sliceAt 28 (.slice oa n oc) (some (.int .i64 (j : Int))) none none).run Tryz.prog W = .ok (.slice (if oc = j then oa else oa.map (·.add (j * 3))) (n - j) (oc - j)) W := by
  simp [go_sem, Instr.sliceAt, Instr.slice, run_underlying Tryz.underlying28]
  intro h; omega
theorem dcells_take (U : List Dt) (j : Nat) : (dcells U).take (j * 3) = dcells (U.take j) := by
  induction U generalizing j with
  | nil => simp [dcells]
  | cons x U ih =>
    cases j with
    | zero => simp [dcells]
    | succ j =>
      have := ih j
      simp only [dcells, List.flatMap_cons, List.take_succ_cons] at this ⊢
      rw [show (j + 1) * 3 = 3 + j * 3 by omega, List.take_append, show (dcell x).length = 3 from rfl, show 3 + j * 3 - 3 = j * 3 by omega, this, List.take_of_length_le (by simp [dcell])]
theorem dcells_drop (U : List Dt) (j : Nat) : (dcells U).drop (j * 3) = dcells (U.drop j) := by
  induction U generalizing j with
  | nil => simp [dcells]
  | cons x U ih =>
    cases j with
    | zero => simp [dcells]
    | succ j =>
      have := ih j
      simp only [dcells, List.flatMap_cons, List.drop_succ_cons] at this ⊢
      rw [show (j + 1) * 3 = 3 + j * 3 by omega, List.drop_append, show (dcell x).length = 3 from rfl, show 3 + j * 3 - 3 = j * 3 by omega, this, List.drop_eq_nil_of_le (by simp [dcell])]
      rfl
theorem Vec.take {w : World} {a : Option Addr} {c : Nat} {U : List Dt} (h : Vec w a c U) {j : Nat} (hj : j ≤ U.length) : Sl w 3 a j c (dcells (U.take j)) := by
  obtain ⟨h1, h2, h3, h4⟩ := h
  refine ⟨by rw [dcells_length, List.length_take]; omega, by omega, h3, ?_⟩
  rcases h4 with ⟨h5, h6, h7⟩ | ⟨b, rfl, hc⟩
  · exact .inl ⟨h5, by omega, h7⟩
  · refine .inr ⟨b, rfl, fun i u hu => hc i u ?_⟩
    rw [← dcells_take, List.getElem?_take] at hu
    split at hu
    · exact hu
    · cases hu
theorem Vec.drop {w : World} {a : Option Addr} {c : Nat} {U : List Dt} (h : Vec w a c U) {j : Nat} (hj : j ≤ U.length) : Sl w 3 (if c = j then a else a.map (·.add (j * 3))) (U.length - j) (c - j) (dcells (U.drop j)) := by
  obtain ⟨h1, h2, h3, h4⟩ := h
  refine ⟨by rw [dcells_length, List.length_drop], by omega, by omega, ?_⟩
  rcases h4 with ⟨rfl, h6, h7⟩ | ⟨b, rfl, hc⟩
  · exact .inl ⟨by split <;> rfl, by omega, by omega⟩
  · by_cases e : c = j
    · rw [if_pos e]
      refine .inr ⟨b, rfl, fun i u hu => ?_⟩
      rw [List.drop_eq_nil_of_le (by omega)] at hu
      simp [dcells] at hu
    · rw [if_neg e]
      refine .inr ⟨b.add (j * 3), rfl, fun i u hu => ?_⟩
      rw [Go.Deep.add_add]
      refine hc _ _ ?_
      rw [← dcells_drop, List.getElem?_drop] at hu
      exact hu
end Go.Proofs.YtaandcblndldmaaGreat

/- DotO -/
namespace Go.Proofs.YtaandcblndldmaaGreat
open Go.RowKit
set_option linter.unusedVariables false
set_option linter.unusedSimpArgs false

/-- the vector u in memory of one's own -/
def OwnV (w0 w : World) (s : Value) (u : List Dt) : Prop := ∃ oa oc, s = .slice oa u.length oc ∧ w.ownsRow w0.heap.size 49 3 (.slice oa u.length oc) u.length (dcells u) ∧ Below w0.heap.size w0 w
/-- a place for d in u: all ahead are less, the one there is not -/
def Place (u : List Dt) (d : Dt) (j : Nat) : Prop := j ≤ u.length ∧ (∀ j' x, j' < j → u[j']? = some x → lessD x d = true) ∧ ∀ x, u[j]? = some x → lessD x d = false

theorem held_of_cell {w w' : World} {F : List Nat} {p : Addr} {v : Value} (hc : w.cell? p = some v) (hC : Chg F w w') (hn : p.block ∉ F) : Held (fun q => q = p.block) w w' := by
  refine .inr fun k o hk ho => ?_
  have hk' : k = p.block := hk
  subst hk'
  refine ⟨fun at_ u e => ?_, heap_chg ho hC hn⟩
  subst e
  unfold World.cell? at hc
  rw [ho] at hc
  cases hc
theorem cell_below {w w' : World} {p : Addr} {v : Value} (hc : w.cell? p = some v) (hb : Below w.heap.size w w') : w'.cell? p = some v := (hb.cell (World.block_lt_of_cell? w _ hc)).trans hc
set_option maxRecDepth 100000 in
set_option maxHeartbeats 4000000 in
theorem rcanon_any (a : Option Addr) (c : Nat) (v : List Dt) (w : World) (hv : Vec w a c v) (hok : okV v) (hn : v.length ≤ 1100000) :
    Calls Tryz.prog 76 #[.slice a v.length c] w (VecTo w (canonV v)) := by
  obtain ⟨i0, hi0, hz0, hz1, hz2⟩ := info_parts Tryz.info_dot
  have Hv := Lib.hid hv
  clear hv
  go_enter Tryz.func76, Tryz.ntmps76
  go_wp2_with fail
  go_loopw [3, 4] (fun s3 s4 wr => ∃ k : Nat, k ≤ v.length ∧ s4 = .int .i64 k ∧ OwnV w wr s3 (vecOf (fstN v k))) (fun _ s4 _ => v.length - (intOf s4).toNat)
  case atStart => exact ⟨0, Nat.zero_le _, rfl, none, 0, by rw [fstN_zero]; rfl, by rw [fstN_zero]; exact World.ownsRow_nil _ _ _ _, Below.refl _ _⟩
  case round =>
    obtain ⟨k, hk, rfl, oa, oc, rfl, hown, hb⟩ := hrel
    have Hown := Lib.hid hown
    have Hb := Lib.hid hb
    have hs := hb.size
    have hlo := vecOf_length (fstN v k)
    clear hown hb
    by_cases hlt : k < v.length
    · obtain ⟨⟨⟨r, i⟩, s⟩, hx⟩ : ∃ x, v[k]? = some x := ⟨v[k], by simp [hlt]⟩
      obtain ⟨ad, had, c0, c1, c2, hl0⟩ := (Hv.out.below Hb.out).at hx
      have had' := had
      subst had'
      have Hx := Lib.hid hx
      dsimp only at c0 c1 c2
      clear hx had
      go_upto_block 1 with (fail)
      go_cut [3] (fun s3 wx => OwnV w wx s3 (vecOf (fstN v (k + 1))))
      case first =>
        go_wp2_with fail
        refine region_text [([0, 1, 2, 3, 4, 5, 6, 7, 8, 9, 10, 11, 12, 13, 14, 15, 16, 17], false), ([18], true), ([19, 20, 21, 22, 23, 24, 25, 26, 27, 28, 29, 30], false)] mixed (by kernel_rfl) ?_
        simp only [wpSegs, List.map_cons, List.map_nil, List.getD_cons_succ, List.getD_cons_zero]
        go_wp2_with fail
        refine (rmay_any r i s _).mono ?_
        rintro e w1 ⟨rfl, hb1⟩
        have hb1' : Below wr.heap.size wr w1 := ((Below.refl _ wr).drew).trans hb1
        have Hb1 := Lib.hid (Hb.out.trans (hb1'.mono hs))
        have Hown1 := Lib.hid (owns_chg Hown.out (Chg.of_below (F := []) hb1') (by simp))
        obtain ⟨ad', had2, c0, c1, c2, hl0⟩ := (Hv.out.below Hb1.out).at Hx.out
        obtain rfl : ad = ad' := by simpa using had2
        dsimp only at c0 c1 c2
        have hs1 := Hb1.out.size
        clear hb1 hb1' had2 Hb Hown
        cases hm : may ((r, i), s) with
        | false =>
          have He := Lib.hid (fstN_pass hok Hx.out (.inl hm))
          clear hm
          go_wp2_with fail
          refine And.intro (Agree.refl _) ?_
          go_wp2_with fail
          refine And.intro (by kernel_rfl) ?_
          go_wp2_with fail
          go_meet
          rw [He.out]
          exact ⟨oa, oc, rfl, Hown1.out, Hb1.out⟩
        | true =>
          have Hm := Lib.hid hm
          clear hm
          go_wp2_with fail
          refine (rget_any (some ad) c v r i _ (Hv.out.below Hb1.out) (by omega)).mono ?_
          rintro e w2 ⟨rfl, hb2⟩
          have Hb2 := Lib.hid (Hb1.out.trans (hb2.mono hs1))
          have Hown2 := Lib.hid (owns_chg Hown1.out (Chg.of_below (F := []) hb2) (by simp))
          obtain ⟨ad', had2, c0, c1, c2, hl0⟩ := (Hv.out.below Hb2.out).at Hx.out
          obtain rfl : ad = ad' := by simpa using had2
          dsimp only at c0 c1 c2
          have hs2 := Hb2.out.size
          go_wp2_with fail
          refine And.intro (Agree.of_below hb2) ?_
          clear hb2 had2 Hb1 Hown1
          by_cases hsn : s = getN v (r, i)
          · have Hsn := Lib.hid hsn
            have hsn' : (s != getN v (r, i)) = false := by simpa using hsn
            clear hsn
            go_wp2_with fail
            refine (rget_any oa oc (vecOf (fstN v k)) r i _ (vec_of Hown2.out) (by omega)).mono ?_
            rintro e w3 ⟨rfl, hb3⟩
            have Hb3 := Lib.hid (Hb2.out.trans (hb3.mono hs2))
            have Hown3 := Lib.hid (owns_chg Hown2.out (Chg.of_below (F := []) hb3) (by simp))
            have hs3 := Hb3.out.size
            clear hb3 Hb2 Hown2 hsn' c0 c1 c2
            by_cases hg0 : 0 < getN (vecOf (fstN v k)) (r, i)
            · have He := Lib.hid (fstN_pass hok Hx.out (.inr (.inr hg0)))
              go_wp2_with fail
              refine And.intro (by kernel_rfl) ?_
              go_wp2_with fail
              go_meet
              rw [He.out]
              exact ⟨oa, oc, rfl, Hown3.out, Hb3.out⟩
            · have hg0' : decide (0 < getN (vecOf (fstN v k)) (r, i)) = false := by simpa using hg0
              have Hg0 := Lib.hid (show getN (vecOf (fstN v k)) (r, i) = 0 by have := (getN_bd (vecOf (fstN v k)) (r, i)).1; omega)
              obtain ⟨ad', had2, c0, c1, c2, hl0⟩ := (Hv.out.below Hb3.out).at Hx.out
              obtain rfl : ad = ad' := by simpa using had2
              dsimp only at c0 c1 c2
              clear had2 hg0
              go_wp2_with fail
              refine And.intro (by kernel_rfl) ?_
              clear hg0'
              go_upto_block 2 with (fail)
              go_cut [5] (fun s5 wx => ∃ j : Nat, s5 = .int .i64 j ∧ Place (vecOf (fstN v k)) ((r, i), s) j ∧ Below w3.heap.size w3 wx)
              case first =>
                generalize hU : vecOf (fstN v k) = U at *
                go_wp2_with fail
                go_loopw [5] (fun s5 wx => ∃ j : Nat, s5 = .int .i64 j ∧ j ≤ U.length ∧ Hid (∀ j' x, j' < j → U[j']? = some x → lessD x ((r, i), s) = true) ∧ Below w3.heap.size w3 wx) (fun s5 _ => U.length - (intOf s5).toNat)
                case atStart => exact ⟨0, rfl, Nat.zero_le _, Lib.hid (fun _ _ h => by omega), Below.refl _ _⟩
                case round =>
                  obtain ⟨j, rfl, hj, hall, hbx⟩ := hrel
                  have Hbx := Lib.hid hbx
                  clear hbx
                  by_cases hjl : j < U.length
                  · obtain ⟨⟨⟨r', i'⟩, s'⟩, hy⟩ : ∃ x, U[j]? = some x := ⟨U[j], by simp [hjl]⟩
                    obtain ⟨ae, hae, e0, e1, e2, hl1⟩ := ((vec_of Hown3.out).below Hbx.out).at hy
                    obtain ⟨ad', had2, c0, c1, c2, hl0⟩ := ((Hv.out.below Hb3.out).below Hbx.out).at Hx.out
                    obtain rfl : ad = ad' := by simpa using had2
                    have hae' := hae
                    subst hae'
                    have Hy := Lib.hid hy
                    dsimp only at c0 c1 c2 e0 e1 e2
                    clear had2 hae hy
                    go_wp2_with fail
                    refine region_text [([0, 1, 2, 3, 4, 5, 6, 7, 8, 9, 10, 11, 12, 13, 14], false)] mixed (by kernel_rfl) ?_
                    simp only [wpSegs, List.map_cons, List.map_nil, List.getD_cons_succ, List.getD_cons_zero]
                    go_wp2_with fail
                    refine (rless_any r' i' s' r i s _).mono ?_
                    rintro e w4 ⟨rfl, hb4⟩
                    have Hb4 := Lib.hid (Hbx.out.drew.trans (hb4.mono Hbx.out.size))
                    clear hb4 c0 c1 c2 e0 e1 e2
                    cases hle : lessD ((r', i'), s') ((r, i), s) with
                    | true =>
                      have Hle := Lib.hid hle
                      clear hle
                      go_wp2_with fail
                      refine And.intro (by kernel_rfl) ?_
                      go_wp2_with fail
                      go_roundw
                      case rel =>
                        refine ⟨j + 1, by go_num, by omega, Lib.hid fun j' x hj' hx' => ?_, Hb4.out⟩
                        by_cases e : j' = j
                        · subst e; rw [Hy.out] at hx'; cases hx'; exact Hle.out
                        · exact hall.out j' x (by omega) hx'
                      case measure => simp [intOf]; omega
                    | false =>
                      have Hle := Lib.hid hle
                      clear hle
                      go_wp2_with fail
                      refine And.intro (by kernel_rfl) ?_
                      go_wp2_with fail
                      go_meet
                      exact ⟨j, rfl, ⟨by omega, hall.out, fun x hx' => by rw [Hy.out] at hx'; cases hx'; exact Hle.out⟩, Hb4.out⟩
                  · have hjl' : decide ((j : Int) < (U.length : Int)) = false := by simpa using hjl
                    go_wp2_with fail
                    refine region_text [([0, 1, 2, 3, 4, 5, 6, 7, 8, 9, 10, 11, 12, 13, 14], false)] mixed (by kernel_rfl) ?_
                    simp only [wpSegs, List.map_cons, List.map_nil, List.getD_cons_succ, List.getD_cons_zero]
                    go_wp2_with fail
                    refine And.intro (by kernel_rfl) ?_
                    go_wp2_with fail
                    go_meet
                    exact ⟨j, rfl, ⟨by omega, hall.out, fun x hx' => by rw [List.getElem?_eq_none (by omega)] at hx'; cases hx'⟩, Hbx.out.drew⟩
              case rest =>
                obtain ⟨j, rfl, ⟨hj, hP1, hP2⟩, hbx⟩ := hcut
                have HPl := Lib.hid (fstN_lay hok Hx.out Hm.out Hsn.out Hg0.out hP1 hP2)
                have Hbc := Lib.hid (Hb3.out.trans (hbx.mono hs3))
                have Hownc := Lib.hid (owns_chg Hown3.out (Chg.of_below (F := []) hbx) (by simp))
                obtain ⟨ad', had2, d0, d1, d2, hl0'⟩ := (Hv.out.below Hbc.out).at Hx.out
                obtain rfl : ad = ad' := by simpa using had2
                dsimp only at d0 d1 d2
                have hsc := Hbc.out.size
                clear hP1 hP2 hbx had2 Hown3 Hb3 Hg0 Hsn Hm c0 c1 c2
                generalize vecOf (fstN v k) = U at *
                generalize vecOf (fstN v (k + 1)) = U' at *
                have hoc : U.length ≤ oc := (vec_of Hownc.out).2.1
                obtain ⟨sa1, sc1, hsl1, SL1⟩ : ∃ sa1 sc1, (∀ W, (Instr.sliceAt 28 (.slice oa U.length oc) none (some (.int .i64 (j : Int))) none).run Tryz.prog W = .ok (.slice sa1 j sc1) W) ∧ Sl wc 3 sa1 j sc1 (dcells (U.take j)) :=
                  ⟨oa, oc, slice_hi oa U.length oc j hj hoc, (vec_of Hownc.out).take hj⟩
                obtain ⟨sa2, sc2, hsl2, SL2⟩ : ∃ sa2 sc2, (∀ W, (Instr.sliceAt 28 (.slice oa U.length oc) (some (.int .i64 (j : Int))) none none).run Tryz.prog W = .ok (.slice sa2 (U.length - j) sc2) W) ∧ Sl wc 3 sa2 (U.length - j) sc2 (dcells (U.drop j)) :=
                  ⟨_, _, slice_lo oa U.length oc j hj hoc, (vec_of Hownc.out).drop hj⟩
                have HSL1 := Lib.hid SL1
                have HSL2 := Lib.hid SL2
                clear SL1 SL2
                go_wp2_with fail
                refine region_tree_at (fun q => q = (ad.add (k * 3)).block) (.seg [1, 2, 3, 5, 6, 7, 8, 11, 12, 13] false (.fork (.seg [0] false (.fork (.seg [4] true (.seg [9, 10, 14, 15] false .done)) (.seg [9] false (.seg [4] true (.seg [10, 14, 15] false .done))))) (.seg [9, 0] false (.seg [4] true (.seg [10, 14, 15] false .done))))) mixed (by kernel_rfl) ?_
                simp only [wpSgB, List.map_cons, List.map_nil, List.getD_cons_succ, List.getD_cons_zero]
                go_wp2_with fail
                refine And.intro ?_ ?_
                · go_wp2_with fail
                  refine And.intro ?_ ?_
                  · as_aux_lemma =>
                    go_wp2_with (at_builtin; go_must (refine wpList_append_sl rfl _ _ 28 rfl wc.heap.size 49 i0 (.agg #[.int .u8 0, .int .u32 0, .int .u64 0]) 3 16 Tryz.underlying28 hi0 hz0 hz1 hz2 rfl (by decide) (some ⟨wc.heap.size, 0, none⟩) 0 0 [] rfl ?o1 sa1 j sc1 (dcells (U.take j)) rfl ?s1 ?t1 ?c1 ?d1 ?e1 ?_))
                    case o1 => exact (World.ownsRow_made wc #[] 0 (Nat.le_refl _) (by decide) rfl)
                    case s1 => exact HSL1.out.below ((((Below.refl _ wc).alloc (Nat.le_refl _) _)).drew)
                    case t1 => exact (dcells_one _)
                    case c1 => unfold maxLen; omega
                    case d1 => omega
                    case e1 => first | (simp; done) | (simp; omega)
                    intro a1 c1 w5 ho1 hC1 hob1
                    try simp only [Nat.zero_add, List.nil_append] at ho1
                    have hw0 : wc.heap.size + 1 ≤ w5.heap.size := by have := hC1.size; simpa using this
                    have hB5 : Below wc.heap.size wc w5 := ((((Below.refl _ wc).alloc (Nat.le_refl _) _)).drew).trans (hC1.below (by simp) (by simp [ob]))
                    have hHeld := held_of_cell (p := ad.add (k * 3)) (v := .int .u8 r) (by first | exact d0' | exact cell_below d0 ((((Below.refl _ wc).alloc (Nat.le_refl _) _)).drew)) hC1 (by simp [ob]; have := World.block_lt_of_cell? wc _ d0; omega)
                    have Ho1 := Lib.hid ho1
                    have HB5 := Lib.hid hB5
                    clear ho1 hC1 hB5
                    go_wp2_with fail
                    refine And.intro hHeld ?_
                    clear hHeld
                    go_wp2_with (at_builtin; go_must (refine wpList_append_sl rfl _ _ 28 rfl wc.heap.size 49 i0 (.agg #[.int .u8 0, .int .u32 0, .int .u64 0]) 3 16 Tryz.underlying28 hi0 hz0 hz1 hz2 rfl (by decide) a1 j c1 (dcells (U.take j)) rfl ?o2 (some ⟨w5.heap.size, 0, none⟩) 1 1 (dcell ((r, i), s)) rfl ?s2 ?t2 ?c2 ?d2 ?e2 ?_))
                    case o2 => exact Ho1.out.alloc _
                    case s2 => exact Sl.blk (C := #[.int .u8 r, .int .u32 i, .int .u64 s]) (heap_new w5 _) rfl (by decide)
                    case t2 => exact (dcells_one [((r, i), s)])
                    case c2 => unfold maxLen; omega
                    case d2 => omega
                    case e2 => simp; omega
                    intro a2 c2 w6 ho2 hC2 hob2
                    have hlt5 := owns_lt Ho1.out
                    have Ho2 := Lib.hid ho2
                    have HB6 := Lib.hid ((HB5.out.alloc HB5.out.size _).trans (hC2.below (by simp; omega) (fun x hx => (hlt5 x hx).1)))
                    have hs6 := HB6.out.size
                    clear ho2 hC2
                    go_wp2_with (at_builtin; go_must (refine wpList_append_sl rfl _ _ 28 rfl wc.heap.size 49 i0 (.agg #[.int .u8 0, .int .u32 0, .int .u64 0]) 3 16 Tryz.underlying28 hi0 hz0 hz1 hz2 rfl (by decide) a2 (j + 1) c2 (dcells (U.take j) ++ dcell ((r, i), s)) rfl Ho2.out sa2 (U.length - j) sc2 (dcells (U.drop j)) rfl ?s3 ?t3 ?c3 ?d3 ?e3 ?_))
                    case s3 => exact HSL2.out.below HB6.out
                    case t3 => exact (dcells_one _)
                    case c3 => unfold maxLen; omega
                    case d3 => omega
                    case e3 => omega
                    intro a3 c3 w7 ho3 hC3 hob3
                    have hlt6 := owns_lt Ho2.out
                    have hU' : U'.length = j + 1 + (U.length - j) := by rw [← HPl.out]; simp; omega
                    have Ho3 : Hid (w7.ownsRow w.heap.size 49 3 (.slice a3 U'.length c3) U'.length (dcells U')) := by
                      rw [hU', ← HPl.out, dcells_append, show dcells (((r, i), s) :: U.drop j) = dcell ((r, i), s) ++ dcells (U.drop j) from rfl, ← List.append_assoc]
                      exact Lib.hid (owns_base (by simpa using ho3) hsc)
                    have HB7 := Lib.hid (Hbc.out.trans ((HB6.out.trans (hC3.below hs6 (fun x hx => (hlt6 x hx).1))).mono hsc))
                    have HU' := Lib.hid hU'
                    clear ho3 hC3 hU' hlt6 hlt5
                    go_wp2_with fail
                    refine And.intro (And.intro (by kernel_rfl) ?rds) ?_
                    case rds => simp [reads, readsIn, Act.eval]
                    go_wp2_with fail
                    go_meet
                    exact ⟨a3, c3, by rw [HU'.out], Ho3.out, HB7.out⟩
                  · as_aux_lemma =>
                    go_wp2_with (at_builtin; go_must (refine wpList_append_sl rfl _ _ 28 rfl wc.heap.size 49 i0 (.agg #[.int .u8 0, .int .u32 0, .int .u64 0]) 3 16 Tryz.underlying28 hi0 hz0 hz1 hz2 rfl (by decide) (some ⟨wc.heap.size, 0, none⟩) 0 0 [] rfl ?o1 sa1 j sc1 (dcells (U.take j)) rfl ?s1 ?t1 ?c1 ?d1 ?e1 ?_))
                    case o1 => exact ((World.ownsRow_made wc #[] 0 (Nat.le_refl _) (by decide) rfl).alloc _)
                    case s1 => exact HSL1.out.below (((((Below.refl _ wc).alloc (Nat.le_refl _) _).alloc (by simp) _)).drew)
                    case t1 => exact (dcells_one _)
                    case c1 => unfold maxLen; omega
                    case d1 => omega
                    case e1 => first | (simp; done) | (simp; omega)
                    intro a1 c1 w5 ho1 hC1 hob1
                    try simp only [Nat.zero_add, List.nil_append] at ho1
                    have hw0 : wc.heap.size + 2 ≤ w5.heap.size := by have := hC1.size; simpa using this
                    have hB5 : Below wc.heap.size wc w5 := (((((Below.refl _ wc).alloc (Nat.le_refl _) _).alloc (by simp) _)).drew).trans (hC1.below (by simp; omega) (by simp [ob]))
                    have hHeld := held_of_cell (p := ad.add (k * 3)) (v := .int .u8 r) (by first | exact d0' | exact cell_below d0 (((((Below.refl _ wc).alloc (Nat.le_refl _) _).alloc (by simp) _)).drew)) hC1 (by simp [ob]; have := World.block_lt_of_cell? wc _ d0; omega)
                    have Ho1 := Lib.hid ho1
                    have HB5 := Lib.hid hB5
                    have hbd : w5.heap[wc.heap.size + 1]? = some (.cells #[.int .u8 r, .int .u32 i, .int .u64 s] 49 (0, 0)) := heap_chg (w := ((wc.alloc (.cells #[] 49)).alloc (.cells #[.int .u8 r, .int .u32 i, .int .u64 s] 49)).drew) (by first | exact heap_new2 wc _ _ | exact (heap_old _ _ (by simp)).trans (heap_new wc _)) hC1 (by simp [ob])
                    have Hbd := Lib.hid hbd
                    clear hbd
                    clear ho1 hC1 hB5
                    go_wp2_with fail
                    refine And.intro hHeld ?_
                    clear hHeld
                    go_wp2_with (at_builtin; go_must (refine wpList_append_sl rfl _ _ 28 rfl wc.heap.size 49 i0 (.agg #[.int .u8 0, .int .u32 0, .int .u64 0]) 3 16 Tryz.underlying28 hi0 hz0 hz1 hz2 rfl (by decide) a1 j c1 (dcells (U.take j)) rfl Ho1.out (some ⟨wc.heap.size + 1, 0, none⟩) 1 1 (dcell ((r, i), s)) rfl ?s2 ?t2 ?c2 ?d2 ?e2 ?_))
                    case s2 => exact Sl.blk (C := #[.int .u8 r, .int .u32 i, .int .u64 s]) Hbd.out rfl (by decide)
                    case t2 => exact (dcells_one [((r, i), s)])
                    case c2 => unfold maxLen; omega
                    case d2 => omega
                    case e2 => omega
                    intro a2 c2 w6 ho2 hC2 hob2
                    have hlt5 := owns_lt Ho1.out
                    have Ho2 := Lib.hid ho2
                    have HB6 := Lib.hid (HB5.out.trans (hC2.below HB5.out.size (fun x hx => (hlt5 x hx).1)))
                    have hs6 := HB6.out.size
                    clear ho2 hC2
                    go_wp2_with (at_builtin; go_must (refine wpList_append_sl rfl _ _ 28 rfl wc.heap.size 49 i0 (.agg #[.int .u8 0, .int .u32 0, .int .u64 0]) 3 16 Tryz.underlying28 hi0 hz0 hz1 hz2 rfl (by decide) a2 (j + 1) c2 (dcells (U.take j) ++ dcell ((r, i), s)) rfl Ho2.out sa2 (U.length - j) sc2 (dcells (U.drop j)) rfl ?s3 ?t3 ?c3 ?d3 ?e3 ?_))
                    case s3 => exact HSL2.out.below HB6.out
                    case t3 => exact (dcells_one _)
                    case c3 => unfold maxLen; omega
                    case d3 => omega
                    case e3 => omega
                    intro a3 c3 w7 ho3 hC3 hob3
                    have hlt6 := owns_lt Ho2.out
                    have hU' : U'.length = j + 1 + (U.length - j) := by rw [← HPl.out]; simp; omega
                    have Ho3 : Hid (w7.ownsRow w.heap.size 49 3 (.slice a3 U'.length c3) U'.length (dcells U')) := by
                      rw [hU', ← HPl.out, dcells_append, show dcells (((r, i), s) :: U.drop j) = dcell ((r, i), s) ++ dcells (U.drop j) from rfl, ← List.append_assoc]
                      exact Lib.hid (owns_base (by simpa using ho3) hsc)
                    have HB7 := Lib.hid (Hbc.out.trans ((HB6.out.trans (hC3.below hs6 (fun x hx => (hlt6 x hx).1))).mono hsc))
                    have HU' := Lib.hid hU'
                    clear ho3 hC3 hU' hlt6 hlt5
                    go_wp2_with fail
                    refine And.intro (And.intro (by kernel_rfl) ?rds) ?_
                    case rds => simp [reads, readsIn, Act.eval]
                    go_wp2_with fail
                    go_meet
                    exact ⟨a3, c3, by rw [HU'.out], Ho3.out, HB7.out⟩
                · as_aux_lemma =>
                  go_wp2_with (at_builtin; go_must (refine wpList_append_sl rfl _ _ 28 rfl wc.heap.size 49 i0 (.agg #[.int .u8 0, .int .u32 0, .int .u64 0]) 3 16 Tryz.underlying28 hi0 hz0 hz1 hz2 rfl (by decide) (some ⟨wc.heap.size + 1, 0, none⟩) 0 0 [] rfl ?o1 sa1 j sc1 (dcells (U.take j)) rfl ?s1 ?t1 ?c1 ?d1 ?e1 ?_))
                  case o1 =>
                    have h1 := (owns_base (base' := wc.heap.size) (e := 49) (size := 3) (World.ownsRow_made (wc.alloc (.cells #[.int .u8 r, .int .u32 i, .int .u64 s] 49)) #[] 0 (Nat.le_refl _) (by decide) rfl) (by simp))
                    rw [World.size_alloc] at h1
                    exact h1
                  case s1 => exact HSL1.out.below (((((Below.refl _ wc).alloc (Nat.le_refl _) _).alloc (by simp) _)).drew)
                  case t1 => exact (dcells_one _)
                  case c1 => unfold maxLen; omega
                  case d1 => omega
                  case e1 => first | (simp; done) | (simp; omega)
                  intro a1 c1 w5 ho1 hC1 hob1
                  try simp only [Nat.zero_add, List.nil_append] at ho1
                  have hw0 : wc.heap.size + 2 ≤ w5.heap.size := by have := hC1.size; simpa using this
                  have hB5 : Below wc.heap.size wc w5 := (((((Below.refl _ wc).alloc (Nat.le_refl _) _).alloc (by simp) _)).drew).trans (hC1.below (by simp; omega) (by simp [ob]))
                  have hHeld := held_of_cell (p := ad.add (k * 3)) (v := .int .u8 r) (by first | exact d0' | exact cell_below d0 (((((Below.refl _ wc).alloc (Nat.le_refl _) _).alloc (by simp) _)).drew)) hC1 (by simp [ob]; have := World.block_lt_of_cell? wc _ d0; omega)
                  have Ho1 := Lib.hid ho1
                  have HB5 := Lib.hid hB5
                  have hbd : w5.heap[wc.heap.size]? = some (.cells #[.int .u8 r, .int .u32 i, .int .u64 s] 49 (0, 0)) := heap_chg (w := ((wc.alloc (.cells #[.int .u8 r, .int .u32 i, .int .u64 s] 49)).alloc (.cells #[] 49)).drew) (by first | exact heap_new2 wc _ _ | exact (heap_old _ _ (by simp)).trans (heap_new wc _)) hC1 (by simp [ob])
                  have Hbd := Lib.hid hbd
                  clear hbd
                  clear ho1 hC1 hB5
                  go_wp2_with fail
                  refine And.intro hHeld ?_
                  clear hHeld
                  go_wp2_with (at_builtin; go_must (refine wpList_append_sl rfl _ _ 28 rfl wc.heap.size 49 i0 (.agg #[.int .u8 0, .int .u32 0, .int .u64 0]) 3 16 Tryz.underlying28 hi0 hz0 hz1 hz2 rfl (by decide) a1 j c1 (dcells (U.take j)) rfl Ho1.out (some ⟨wc.heap.size, 0, none⟩) 1 1 (dcell ((r, i), s)) rfl ?s2 ?t2 ?c2 ?d2 ?e2 ?_))
                  case s2 => exact Sl.blk (C := #[.int .u8 r, .int .u32 i, .int .u64 s]) Hbd.out rfl (by decide)
                  case t2 => exact (dcells_one [((r, i), s)])
                  case c2 => unfold maxLen; omega
                  case d2 => omega
                  case e2 => omega
                  intro a2 c2 w6 ho2 hC2 hob2
                  have hlt5 := owns_lt Ho1.out
                  have Ho2 := Lib.hid ho2
                  have HB6 := Lib.hid (HB5.out.trans (hC2.below HB5.out.size (fun x hx => (hlt5 x hx).1)))
                  have hs6 := HB6.out.size
                  clear ho2 hC2
                  go_wp2_with (at_builtin; go_must (refine wpList_append_sl rfl _ _ 28 rfl wc.heap.size 49 i0 (.agg #[.int .u8 0, .int .u32 0, .int .u64 0]) 3 16 Tryz.underlying28 hi0 hz0 hz1 hz2 rfl (by decide) a2 (j + 1) c2 (dcells (U.take j) ++ dcell ((r, i), s)) rfl Ho2.out sa2 (U.length - j) sc2 (dcells (U.drop j)) rfl ?s3 ?t3 ?c3 ?d3 ?e3 ?_))
                  case s3 => exact HSL2.out.below HB6.out
                  case t3 => exact (dcells_one _)
                  case c3 => unfold maxLen; omega
                  case d3 => omega
                  case e3 => omega
                  intro a3 c3 w7 ho3 hC3 hob3
                  have hlt6 := owns_lt Ho2.out
                  have hU' : U'.length = j + 1 + (U.length - j) := by rw [← HPl.out]; simp; omega
                  have Ho3 : Hid (w7.ownsRow w.heap.size 49 3 (.slice a3 U'.length c3) U'.length (dcells U')) := by
                    rw [hU', ← HPl.out, dcells_append, show dcells (((r, i), s) :: U.drop j) = dcell ((r, i), s) ++ dcells (U.drop j) from rfl, ← List.append_assoc]
                    exact Lib.hid (owns_base (by simpa using ho3) hsc)
                  have HB7 := Lib.hid (Hbc.out.trans ((HB6.out.trans (hC3.below hs6 (fun x hx => (hlt6 x hx).1))).mono hsc))
                  have HU' := Lib.hid hU'
                  clear ho3 hC3 hU' hlt6 hlt5
                  go_wp2_with fail
                  refine And.intro (And.intro (by kernel_rfl) ?rds) ?_
                  case rds => simp [reads, readsIn, Act.eval]
                  go_wp2_with fail
                  go_meet
                  exact ⟨a3, c3, by rw [HU'.out], Ho3.out, HB7.out⟩
          · have hsn' : (s != getN v (r, i)) = true := by simpa using hsn
            have He := Lib.hid (fstN_pass hok Hx.out (.inr (.inl hsn)))
            clear hsn
            go_wp2_with fail
            refine And.intro (by kernel_rfl) ?_
            go_wp2_with fail
            go_meet
            rw [He.out]
            exact ⟨oa, oc, rfl, Hown2.out, Hb2.out⟩
      case rest =>
        obtain ⟨oa', oc', rfl, hown', hb'⟩ := hcut
        have Hown' := Lib.hid hown'
        have Hb' := Lib.hid hb'
        clear hown' hb' c0 c1 c2
        go_wp2_with fail
        go_roundw
        case rel => exact ⟨k + 1, by omega, by go_num, oa', oc', rfl, Hown'.out, Hb'.out⟩
        case measure => simp [intOf]; omega
    · have e : vecOf (fstN v k) = canonV v := by rw [show k = v.length by omega]; exact fstN_all
      have He := Lib.hid e
      clear e
      go_wp2_with fail
      go_ret
      exact ⟨oa, oc, by rw [← He.out]; rfl, by rw [← He.out]; exact Hown.out, Hb.out⟩
end Go.Proofs.YtaandcblndldmaaGreat

/- DotQ -/
namespace Go.Proofs.YtaandcblndldmaaGreat
open Go.RowKit
set_option linter.unusedVariables false
set_option linter.unusedSimpArgs false

theorem okV_append {v u : List Dt} (h1 : okV v) (h2 : okV u) : okV (v ++ u) := fun d hd => by
  rcases List.mem_append.1 hd with h | h
  · exact h1 d h
  · exact h2 d h

set_option maxHeartbeats 1000000 in
theorem rjoin_any (a b : Option Addr) (c d : Nat) (v u : List Dt) (w : World) (hv : Vec w a c v) (hu : Vec w b d u) (hok : okV v) (hok2 : okV u) (hn : v.length ≤ 500000) (hm : u.length ≤ 500000) :
    Calls Tryz.prog 26 #[.slice a v.length c, .slice b u.length d] w (VecTo w (joinV v u)) := by
  obtain ⟨i0, hi0, hz0, hz1, hz2⟩ := info_parts Tryz.info_dot
  have Hv := Lib.hid hv
  have Hu := Lib.hid hu
  clear hv hu
  go_enter Tryz.func26, Tryz.ntmps26
  go_wp2_with (at_builtin; go_must (refine wpList_append_sl rfl _ _ 28 rfl w.heap.size 49 i0 (.agg #[.int .u8 0, .int .u32 0, .int .u64 0]) 3 16 Tryz.underlying28 hi0 hz0 hz1 hz2 rfl (by decide) (some ⟨w.heap.size, 0, none⟩) 0 0 [] rfl ?o1 a v.length c (dcells v) rfl ?s1 ?t1 ?c1 ?d1 ?e1 ?_))
  case o1 => exact World.ownsRow_made w #[] 0 (Nat.le_refl _) (by decide) rfl
  case s1 => exact Hv.out.below ((Below.refl _ _).alloc (Nat.le_refl _) _)
  case t1 => exact dcells_one _
  case c1 => unfold maxLen; omega
  case d1 => omega
  case e1 => simp
  intro a1 c1 w1 ho1 hC1 hob1
  try simp only [Nat.zero_add, List.nil_append] at ho1
  have hB1 : Below w.heap.size w w1 := ((Below.refl _ _).alloc (Nat.le_refl _) _).trans (hC1.below (by simp) (by simp [ob]))
  have Ho1 := Lib.hid ho1
  have HB1 := Lib.hid hB1
  have hs1 := hB1.size
  clear ho1 hC1 hB1
  go_wp2_with (at_builtin; go_must (refine wpList_append_sl rfl _ _ 28 rfl w.heap.size 49 i0 (.agg #[.int .u8 0, .int .u32 0, .int .u64 0]) 3 16 Tryz.underlying28 hi0 hz0 hz1 hz2 rfl (by decide) a1 v.length c1 (dcells v) rfl Ho1.out b u.length d (dcells u) rfl ?s2 ?t2 ?c2 ?d2 ?e2 ?_))
  case s2 => exact Hu.out.below HB1.out
  case t2 => exact dcells_one _
  case c2 => unfold maxLen; omega
  case d2 => omega
  case e2 => omega
  intro a2 c2 w2 ho2 hC2 hob2
  have hlt := owns_lt Ho1.out
  have HB2 := Lib.hid (HB1.out.trans (hC2.below hs1 (fun x hx => (hlt x hx).1)))
  have hs2 := HB2.out.size
  have Hv2 : Hid (Vec w2 a2 c2 (v ++ u)) := Lib.hid (by unfold Vec; rw [dcells_append, List.length_append]; exact Sl.of_owns ho2)
  clear ho2 hC2 hlt Ho1 HB1
  obtain ⟨L, hL⟩ : ∃ L, L = v ++ u := ⟨_, rfl⟩
  have hl : v.length + u.length = L.length := by rw [hL]; simp
  have hl' : L.length ≤ 1100000 := by omega
  have hVL : Vec w2 a2 c2 L := by rw [hL]; exact Hv2.out
  have hOL : okV L := by rw [hL]; exact okV_append hok hok2
  have HL := Lib.hid hL
  rw [hl]
  clear hl hL Hv2
  go_wp2_with fail
  refine (rcanon_any a2 c2 L w2 hVL hOL hl').mono ?_
  rintro e w3 hV
  rw [HL.out, canon_append] at hV
  have HV := Lib.hid (VecTo.from hV HB2.out)
  obtain ⟨a3, c3, rfl, _⟩ := hV
  go_wp2_with fail
  go_ret
  exact HV.out

/-- what the reference lays of the first k dots -/
def metK (v u : List Dt) (k : Nat) : List Dt := ((canonV v).take k).map fun d => (d.1, min (getN u d.1) d.2)
theorem metK_succ {v u : List Dt} {k : Nat} {d : Dt} (h : (canonV v)[k]? = some d) : metK v u (k + 1) = metK v u k ++ [(d.1, min (getN u d.1) d.2)] := by
  unfold metK
  rw [take_snoc' h]; simp
theorem metK_length (v u : List Dt) (k : Nat) : (metK v u k).length ≤ k := by unfold metK; rw [List.length_map]; exact List.length_take_le _ _

set_option maxRecDepth 100000 in
set_option maxHeartbeats 2000000 in
theorem rmeet_any (a b : Option Addr) (c d : Nat) (v u : List Dt) (w : World) (hv : Vec w a c v) (hu : Vec w b d u) (hok : okV v) (hok2 : okV u) (hn : v.length ≤ 500000) (hm : u.length ≤ 500000) :
    Calls Tryz.prog 203 #[.slice a v.length c, .slice b u.length d] w (VecTo w (meetV v u)) := by
  obtain ⟨i0, hi0, hz0, hz1, hz2⟩ := info_parts Tryz.info_dot
  have Hu := Lib.hid hu
  clear hu
  go_enter Tryz.func203, Tryz.ntmps203
  go_wp2_with fail
  refine (rcanon_any a c v w hv hok (by omega)).mono ?_
  rintro e w1 ⟨a1, c1, rfl, hown1, hB1⟩
  have Hv1 := Lib.hid (vec_of hown1)
  have HB1 := Lib.hid hB1
  have hs1 := hB1.size
  have hlC : (canonV v).length ≤ 64 := vecOf_length _
  clear hown1 hB1 hv
  go_wp2_with fail
  go_loopw [5, 7] (fun s5 s7 wr => ∃ (k : Nat) (oa : Option Addr) (oc : Nat), k ≤ (canonV v).length ∧ s7 = .int .i64 k ∧ s5 = .slice oa (metK v u k).length oc ∧ wr.ownsRow w1.heap.size 49 3 (.slice oa (metK v u k).length oc) (metK v u k).length (dcells (metK v u k)) ∧ Below w1.heap.size w1 wr) (fun _ s7 _ => (canonV v).length - (intOf s7).toNat)
  case atStart => exact ⟨0, none, 0, Nat.zero_le _, rfl, rfl, World.ownsRow_nil _ _ _ _, Below.refl _ _⟩
  case round =>
    obtain ⟨k, oa, oc, hk, rfl, rfl, hown, hb⟩ := hrel
    have Hown := Lib.hid hown
    have Hb := Lib.hid hb
    have hs := hb.size
    have hml := metK_length v u k
    clear hown hb
    by_cases hlt : k < (canonV v).length
    · obtain ⟨⟨⟨r, i⟩, s⟩, hx⟩ : ∃ x, (canonV v)[k]? = some x := ⟨(canonV v)[k], by simp [hlt]⟩
      obtain ⟨ad, had, c0, c1, c2, hl0⟩ := (Hv1.out.below Hb.out).at hx
      have had' := had
      subst had'
      have Hx := Lib.hid hx
      have Hsucc := Lib.hid (metK_succ (u := u) hx)
      dsimp only at c0 c1 c2
      clear hx had
      go_wp2_with fail
      refine (rget_any b d u r i _ ((Hu.out.below HB1.out).below Hb.out) (by omega)).mono ?_
      rintro e w2 ⟨rfl, hb2⟩
      have Hown2 := Lib.hid (owns_chg Hown.out (Chg.of_below (F := []) hb2) (by simp))
      have Hb2 := Lib.hid (Hb.out.trans (hb2.mono hs))
      have hs2 := Hb2.out.size
      obtain ⟨ad', had2, c0, c1, c2, hl0⟩ := (Hv1.out.below Hb2.out).at Hx.out
      obtain rfl : ad = ad' := by simpa using had2
      dsimp only at c0 c1 c2
      clear hb2 had2 Hown Hb
      have key : ∀ x : Int, x = min (getN u (r, i)) s → Hid (metK v u (k + 1) = metK v u k ++ [((r, i), x)]) := fun x hx => by rw [hx]; exact Hsucc
      by_cases hgt : s < getN u (r, i)
      · have Hk := key s (by omega)
        clear key Hsucc
        go_wp2_with (at_builtin; go_must (refine wpList_append_sl rfl _ _ 28 rfl w1.heap.size 49 i0 (.agg #[.int .u8 0, .int .u32 0, .int .u64 0]) 3 16 Tryz.underlying28 hi0 hz0 hz1 hz2 rfl (by decide) oa (metK v u k).length oc (dcells (metK v u k)) rfl (Hown2.out.alloc _) (some ⟨w2.heap.size, 0, none⟩) 1 1 (dcell ((r, i), s)) rfl (Sl.blk (C := #[.int .u8 r, .int .u32 i, .int .u64 s]) (heap_new w2 _) rfl (by decide)) ?t1 ?c1 ?d1 ?e1 ?_))
        case t1 => exact dcells_one [((r, i), s)]
        case c1 => unfold maxLen; omega
        case d1 => omega
        case e1 => simp; omega
        intro a3 c3 w3 ho3 hC3 hob3
        have hlt3 := owns_lt Hown2.out
        have Ho3 : Hid (w3.ownsRow w1.heap.size 49 3 (.slice a3 (metK v u (k + 1)).length c3) (metK v u (k + 1)).length (dcells (metK v u (k + 1)))) := by
          rw [Hk.out, dcells_snoc]; exact Lib.hid (by simpa using ho3)
        have HB3 := Lib.hid ((Hb2.out.alloc hs2 _).trans (hC3.below (by simp; omega) (fun x hx => (hlt3 x hx).1)))
        clear ho3 hC3 hlt3
        go_wp2_with fail
        go_roundw
        case rel => exact ⟨k + 1, a3, c3, by omega, by go_num, by rw [Hk.out]; simp, Ho3.out, HB3.out⟩
        case measure => simp [intOf]; omega
      · have Hk := key (getN u (r, i)) (by omega)
        have hgt' : getN u (r, i) ≤ s := by omega
        clear key Hsucc
        go_wp2_with (at_builtin; go_must (refine wpList_append_sl rfl _ _ 28 rfl w1.heap.size 49 i0 (.agg #[.int .u8 0, .int .u32 0, .int .u64 0]) 3 16 Tryz.underlying28 hi0 hz0 hz1 hz2 rfl (by decide) oa (metK v u k).length oc (dcells (metK v u k)) rfl (Hown2.out.alloc _) (some ⟨w2.heap.size, 0, none⟩) 1 1 (dcell ((r, i), getN u (r, i))) rfl ?s1 ?t1 ?c1 ?d1 ?e1 ?_))
        case s1 => exact Sl.blk (C := #[.int .u8 r, .int .u32 i, .int .u64 (getN u (r, i))]) (heap_new w2 _) rfl (by decide)
        case t1 => exact dcells_one [((r, i), getN u (r, i))]
        case c1 => unfold maxLen; omega
        case d1 => omega
        case e1 => simp; omega
        intro a3 c3 w3 ho3 hC3 hob3
        have hlt3 := owns_lt Hown2.out
        have Ho3 : Hid (w3.ownsRow w1.heap.size 49 3 (.slice a3 (metK v u (k + 1)).length c3) (metK v u (k + 1)).length (dcells (metK v u (k + 1)))) := by
          rw [Hk.out, dcells_snoc]; exact Lib.hid (by simpa using ho3)
        have HB3 := Lib.hid ((Hb2.out.alloc hs2 _).trans (hC3.below (by simp; omega) (fun x hx => (hlt3 x hx).1)))
        clear ho3 hC3 hlt3
        go_wp2_with fail
        go_roundw
        case rel => exact ⟨k + 1, a3, c3, by omega, by go_num, by rw [Hk.out]; simp, Ho3.out, HB3.out⟩
        case measure => simp [intOf]; omega
    · have e : metK v u k = metV v u := by unfold metK metV; rw [List.take_of_length_le (by omega)]
      have hlm : (metV v u).length ≤ 64 := by rw [← e]; omega
      rw [e]
      have Hv5 : Hid (Vec wr oa oc (metV v u)) := by have := vec_of Hown.out; rw [e] at this; exact Lib.hid this
      clear e Hown hml
      have Hok5 := Lib.hid (okV_metV (b := u) hok)
      have Hcm := Lib.hid (canon_metV (b := u) hok)
      generalize metV v u = M at *
      go_wp2_with fail
      refine (rcanon_any oa oc M _ Hv5.out Hok5.out (by omega)).mono ?_
      rintro e w3 hV
      rw [Hcm.out] at hV
      have HV := Lib.hid (VecTo.from hV (HB1.out.trans (Hb.out.mono hs1)))
      obtain ⟨a3, c3, rfl, _⟩ := hV
      go_wp2_with fail
      go_ret
      exact HV.out
end Go.Proofs.YtaandcblndldmaaGreat

/- LowA -/


/- LowB -/


/- LowC -/

