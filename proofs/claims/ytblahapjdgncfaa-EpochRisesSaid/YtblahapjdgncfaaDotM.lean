/- The reference's MayActor, May, Less, Compare, Get, Has, Within. -/
import Derived.Test.YtblahapjdgncfaaDotK
namespace Go.Proofs.Ytblahapjdgncfaa
open Go.RowKit
set_option linter.unusedVariables false
set_option linter.unusedSimpArgs false

theorem rmayActor_any (r i : Int) (w : World) : Calls Try.prog 16 #[.agg #[.int .u8 r, .int .u32 i]] w fun e w' => e = .returned (.bool (mayA (r, i))) ∧ Below w.heap.size w w' := by
  have hB : ∀ o, Below w.heap.size w (w.alloc o) := fun o => (Below.refl _ _).alloc (Nat.le_refl _) _
  by_cases h1 : r < 16
  · by_cases h2 : 1 ≤ i
    · by_cases h3 : i ≤ 4
      · have e : mayA (r, i) = true := by simp [mayA, h1, h2, h3]
        rw [e]
        clear e
        go_enter Try.func16, Try.ntmps16
        go_wp2
        go_ret
        exact ⟨rfl, hB _⟩
      · have e : mayA (r, i) = false := by simp [mayA, h1, h2, h3] <;> omega
        rw [e]
        clear e
        go_enter Try.func16, Try.ntmps16
        go_wp2
        go_ret
        exact ⟨rfl, hB _⟩
    · have e : mayA (r, i) = false := by simp [mayA, h1, h2] <;> omega
      rw [e]
      clear e
      go_enter Try.func16, Try.ntmps16
      go_wp2
      go_ret
      exact ⟨rfl, hB _⟩
  · have e : mayA (r, i) = false := by simp [mayA, h1] <;> omega
    rw [e]
    clear e
    go_enter Try.func16, Try.ntmps16
    go_wp2
    go_ret
    exact ⟨rfl, hB _⟩

theorem rmay_any (r i s : Int) (w : World) : Calls Try.prog 18 #[.agg #[.int .u8 r, .int .u32 i, .int .u64 s]] w fun e w' => e = .returned (.bool (may ((r, i), s))) ∧ Below w.heap.size w w' := by
  have hm : ∀ b, mayA (r, i) = b → Calls Try.prog 16 #[.agg #[.int .u8 r, .int .u32 i]] (w.alloc (.cells #[.int .u8 r, .int .u32 i, .int .u64 s] 34)) fun e w' => e = .returned (.bool b) ∧ Below w.heap.size w w' ∧ (∀ j, w'.cell? ⟨w.heap.size, j, none⟩ = #[Value.int .u8 r, .int .u32 i, .int .u64 s][j]?) := by
    intro b hb
    refine (rmayActor_any r i _).mono ?_
    rintro e w' ⟨rfl, hbl⟩
    obtain ⟨h1, h2, h3⟩ := new1 hbl
    rw [hb]
    exact ⟨rfl, h3, cells_at h1⟩
  cases hA : mayA (r, i) with
  | false =>
    have hm' := hm _ hA
    have e : may ((r, i), s) = false := by simp [may, hA]
    rw [e]
    clear e hm hA
    go_enter Try.func18, Try.ntmps18
    go_wp2_with (go_at_call 16; refine hm'.mono ?_; rintro e w' ⟨rfl, hb, hc⟩)
    go_ret
    exact ⟨rfl, hb⟩
  | true =>
    have hm' := hm _ hA
    clear hm
    by_cases h1 : 1 ≤ s
    · by_cases h2 : s ≤ 1048576
      · have e : may ((r, i), s) = true := by simp [may, hA, h1, h2]
        rw [e]
        clear e hA
        go_enter Try.func18, Try.ntmps18
        go_wp2_with (go_at_call 16; refine hm'.mono ?_; rintro e w' ⟨rfl, hb, hc⟩)
        go_ret
        exact ⟨rfl, hb⟩
      · have e : may ((r, i), s) = false := by simp [may, hA, h1, h2] <;> omega
        have h2' : decide (s ≤ 1048576) = false := by simpa using h2
        rw [e]
        clear e hA
        go_enter Try.func18, Try.ntmps18
        go_wp2_with (go_at_call 16; refine hm'.mono ?_; rintro e w' ⟨rfl, hb, hc⟩)
        go_ret
        exact ⟨rfl, hb⟩
    · have e : may ((r, i), s) = false := by simp [may, hA, h1] <;> omega
      rw [e]
      clear e hA
      go_enter Try.func18, Try.ntmps18
      go_wp2_with (go_at_call 16; refine hm'.mono ?_; rintro e w' ⟨rfl, hb, hc⟩)
      go_ret
      exact ⟨rfl, hb⟩


theorem rless_any (r i s r' i' s' : Int) (w : World) : Calls Try.prog 69 #[.agg #[.int .u8 r, .int .u32 i, .int .u64 s], .agg #[.int .u8 r', .int .u32 i', .int .u64 s']] w fun e w' => e = .returned (.bool (lessD ((r, i), s) ((r', i'), s'))) ∧ Below w.heap.size w w' := by
  have hB : ∀ o o', Below w.heap.size w ((w.alloc o).alloc o') := fun o o' => ((Below.refl _ _).alloc (Nat.le_refl _) _).alloc (by simp) _
  by_cases h1 : r = r'
  · subst h1
    by_cases h2 : i = i'
    · subst h2
      have e : lessD ((r, i), s) ((r, i), s') = decide (s < s') := by simp [lessD]
      rw [e]
      clear e
      go_enter Try.func69, Try.ntmps69
      go_wp2
      go_ret
      exact ⟨rfl, hB _ _⟩
    · have e : lessD ((r, i), s) ((r, i'), s') = decide (i < i') := by simp [lessD, h2]
      have h2' : (i != i') = true := by simpa using h2
      rw [e]
      clear e
      go_enter Try.func69, Try.ntmps69
      go_wp2
      go_ret
      exact ⟨rfl, hB _ _⟩
  · have e : lessD ((r, i), s) ((r', i'), s') = decide (r < r') := by simp [lessD, h1]
    have h1' : (r != r') = true := by simpa using h1
    rw [e]
    clear e
    go_enter Try.func69, Try.ntmps69
    go_wp2
    go_ret
    exact ⟨rfl, hB _ _⟩

theorem rcompare_any (r i s r' i' s' : Int) (w : World) : Calls Try.prog 20 #[.agg #[.int .u8 r, .int .u32 i, .int .u64 s], .agg #[.int .u8 r', .int .u32 i', .int .u64 s']] w fun e w' => e = .returned (.int .i64 (cmpD ((r, i), s) ((r', i'), s'))) ∧ Below w.heap.size w w' := by
  go_enter Try.func20, Try.ntmps20
  go_wp2_with fail
  refine (rless_any r i s r' i' s' _).mono ?_
  rintro e w1 ⟨rfl, hb1⟩
  obtain ⟨hx0, hx1, hz, hB1⟩ := new2 hb1
  have c0 := cells_at hx0
  have c1 := cells_at hx1
  cases hl : lessD ((r, i), s) ((r', i'), s') with
  | true =>
    have He := Lib.hid (show cmpD ((r, i), s) ((r', i'), s') = -1 by simp [cmpD, hl])
    clear hl hb1 hx0 hx1
    go_wp2_with fail
    go_ret
    exact ⟨by rw [He.out]; rfl, hB1⟩
  | false =>
    clear hb1 hx0 hx1
    go_wp2_with fail
    refine (rless_any r' i' s' r i s _).mono ?_
    rintro e w2 ⟨rfl, hb2⟩
    have hB2 : Below w.heap.size w w2 := hB1.trans (hb2.mono hB1.size)
    cases hl2 : lessD ((r', i'), s') ((r, i), s) with
    | true =>
      have He := Lib.hid (show cmpD ((r, i), s) ((r', i'), s') = 1 by simp [cmpD, hl, hl2])
      clear hl hl2 hb2
      go_wp2_with fail
      go_ret
      exact ⟨by rw [He.out]; rfl, hB2⟩
    | false =>
      have He := Lib.hid (show cmpD ((r, i), s) ((r', i'), s') = 0 by simp [cmpD, hl, hl2])
      clear hl hl2 hb2
      go_wp2_with fail
      go_ret
      exact ⟨by rw [He.out]; rfl, hB2⟩
end Go.Proofs.Ytblahapjdgncfaa
