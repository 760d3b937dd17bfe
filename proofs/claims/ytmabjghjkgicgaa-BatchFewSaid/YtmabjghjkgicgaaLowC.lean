/- Slices of dots; which dots may be and which are ahead, by the reference. -/
import Derived.Test.YtmabjghjkgicgaaLowB
/- DotC -/
namespace Go.Proofs.Ytmabjghjkgicgaa
open Go.RowKit
set_option linter.unusedVariables false
set_option linter.unusedSimpArgs false

/-- the cells of dots -/
def dcell (d : Dt) : List Value := [.int .u8 d.1.1, .int .u32 d.1.2, .int .u64 d.2]
def dcells (v : List Dt) : List Value := v.flatMap dcell
theorem dcells_length (v : List Dt) : (dcells v).length = v.length * 3 := by
  induction v with
  | nil => rfl
  | cons x v ih => simp only [dcells, List.flatMap_cons, List.length_append, List.length_cons] at ih ⊢; rw [ih]; simp [dcell]; omega
theorem dcells_snoc (v : List Dt) (d : Dt) : dcells (v ++ [d]) = dcells v ++ dcell d := by simp [dcells]
theorem dcells_append (v u : List Dt) : dcells (v ++ u) = dcells v ++ dcells u := by simp [dcells]
theorem dcells_one (v : List Dt) : ∀ u ∈ dcells v, u.oneCell' = true := by
  intro u hu
  obtain ⟨d, _, hd⟩ := List.mem_flatMap.1 hu
  simp [dcell] at hd
  rcases hd with rfl | rfl | rfl <;> rfl
theorem dcells_at {v : List Dt} {k : Nat} {d : Dt} (h : v[k]? = some d) : ∀ j, j < 3 → (dcells v)[k * 3 + j]? = (dcell d)[j]? := by
  induction v generalizing k with
  | nil => simp at h
  | cons x v ih =>
    intro j hj
    cases k with
    | zero =>
      simp at h
      subst h
      simp only [dcells, List.flatMap_cons]
      rw [List.getElem?_append_left (by simp [dcell]; omega)]
      congr 1; omega
    | succ k =>
      simp at h
      have := ih h j hj
      simp only [dcells, List.flatMap_cons] at this ⊢
      rw [List.getElem?_append_right (by simp [dcell]; omega), ← this]
      congr 1; simp [dcell]; omega
/-- a slice that reads as the vector v -/
def Vec (w : World) (a : Option Addr) (c : Nat) (v : List Dt) : Prop := Sl w 3 a v.length c (dcells v)
theorem Vec.below {w w' : World} {a : Option Addr} {c : Nat} {v : List Dt} (h : Vec w a c v) (hb : Below w.heap.size w w') : Vec w' a c v := Sl.below h hb
theorem Vec.at {w : World} {a : Option Addr} {c : Nat} {v : List Dt} (h : Vec w a c v) {k : Nat} {d : Dt} (hd : v[k]? = some d) :
    ∃ ad, a = some ad ∧ w.cell? (ad.add (k * 3)) = some (.int .u8 d.1.1) ∧ w.cell? ⟨(ad.add (k * 3)).block, (ad.add (k * 3)).off + 1, none⟩ = some (.int .u32 d.1.2) ∧ w.cell? ⟨(ad.add (k * 3)).block, (ad.add (k * 3)).off + 2, none⟩ = some (.int .u64 d.2) ∧ ad.block < w.heap.size := by
  have hk : k < v.length := (List.getElem?_eq_some_iff.1 hd).1
  obtain ⟨_, _, _, ⟨_, h0, _⟩ | ⟨ad, rfl, hc⟩⟩ := h
  · omega
  · have h0 := hc (k * 3) (.int .u8 d.1.1) (by simpa [dcell] using dcells_at hd 0 (by omega))
    have h1 := hc (k * 3 + 1) (.int .u32 d.1.2) (by simpa [dcell] using dcells_at hd 1 (by omega))
    have h2 := hc (k * 3 + 2) (.int .u64 d.2) (by simpa [dcell] using dcells_at hd 2 (by omega))
    rw [← Go.Deep.add_add] at h1 h2
    have e1 : (ad.add (k * 3)).add 1 = ⟨(ad.add (k * 3)).block, (ad.add (k * 3)).off + 1, none⟩ := rfl
    have e2 : (ad.add (k * 3)).add 2 = ⟨(ad.add (k * 3)).block, (ad.add (k * 3)).off + 2, none⟩ := rfl
    refine ⟨ad, rfl, h0, e1 ▸ h1, e2 ▸ h2, ?_⟩
    have := World.block_lt_of_cell? w _ h0
    have hb : (ad.add (k * 3)).block = ad.block := by unfold Addr.add; split <;> rfl
    rwa [hb] at this


theorem take_snoc' {α : Type} {v : List α} {k : Nat} {d : α} (h : v[k]? = some d) : v.take (k + 1) = v.take k ++ [d] := by
  obtain ⟨hk, rfl⟩ := List.getElem?_eq_some_iff.1 h
  rw [List.take_succ_eq_append_getElem hk]

theorem rmayActor_any (r i : Int) (w : World) : Calls Try.prog 106 #[.agg #[.int .u8 r, .int .u32 i]] w fun e w' => e = .returned (.bool (mayA (r, i))) ∧ Below w.heap.size w w' := by
  have hB : ∀ o, Below w.heap.size w (w.alloc o) := fun o => (Below.refl _ _).alloc (Nat.le_refl _) _
  by_cases h1 : r < 16
  · by_cases h2 : 1 ≤ i
    · by_cases h3 : i ≤ 4
      · have e : mayA (r, i) = true := by simp [mayA, h1, h2, h3]
        rw [e]
        clear e
        go_enter Try.func106, Try.ntmps106
        go_wp2
        go_ret
        exact ⟨rfl, hB _⟩
      · have e : mayA (r, i) = false := by simp [mayA, h1, h2, h3] <;> omega
        rw [e]
        clear e
        go_enter Try.func106, Try.ntmps106
        go_wp2
        go_ret
        exact ⟨rfl, hB _⟩
    · have e : mayA (r, i) = false := by simp [mayA, h1, h2] <;> omega
      rw [e]
      clear e
      go_enter Try.func106, Try.ntmps106
      go_wp2
      go_ret
      exact ⟨rfl, hB _⟩
  · have e : mayA (r, i) = false := by simp [mayA, h1] <;> omega
    rw [e]
    clear e
    go_enter Try.func106, Try.ntmps106
    go_wp2
    go_ret
    exact ⟨rfl, hB _⟩

theorem rmay_any (r i s : Int) (w : World) : Calls Try.prog 73 #[.agg #[.int .u8 r, .int .u32 i, .int .u64 s]] w fun e w' => e = .returned (.bool (may ((r, i), s))) ∧ Below w.heap.size w w' := by
  have hm : ∀ b, mayA (r, i) = b → Calls Try.prog 106 #[.agg #[.int .u8 r, .int .u32 i]] (w.alloc (.cells #[.int .u8 r, .int .u32 i, .int .u64 s] 31)) fun e w' => e = .returned (.bool b) ∧ Below w.heap.size w w' ∧ (∀ j, w'.cell? ⟨w.heap.size, j, none⟩ = #[Value.int .u8 r, .int .u32 i, .int .u64 s][j]?) := by
    intro b hb
    refine (rmayActor_any r i _).mono ?_
    rintro e w' ⟨rfl, hbl⟩
    obtain ⟨h1, h2, h3⟩ := new1 hbl
    rw [hb]
    exact ⟨rfl, h3, cells_at h1⟩
  cases hA : mayA (r, i) with
  | false =>
    have hm' := hm _ hA
    have e : may ((r, i), s) = false := by simp [may, hA]
    rw [e]
    clear e hm hA
    go_enter Try.func73, Try.ntmps73
    go_wp2_with (go_at_call 106; refine hm'.mono ?_; rintro e w' ⟨rfl, hb, hc⟩)
    go_ret
    exact ⟨rfl, hb⟩
  | true =>
    have hm' := hm _ hA
    clear hm
    by_cases h1 : 1 ≤ s
    · by_cases h2 : s ≤ 1048576
      · have e : may ((r, i), s) = true := by simp [may, hA, h1, h2]
        rw [e]
        clear e hA
        go_enter Try.func73, Try.ntmps73
        go_wp2_with (go_at_call 106; refine hm'.mono ?_; rintro e w' ⟨rfl, hb, hc⟩)
        go_ret
        exact ⟨rfl, hb⟩
      · have e : may ((r, i), s) = false := by simp [may, hA, h1, h2] <;> omega
        have h2' : decide (s ≤ 1048576) = false := by simpa using h2
        rw [e]
        clear e hA
        go_enter Try.func73, Try.ntmps73
        go_wp2_with (go_at_call 106; refine hm'.mono ?_; rintro e w' ⟨rfl, hb, hc⟩)
        go_ret
        exact ⟨rfl, hb⟩
    · have e : may ((r, i), s) = false := by simp [may, hA, h1] <;> omega
      rw [e]
      clear e hA
      go_enter Try.func73, Try.ntmps73
      go_wp2_with (go_at_call 106; refine hm'.mono ?_; rintro e w' ⟨rfl, hb, hc⟩)
      go_ret
      exact ⟨rfl, hb⟩


theorem rless_any (r i s r' i' s' : Int) (w : World) : Calls Try.prog 74 #[.agg #[.int .u8 r, .int .u32 i, .int .u64 s], .agg #[.int .u8 r', .int .u32 i', .int .u64 s']] w fun e w' => e = .returned (.bool (lessD ((r, i), s) ((r', i'), s'))) ∧ Below w.heap.size w w' := by
  have hB : ∀ o o', Below w.heap.size w ((w.alloc o).alloc o') := fun o o' => ((Below.refl _ _).alloc (Nat.le_refl _) _).alloc (by simp) _
  by_cases h1 : r = r'
  · subst h1
    by_cases h2 : i = i'
    · subst h2
      have e : lessD ((r, i), s) ((r, i), s') = decide (s < s') := by simp [lessD]
      rw [e]
      clear e
      go_enter Try.func74, Try.ntmps74
      go_wp2
      go_ret
      exact ⟨rfl, hB _ _⟩
    · have e : lessD ((r, i), s) ((r, i'), s') = decide (i < i') := by simp [lessD, h2]
      have h2' : (i != i') = true := by simpa using h2
      rw [e]
      clear e
      go_enter Try.func74, Try.ntmps74
      go_wp2
      go_ret
      exact ⟨rfl, hB _ _⟩
  · have e : lessD ((r, i), s) ((r', i'), s') = decide (r < r') := by simp [lessD, h1]
    have h1' : (r != r') = true := by simpa using h1
    rw [e]
    clear e
    go_enter Try.func74, Try.ntmps74
    go_wp2
    go_ret
    exact ⟨rfl, hB _ _⟩

end Go.Proofs.Ytmabjghjkgicgaa
