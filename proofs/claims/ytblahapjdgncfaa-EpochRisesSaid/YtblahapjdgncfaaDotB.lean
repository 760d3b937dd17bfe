/- dot.compare, dot.Compare. -/
import Derived.Test.YtblahapjdgncfaaDotA
namespace Go.Proofs.Ytblahapjdgncfaa
open Go.RowKit
set_option linter.unusedVariables false
set_option linter.unusedSimpArgs false

theorem below_grow (w : World) (q : Nat) (os : Array Obj) : Below w.heap.size w (Sort.grow (w.drewN q) os) := by
  refine ⟨rfl, rfl, rfl, by simp [Sort.grow, World.drewN], fun k hk => ?_⟩
  have h : (w.drewN q).heap = w.heap := rfl
  simp only [Sort.grow, h]
  rw [Array.getElem?_append_left hk]

theorem at_new3 (w : World) (o1 o2 o3 : Obj) : (((w.alloc o1).alloc o2).alloc o3).drew.heap[w.heap.size + 1 + 1]? = some o3 := by
  have h := heap_new ((w.alloc o1).alloc o2) o3
  rw [World.size_alloc, World.size_alloc] at h
  exact h
/-- blocks and draws came, nothing else -/
def Grown (w w' : World) : Prop := ∃ q os, w' = Sort.grow (w.drewN q) os
theorem Grown.refl (w : World) : Grown w w := ⟨0, #[], by simp [Sort.grow, World.drewN]⟩
theorem Grown.alloc {w w' : World} (h : Grown w w') (o : Obj) : Grown w (w'.alloc o) := by
  obtain ⟨q, os, rfl⟩ := h
  exact ⟨q, os ++ #[o], by rw [Sort.alloc_eq_grow, Sort.grow_grow]⟩
theorem Grown.drew {w w' : World} (h : Grown w w') : Grown w w'.drew := by
  obtain ⟨q, os, rfl⟩ := h
  exact ⟨q + 1, os, by simp [Sort.grow, World.drewN, World.drew]; omega⟩
theorem Grown.trans {a b c : World} (h : Grown a b) (k : Grown b c) : Grown a c := by
  obtain ⟨q, os, rfl⟩ := h
  obtain ⟨q', os', rfl⟩ := k
  exact ⟨q + q', os ++ os', by simp [Sort.grow, World.drewN]; omega⟩
theorem Grown.below {w w' : World} (h : Grown w w') : Below w.heap.size w w' := by
  obtain ⟨q, os, rfl⟩ := h
  exact below_grow w q os
theorem two_at {W : World} {g : Nat} {x y : Int} {t : TypeId} (h : W.heap[g]? = some (.cells #[.int .i64 x, .int .i64 y] t (0, 0))) : ∀ j z, [x, y][j]? = some z → W.cell? ⟨g, j, none⟩ = some (.int .i64 z) := by
  intro j z hj
  rw [cells_at h]
  match j with
  | 0 => simp at hj; subst hj; rfl
  | 1 => simp at hj; subst hj; rfl
  | j + 2 => simp at hj

theorem compare_any (r i r' i' : Int) (w : World) :
    Calls Try.prog 67 #[.agg #[.int .u8 r, .int .u32 i], .agg #[.int .u8 r', .int .u32 i']] w fun e w' => e = .returned (.int .i64 (cmpA (r, i) (r', i'))) ∧ Grown w w' := by
  go_enter Try.func67, Try.ntmps67
  go_wp2_with fail
  refine region_text [([0, 1, 2, 3, 5, 6, 7, 8], false), ([4], true), ([9, 10, 11, 12], false)] mixed (by kernel_rfl) ?_
  simp only [wpSegs, List.map_cons, List.map_nil, List.getD_cons_succ, List.getD_cons_zero]
  go_wp2_with fail
  refine (cmpu8 _ _ _).mono ?_
  rintro e w' ⟨rfl, rfl⟩
  go_wp2_with fail
  refine And.intro (Agree.refl _) ?_
  go_wp2_with fail
  refine (cmpu32 _ _ _).mono ?_
  rintro e w' ⟨rfl, rfl⟩
  go_wp2_with fail
  refine (or_any _ [cmpI r r', cmpI i i'] _ (two_at (t := 3) ?hx) (by simp)).mono ?_
  case hx => first | exact heap_new _ _ | exact at_new3 _ _ _ _
  rintro e w' ⟨rfl, rfl⟩
  go_wp2_with fail
  refine And.intro (by kernel_rfl) ?_
  go_wp2_with fail
  go_ret
  exact ⟨rfl, ((((Grown.refl w).alloc _).alloc _).alloc _).drew⟩

def cmpDD (a b : Dt) : Int := orI [cmpA a.1 b.1, cmpI a.2 b.2]
theorem compareD_any (r i s r' i' s' : Int) (w : World) :
    Calls Try.prog 19 #[.agg #[.int .u8 r, .int .u32 i, .int .u64 s], .agg #[.int .u8 r', .int .u32 i', .int .u64 s']] w fun e w' => e = .returned (.int .i64 (cmpDD ((r, i), s) ((r', i'), s'))) ∧ Grown w w' := by
  go_enter Try.func19, Try.ntmps19
  go_wp2_with fail
  refine region_text [([0, 1, 2, 3, 5, 6, 7, 8], false), ([4], true), ([9, 10, 11, 12], false)] mixed (by kernel_rfl) ?_
  simp only [wpSegs, List.map_cons, List.map_nil, List.getD_cons_succ, List.getD_cons_zero]
  go_wp2_with fail
  refine (compare_any _ _ _ _ _).mono ?_
  rintro e w1 ⟨rfl, hg⟩
  have hbl := hg.below
  go_wp2_with fail
  refine And.intro (Agree.of_below hbl) ?_
  clear hbl
  go_wp2_with fail
  refine (cmpu64 _ _ _).mono ?_
  rintro e w' ⟨rfl, rfl⟩
  go_wp2_with fail
  refine (or_any _ [cmpA (r, i) (r', i'), cmpI s s'] _ (two_at (t := 3) ?hx) (by simp)).mono ?_
  case hx => first | exact heap_new _ _ | exact at_new3 _ _ _ _
  rintro e w' ⟨rfl, rfl⟩
  go_wp2_with fail
  refine And.intro (by kernel_rfl) ?_
  go_wp2_with fail
  go_ret
  exact ⟨rfl, (((((Grown.refl w).alloc _).alloc _).drew).trans hg).alloc _⟩
theorem cmpDD_eq (a b : Dt) : cmpDD a b = cmpD a b := by
  obtain ⟨⟨r, i⟩, s⟩ := a
  obtain ⟨⟨r', i'⟩, s'⟩ := b
  simp only [cmpDD, cmpA, cmpI, orI, cmpD, lessD, decide_eq_true_eq]
  rcases Int.lt_trichotomy r r' with h | h | h
  · simp [h, show ¬ r' < r by omega]
  · subst h
    rcases Int.lt_trichotomy i i' with h | h | h
    · simp [h, show ¬ i' < i by omega]
    · subst h
      rcases Int.lt_trichotomy s s' with h | h | h
      · simp [h, show ¬ s' < s by omega]
      · subst h; simp
      · simp [h, show ¬ s < s' by omega]
    · simp [h, show ¬ i < i' by omega, show ¬ i = i' by omega]
  · simp [h, show ¬ r < r' by omega, show ¬ r = r' by omega]
theorem cmpA_neg (a b : Ac) : cmpA a b < 0 ↔ ltA a b := by
  obtain ⟨r, i⟩ := a
  obtain ⟨r', i'⟩ := b
  simp only [cmpA, cmpI, orI, ltA]
  rcases Int.lt_trichotomy r r' with h | h | h
  · simp [h]
  · subst h
    rcases Int.lt_trichotomy i i' with h | h | h
    · simp [h]
    · subst h; simp
    · simp [h, show ¬ i < i' by omega]
  · simp [h, show ¬ r < r' by omega, show ¬ r = r' by omega]
theorem cmpD_neg (a b : Dt) : cmpD a b < 0 ↔ lessD a b = true := by
  unfold cmpD
  split
  · rename_i h; simp [h]
  · rename_i h
    split <;> simp [h]
end Go.Proofs.Ytblahapjdgncfaa
