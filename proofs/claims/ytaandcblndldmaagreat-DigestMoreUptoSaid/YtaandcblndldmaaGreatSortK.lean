/- Rows of elements of k cells that are sorted: between what a slice owns and the sort's own words. No program in sight. -/
import Derived.Test.YtaandcblndldmaaGreatBase
import Derived.Shelf.SlSortCmp.WholeK
namespace Go.Proofs.YtaandcblndldmaaGreat
open Go.RowKit
set_option linter.unusedVariables false
set_option linter.unusedSimpArgs false
section
variable {α : Type} {enc : α → List Value} {k : Nat}

theorem flatMap_len (hk : ∀ x, (enc x).length = k) (l : List α) : (l.flatMap enc).length = l.length * k := flat_len enc k l (fun y _ => hk y)
theorem flatMap_at (hk : ∀ x, (enc x).length = k) : ∀ (l : List α) (i j : Nat) (x : α), l[i]? = some x → j < k → (l.flatMap enc)[i * k + j]? = (enc x)[j]?
  | [], i, j, x, h, _ => by simp at h
  | y :: l, 0, j, x, h, hj => by
    simp at h
    subst h
    rw [List.flatMap_cons, List.getElem?_append_left (by rw [hk]; omega)]
    congr 1; omega
  | y :: l, i + 1, j, x, h, hj => by
    simp at h
    rw [List.flatMap_cons, List.getElem?_append_right (by rw [hk, Nat.succ_mul]; omega), ← flatMap_at hk l i j x h hj]
    congr 1
    rw [hk, Nat.succ_mul]; omega
end
section
variable {α : Type} [Inhabited α] {enc : α → List Value} {k : Nat}
theorem flatK_list (hk : ∀ x, (enc x).length = k) (k0 : 0 < k) (l : List α) : (Sort.flatK enc k l.toArray).toList = l.flatMap enc := by
  apply List.ext_getElem?
  intro t
  by_cases ht : t < l.length * k
  · have h1 : t / k < l.length := (Nat.div_lt_iff_lt_mul k0).2 ht
    have h2 : t % k < k := Nat.mod_lt _ k0
    have h3 := flatMap_at hk l (t / k) (t % k) (l[t / k]) (by simp [h1]) h2
    rw [Nat.div_add_mod'] at h3
    rw [h3, Array.getElem?_toList]
    have hs : t < (Sort.flatK enc k l.toArray).size := by simpa using ht
    have h4 := Sort.get_flatK enc k l.toArray t (by simpa using ht)
    rw [getElem!_pos _ t hs] at h4
    rw [Array.getElem?_eq_getElem hs, h4]
    have h5 : l.toArray[t / k]! = l[t / k] := by rw [getElem!_pos _ _ (by simpa using h1)]; simp
    rw [h5, List.getElem?_eq_getElem (by rw [hk]; exact h2), getElem!_pos _ _ (by rw [hk]; exact h2)]
  · rw [Array.getElem?_toList, Array.getElem?_eq_none (by simpa using Nat.le_of_not_lt ht), List.getElem?_eq_none (by rw [flatMap_len hk]; omega)]

theorem holdsK_of {w : World} {base e cap blk : Nat} {l : List α} (hk : ∀ x, (enc x).length = k) (k0 : 0 < k) (h : w.ownsRow base e k (.slice (some ⟨blk, 0, none⟩) l.length cap) l.length (l.flatMap enc)) :
    Sort.HoldsK enc k w blk 0 l.toArray ∧ blk < w.heap.size := by
  refine ⟨fun j hj => ?_, (owns_lt h blk (by simp [ob])).2⟩
  have hj' : j < l.length * k := by simpa using hj
  have h1 := h.cellAt (g := blk) j hj'
  have h2 := h.frozenAt (g := blk) j
  rw [Nat.zero_add]
  refine ⟨?_, h2⟩
  rw [h1, ← flatK_list hk k0, Array.getElem?_toList, Array.getElem?_eq_getElem hj, getElem!_pos _ j hj]
  rfl

theorem sorted_owns {w : World} {base e cap blk n : Nat} {os : Array Obj} {l l' : List α} (hk : ∀ x, (enc x).length = k) (k0 : 0 < k) (hl : l'.length = l.length) (h : w.ownsRow base e k (.slice (some ⟨blk, 0, none⟩) l.length cap) l.length (l.flatMap enc)) :
    (sortWorldK enc k w blk 0 n l'.toArray os).ownsRow base e k (.slice (some ⟨blk, 0, none⟩) l.length cap) l.length (l'.flatMap enc) ∧ Chg [blk] w (sortWorldK enc k w blk 0 n l'.toArray os) := by
  rcases h.2 with ⟨h1, _⟩ | ⟨g, cap', cur, h1, hb, hg, hn, hc, hs, ht⟩
  · simp at h1
  · simp at h1
    obtain ⟨rfl, rfl⟩ := h1
    have hlt : blk < w.heap.size := heap_lt hg
    have hheap : (sortWorldK enc k w blk 0 n l'.toArray os).heap[blk]? = some (.cells (Sort.putCells id 0 (Sort.flatK enc k l'.toArray) cur) e (0, 0)) := by
      unfold sortWorldK Sort.putRowK
      rw [Sort.heap_grow_old _ _ (by simpa using hlt)]
      simp [Sort.putRow, Sort.mapBlock, Sort.ahead, Array.getElem?_modify, hg, Sort.onCells]
    refine ⟨⟨by rw [flatMap_len hk, hl], .inr ⟨blk, cap, _, rfl, hb, hheap, hn, hc, by simp [Sort.putCells, hs], ?_⟩⟩, ⟨rfl, rfl, rfl, by simp [sortWorldK, Sort.putRowK], fun j hj hne => ?_⟩⟩
    · have hle : l.length * k ≤ cur.size := by rw [hs]; exact Nat.mul_le_mul_right k hn
      apply List.ext_getElem?
      intro j
      by_cases hj : j < l.length * k
      · rw [List.getElem?_take_of_lt hj, Array.getElem?_toList, ← flatK_list hk k0, Array.getElem?_toList]
        have hsz : (Sort.flatK enc k l'.toArray).size = l.length * k := by simp [hl]
        have hx : (Sort.flatK enc k l'.toArray)[j]? = some ((Sort.flatK enc k l'.toArray)[j]'(by rw [hsz]; exact hj)) := Array.getElem?_eq_getElem _
        rw [hx]
        simp [Sort.putCells, hsz, hj, show j < cur.size by omega]
      · rw [List.getElem?_take_eq_none (by omega), List.getElem?_eq_none (by rw [flatMap_len hk, hl]; omega)]
    · unfold sortWorldK Sort.putRowK
      rw [Sort.heap_grow_old _ _ (by simpa using hj)]
      have : blk ≠ j := fun e => hne (by simp [e])
      simp [Sort.putRow, Sort.mapBlock, Sort.ahead, Array.getElem?_modify, this]

theorem permIn_list {d d' : Array α} (h : Sort.PermIn 0 d.size d d') : d'.toList.Perm d.toList := by
  obtain ⟨h1, _, h3⟩ := h
  have e1 : d'.extract 0 d.size = d' := by rw [← h1]; simp
  have e2 : d.extract 0 d.size = d := by simp
  rwa [e1, e2] at h3
theorem sortedIn_list {lt : α → α → Bool} {d : Array α} {n : Nat} (hn : n = d.size) (h : Sort.SortedIn lt 0 n d) : d.toList.Pairwise fun x y => lt y x = false := by
  subst hn
  rw [List.pairwise_iff_getElem]
  intro i j hi hj hij
  have := h i j (Nat.zero_le _) hij (by simpa using hj)
  rw [getElem!_pos d i (by simpa using hi), getElem!_pos d j (by simpa using hj)] at this
  simpa using this
end
end Go.Proofs.YtaandcblndldmaaGreat
