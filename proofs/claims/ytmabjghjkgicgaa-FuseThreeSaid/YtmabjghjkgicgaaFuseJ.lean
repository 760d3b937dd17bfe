/- fuse.Merge, fuse.Purge: contracts. -/
import Derived.Test.YtmabjghjkgicgaaFuseI
import Derived.Laws.EntriesVeiled
namespace Go.Proofs.Ytmabjghjkgicgaa
open Go.RowKit
set_option linter.unusedVariables false
set_option linter.unusedSimpArgs false

def AllMay (l a b : Lf) : Prop := MayLf l ∧ MayLf a ∧ MayLf b
/-- what a merge tells: an error and nothing, or the merge -/
def MergeR (l a b : Lf) (code : Int) (m : Lf) : Prop :=
  (¬ AllMay l a b ∧ code = 2 ∧ m = bare 0) ∨ (AllMay l a b ∧ ¬ (l.k = a.k ∧ l.k = b.k) ∧ code = 15 ∧ m = bare 0) ∨ (AllMay l a b ∧ l.k = a.k ∧ l.k = b.k ∧ code = 0 ∧ Merged l a b m)
theorem MergeR.uniq {l a b m n : Lf} {c d : Int} (h : MergeR l a b c m) (k : MergeR l a b d n) : c = d ∧ m = n := by
  rcases h with ⟨h1, rfl, rfl⟩ | ⟨h1, h2, rfl, rfl⟩ | ⟨h1, h2, h3, rfl, h4⟩ <;> rcases k with ⟨k1, rfl, rfl⟩ | ⟨k1, k2, rfl, rfl⟩ | ⟨k1, k2, k3, rfl, k4⟩
  · exact ⟨rfl, rfl⟩
  · exact absurd k1 h1
  · exact absurd k1 h1
  · exact absurd h1 k1
  · exact ⟨rfl, rfl⟩
  · exact absurd ⟨k2, k3⟩ h2
  · exact absurd h1 k1
  · exact absurd ⟨h2, h3⟩ k2
  · exact ⟨rfl, h4.uniq k4⟩
def MergeTo (w : World) (l a b : Lf) (e : Ending) (w' : World) : Prop :=
  ∃ ia ic ta tc m code, e = .returned (.tuple #[lval m ia ic ta tc, .int .i64 code]) ∧ MergeR l a b code m ∧ MemL w w' m ia ic ta tc
theorem zero_at (w : World) : LfAt w (bare 0) none 0 none 0 := LfAt.none rfl rfl
theorem MemL.zero {w w' : World} (h : Below w.heap.size w w') : MemL w w' (bare 0) none 0 none 0 := ⟨zero_at _, fun h => absurd rfl h, fun h => absurd rfl h, h⟩
/-- what lies ready in the merge: the three leaves, the result -/
structure MgE (w W : World) (A B C D : Array Value) : Prop where
  b0 : W.heap[w.heap.size]? = some (.cells A 40 (0, 0))
  b1 : W.heap[w.heap.size + 1]? = some (.cells B 40 (0, 0))
  b2 : W.heap[w.heap.size + 2]? = some (.cells C 40 (0, 0))
  b3 : W.heap[w.heap.size + 3]? = some (.cells D 40 (0, 0))
  sz : w.heap.size + 4 ≤ W.heap.size
  bel : Below w.heap.size w W
theorem MgE.of {w W : World} {A B C D : Array Value} (hb : Below ((((w.alloc (.cells A 40)).alloc (.cells B 40)).alloc (.cells C 40)).alloc (.cells D 40)).heap.size ((((w.alloc (.cells A 40)).alloc (.cells B 40)).alloc (.cells C 40)).alloc (.cells D 40)) W) : MgE w W A B C D := by
  obtain ⟨h0, h1, h2, h3, h4, h5⟩ := four_at w _ _ _ _ hb
  exact ⟨h0, h1, h2, h3, h4, h5⟩
theorem MgE.step {w W W' : World} {A B C D : Array Value} (h : MgE w W A B C D) (hb : Below W.heap.size W W') : MgE w W' A B C D :=
  ⟨(hb.block _ (heap_lt h.b0)).trans h.b0, (hb.block _ (heap_lt h.b1)).trans h.b1, (hb.block _ (heap_lt h.b2)).trans h.b2, (hb.block _ (heap_lt h.b3)).trans h.b3, by have := h.sz; have := hb.size; omega, below2 h.bel hb h.bel.size⟩
def zcells : Array Value := #[.int .u8 0, .int .i64 0, .int .u64 0, .int .u8 0, .int .u32 0, .int .u64 0, .string ⟨#[]⟩, .slice none 0 0, .slice none 0 0]
theorem counter_eq {a : Lf} (h : MayLf a) (hk : a.k = 1) (n : Int) : { a with n := n } = { bare 1 with n := n } ∧ a.items = [] ∧ a.tombs = [] := by
  rcases h with ⟨_, ⟨h1, h2, h3⟩, h4, h5⟩ | h | h | h
  · refine ⟨?_, h4, h5⟩
    exact Lf.ext' hk rfl h1 h2 (empty_bytes h3) h4 h5
  · rw [hk] at h; simp at h
  · rw [hk] at h; simp at h
  · rw [hk] at h; simp at h
theorem register_eq {a : Lf} (h : MayLf a) (hk : a.k = 2) : a = { bare 2 with t := a.t, d := a.d, x := a.x } ∧ a.items = [] ∧ a.tombs = [] := by
  rcases h with h | ⟨_, h1, h2, h4, h5⟩ | h | h
  · rw [hk] at h; simp at h
  · exact ⟨Lf.ext' hk h1 rfl rfl rfl h4 h5, h4, h5⟩
  · rw [hk] at h; simp at h
  · rw [hk] at h; simp at h
theorem merged_reg {l a b m : Lf} (hk : l.k = 2) (h : regP a b = m) (he : m = { bare 2 with t := m.t, d := m.d, x := m.x }) : Merged l a b m := .inr (.inl ⟨hk, by rw [h]; exact he⟩)
theorem nodup_of {a : Lf} (h : MayLf a) : (dotsOf a.items).Nodup := by
  rcases h with ⟨_, _, h, _⟩ | ⟨_, _, _, h, _⟩ | ⟨_, _, _, h, _⟩ | ⟨_, _, _, h, _⟩
  · rw [h]; simp [dotsOf]
  · rw [h]; simp [dotsOf]
  · exact h.2.2
  · exact h.2.2
theorem nine_mem {w W0 W : World} {m : Lf} {ia ta : Option Addr} {ic tc : Nat} (h : MemL W0 W m ia ic ta tc) (hs : w.heap.size + 3 < W0.heap.size) (x0 x1 x2 x3 x4 x5 x6 x7 x8 : Value) (hb : Below w.heap.size w W) :
    MemL w (((((((((W.setCell ⟨w.heap.size + 3, 0, none⟩ x0).setCell ⟨w.heap.size + 3, 1, none⟩ x1).setCell ⟨w.heap.size + 3, 2, none⟩ x2).setCell ⟨w.heap.size + 3, 3, none⟩ x3).setCell ⟨w.heap.size + 3, 4, none⟩ x4).setCell ⟨w.heap.size + 3, 5, none⟩ x5).setCell ⟨w.heap.size + 3, 6, none⟩ x6).setCell ⟨w.heap.size + 3, 7, none⟩ x7).setCell ⟨w.heap.size + 3, 8, none⟩ x8) m ia ic ta tc := by
  have oi : m.items ≠ [] → OwnI (((((((((W.setCell ⟨w.heap.size + 3, 0, none⟩ x0).setCell ⟨w.heap.size + 3, 1, none⟩ x1).setCell ⟨w.heap.size + 3, 2, none⟩ x2).setCell ⟨w.heap.size + 3, 3, none⟩ x3).setCell ⟨w.heap.size + 3, 4, none⟩ x4).setCell ⟨w.heap.size + 3, 5, none⟩ x5).setCell ⟨w.heap.size + 3, 6, none⟩ x6).setCell ⟨w.heap.size + 3, 7, none⟩ x7).setCell ⟨w.heap.size + 3, 8, none⟩ x8) W0.heap.size ia ic m.items := fun h1 => owns9 (h.oi h1) hs _ _ _ _ _ _ _ _ _
  have ot : m.tombs ≠ [] → OwnD (((((((((W.setCell ⟨w.heap.size + 3, 0, none⟩ x0).setCell ⟨w.heap.size + 3, 1, none⟩ x1).setCell ⟨w.heap.size + 3, 2, none⟩ x2).setCell ⟨w.heap.size + 3, 3, none⟩ x3).setCell ⟨w.heap.size + 3, 4, none⟩ x4).setCell ⟨w.heap.size + 3, 5, none⟩ x5).setCell ⟨w.heap.size + 3, 6, none⟩ x6).setCell ⟨w.heap.size + 3, 7, none⟩ x7).setCell ⟨w.heap.size + 3, 8, none⟩ x8) W0.heap.size ta tc m.tombs := fun h1 => owns9 (h.ot h1) hs _ _ _ _ _ _ _ _ _
  refine ⟨⟨?_, ?_, h.rd.li, h.rd.lt⟩, fun h1 => (oi h1).base (by omega), fun h1 => (ot h1).base (by omega), below_nine hb _ _ _ _ _ _ _ _ _⟩
  · by_cases h1 : m.items = []
    · obtain ⟨g1, g2, g3, g4⟩ := h.rd.its
      refine ⟨g1, g2, g3, ?_⟩
      rcases g4 with g4 | ⟨ad, ha, _⟩
      · exact .inl g4
      · exact .inr ⟨ad, ha, fun j u hj => by rw [h1] at hj; simp [icells] at hj⟩
    · exact (oi h1).its
  · by_cases h1 : m.tombs = []
    · obtain ⟨g1, g2, g3, g4⟩ := h.rd.tms
      refine ⟨g1, g2, g3, ?_⟩
      rcases g4 with g4 | ⟨ad, ha, _⟩
      · exact .inl g4
      · exact .inr ⟨ad, ha, fun j u hj => by rw [h1] at hj; simp [dcells] at hj⟩
    · exact (ot h1).vec
/-- Purge -/
def PurgeR (l : Lf) (code : Int) (m : Lf) : Prop := (¬ MayLf l ∧ code = 2 ∧ m = bare 0) ∨ (MayLf l ∧ code = 0 ∧ m = { l with tombs := [] })
theorem PurgeR.uniq {l m n : Lf} {c d : Int} (h : PurgeR l c m) (k : PurgeR l d n) : c = d ∧ m = n := by
  rcases h with ⟨h1, rfl, rfl⟩ | ⟨h1, rfl, rfl⟩ <;> rcases k with ⟨k1, rfl, rfl⟩ | ⟨k1, rfl, rfl⟩
  · exact ⟨rfl, rfl⟩
  · exact absurd k1 h1
  · exact absurd h1 k1
  · exact ⟨rfl, rfl⟩
end Go.Proofs.Ytmabjghjkgicgaa
