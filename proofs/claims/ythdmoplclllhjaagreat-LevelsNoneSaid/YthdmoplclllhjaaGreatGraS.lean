/- varvelaw12.GraphNone: the law's walk. -/
import Derived.Test.YthdmoplclllhjaaGreatGraR
namespace Go.Proofs.YthdmoplclllhjaaGreat
open Go.RowKit
set_option linter.unusedVariables false
set_option linter.unusedSimpArgs false

/-- the law's three blocks -/
structure NoE (w wr : World) (C : Array Value) : Prop where
  b0 : wr.heap[w.heap.size]? = some (.cells C 46 (0, 0))
  b1 : wr.heap[w.heap.size + 1]? = some (.cells #[.int .u64 0, .slice none 0 0, .slice none 0 0, .int .u64 0, .slice none 0 0, .map none, .slice none 0 0] 79 (0, 0))
  b2 : wr.heap[w.heap.size + 2]? = some (.cells #[.pointer none, .pointer (some ⟨w.heap.size + 1, 0, none⟩)] 33 (0, 0))
  bel : Below w.heap.size w wr
theorem NoE.step {w wr w' : World} {C : Array Value} (h : NoE w wr C) (hb : Below wr.heap.size wr w') : NoE w w' C :=
  ⟨(hb.block _ (heap_lt h.b0)).trans h.b0, (hb.block _ (heap_lt h.b1)).trans h.b1, (hb.block _ (heap_lt h.b2)).trans h.b2, below2 h.bel hb h.bel.size⟩
theorem NoE.at_ {w wr : World} {C : Array Value} (h : NoE w wr C) {q : Nat} (hq : q < 2) : ∃ p, wr.cell? ⟨w.heap.size + 2, q, none⟩ = some (.pointer p) ∧ NoG wr (.pointer p) := by
  have h2 := cells_at h.b2 q
  match q, hq with
  | 0, _ => exact ⟨none, h2, .inl rfl⟩
  | 1, _ => exact ⟨_, h2, .inr ⟨_, rfl, by rw [cells_at h.b1 5]; rfl⟩⟩
end Go.Proofs.YthdmoplclllhjaaGreat
