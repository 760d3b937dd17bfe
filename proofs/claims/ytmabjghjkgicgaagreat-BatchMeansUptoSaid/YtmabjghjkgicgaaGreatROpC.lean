/- The reference's with (varveref39): contract. -/
import Derived.Test.YtmabjghjkgicgaaGreatROpA
import Derived.Test.YtmabjghjkgicgaaGreatBatC
namespace Go.Proofs.YtmabjghjkgicgaaGreat
open Go.RowKit
set_option linter.unusedVariables false
set_option linter.unusedSimpArgs false

structure WX (w : World) (A B C : Array Value) (W : World) : Prop where
  b0 : W.heap[w.heap.size]? = some (.cells A 59 (0, 0))
  b1 : W.heap[w.heap.size + 1]? = some (.cells B 59 (0, 0))
  b2 : W.heap[w.heap.size + 2]? = some (.cells C 59 (0, 0))
  sz : w.heap.size + 3 ≤ W.heap.size
  bel : Below w.heap.size w W
theorem WX.of {w W : World} {A B C : Array Value} (hb : Below (((w.alloc (.cells A 59)).alloc (.cells B 59)).alloc (.cells C 59)).heap.size (((w.alloc (.cells A 59)).alloc (.cells B 59)).alloc (.cells C 59)) W) : WX w A B C W := by
  obtain ⟨h0, h1, h2, h3, h4⟩ := new3 hb
  exact ⟨h0, h1, h2, h3, h4⟩
theorem WX.step {w W W' : World} {A B C : Array Value} (h : WX w A B C W) (hb : Below W.heap.size W W') : WX w A B C W' :=
  ⟨(hb.block _ (heap_lt h.b0)).trans h.b0, (hb.block _ (heap_lt h.b1)).trans h.b1, (hb.block _ (heap_lt h.b2)).trans h.b2, by have := h.sz; have := hb.size; omega, below2 h.bel hb h.bel.size⟩
end Go.Proofs.YtmabjghjkgicgaaGreat
