/- More plain words on memory: a slice that is a whole block. -/
import Derived.Test.YtblahapjdgncfaaMemC
namespace Go.Proofs.Ytblahapjdgncfaa
open Go.RowKit
set_option linter.unusedVariables false
set_option linter.unusedSimpArgs false
theorem Sl.blk {w : World} {b n size : Nat} {C : Array Value} {t : TypeId} {fr : Nat × Nat} (h : w.heap[b]? = some (.cells C t fr)) (hs : C.size = n * size) (hn : n ≤ maxLen) : Sl w size (some ⟨b, 0, none⟩) n n C.toList :=
  ⟨by simpa using hs, Nat.le_refl _, hn, .inr ⟨_, rfl, World.news_of_block h⟩⟩
theorem heap_new2 (w : World) (o1 o2 : Obj) : ((w.alloc o1).alloc o2).heap[w.heap.size + 1]? = some o2 := by
  have h := heap_new (w.alloc o1) o2
  rwa [World.size_alloc] at h
theorem heap_new3 (w : World) (o1 o2 o3 : Obj) : (((w.alloc o1).alloc o2).alloc o3).heap[w.heap.size + 1 + 1]? = some o3 := by
  have h := heap_new2 (w.alloc o1) o2 o3
  rwa [World.size_alloc] at h
end Go.Proofs.Ytblahapjdgncfaa
