/- The reference's SamePath and Same of operations: contracts. (printed by wip/tools/genropa.py) | The reference's both (varveref39): contract. (printed by wip/tools/genropb.py) -/
import Derived.Test.YthdmoplclllhjaaGreatBatA
import Derived.Test.YthdmoplclllhjaaGreatRefLA
import Derived.Test.YthdmoplclllhjaaGreatFuseA
/- ROpA -/
namespace Go.Proofs.YthdmoplclllhjaaGreat
open Go.RowKit
set_option linter.unusedVariables false
set_option linter.unusedSimpArgs false

structure SMO (w : World) (A B : Array Value) (W : World) : Prop where
  g : W.heap[w.heap.size]? = some (.cells A 44 (0, 0))
  h : W.heap[w.heap.size + 1]? = some (.cells B 44 (0, 0))
  bel : Below w.heap.size w W
  BEL : Below ((w.alloc (.cells A 44)).alloc (.cells B 44)).heap.size ((w.alloc (.cells A 44)).alloc (.cells B 44)) W
theorem SMO.of {w W : World} {A B : Array Value} (h : Below ((w.alloc (.cells A 44)).alloc (.cells B 44)).heap.size ((w.alloc (.cells A 44)).alloc (.cells B 44)) W) : SMO w A B W := ⟨(new2 h).1, (new2 h).2.1, (new2 h).2.2.2, h⟩
theorem SMO.step {w W W' : World} {A B : Array Value} (h : SMO w A B W) (hb : Below W.heap.size W W') : SMO w A B W' := SMO.of (below2 h.BEL hb h.BEL.size)
theorem Opn.ext' {k n k' n' : Int} {x x' : ByteArray} {p p' : List ByteArray} {ds ds' : List Dt} (h0 : k = k') (h1 : n = n') (h2 : x = x') (h3 : p = p') (h4 : ds = ds') : (⟨k, n, x, p, ds⟩ : Opn) = ⟨k', n', x', p', ds'⟩ := by subst h0 h1 h2 h3 h4; rfl
end Go.Proofs.YthdmoplclllhjaaGreat

/- ROpB -/
namespace Go.Proofs.YthdmoplclllhjaaGreat
open Go.RowKit
set_option linter.unusedVariables false
set_option linter.unusedSimpArgs false

end Go.Proofs.YthdmoplclllhjaaGreat
