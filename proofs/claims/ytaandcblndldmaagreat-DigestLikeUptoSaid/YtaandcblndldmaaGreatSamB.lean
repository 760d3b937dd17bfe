/- The reference's Bury, and Same on leaves (varveref05): contracts. | varveref07.Same where both trees are alike: the contract. | varveref12.SameBase where both are alike: the contract. -/
import Derived.Test.YtaandcblndldmaaGreatRefLA
import Derived.Test.YtaandcblndldmaaGreatOwtB
import Derived.Test.YtaandcblndldmaaGreatMeanW
import Derived.Test.YtaandcblndldmaaGreatWitA
/- RefLD -/
namespace Go.Proofs.YtaandcblndldmaaGreat
open Go.RowKit
set_option linter.unusedVariables false
set_option linter.unusedSimpArgs false

/-- two leaves' blocks came first -/
structure SM (w : World) (A B : Array Value) (W : World) : Prop where
  g : W.heap[w.heap.size]? = some (.cells A 178 (0, 0))
  h : W.heap[w.heap.size + 1]? = some (.cells B 178 (0, 0))
  bel : Below w.heap.size w W
  BEL : Below ((w.alloc (.cells A 178)).alloc (.cells B 178)).heap.size ((w.alloc (.cells A 178)).alloc (.cells B 178)) W
end Go.Proofs.YtaandcblndldmaaGreat

/- TrS -/
namespace Go.Proofs.YtaandcblndldmaaGreat
open Go.RowKit
set_option linter.unusedVariables false
set_option linter.unusedSimpArgs false

end Go.Proofs.YtaandcblndldmaaGreat

/- SamB -/
namespace Go.Proofs.YtaandcblndldmaaGreat
open Go.RowKit
set_option linter.unusedVariables false
set_option linter.unusedSimpArgs false

end Go.Proofs.YtaandcblndldmaaGreat
