/- varveref04.May, exact. -/
import Derived.Test.YtbeblbgbngplhaaGreatEvA
import Derived.Test.YtbeblbgbngplhaaGreatRefLA
namespace Go.Proofs.YtbeblbgbngplhaaGreat
open Go.RowKit
set_option linter.unusedVariables false
set_option linter.unusedSimpArgs false

/-- an operation that may be -/
structure OpP (k n : Int) (x : ByteArray) (p : List ByteArray) (ds : List Dt) : Prop where
  kind : typeOf k ≠ 0
  path : PathP p
  text : x.size ≤ 40
  few : ds.length ≤ 64
  add : k = 1 → -1000000 ≤ n ∧ n ≤ 1000000 ∧ x.size = 0 ∧ ds = []
  rest : k ≠ 1 → n = 0 ∧ (k ≠ 4 → ds = []) ∧ AllT ds
def JOpX (n : Nat) (w : World) (C : Array Value) (ds : List Dt) (j : Value) (wr : World) : Prop := ∃ q : Nat, q ≤ n ∧ j = .int .i64 q ∧ OpE w wr C ∧ (∀ d ∈ ds.take q, may d = true) ∧ upTo ltD ds q
end Go.Proofs.YtbeblbgbngplhaaGreat
