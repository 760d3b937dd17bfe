/- container/heap over a queue of commits: calls through the interface. | Heaps of commits, plainly. No program in sight. | order.Ahead; the queue's Len, Less, Swap: the contracts. | container/heap's down over the queue: the contract. | The queue's Pop; container/heap's Init and Pop over the queue: the contracts. -/
import Derived.Test.YthdmoplclllhjaaGreatGraV
import Derived.Test.YthdmoplclllhjaaGreatRgA
import Derived.Test.YthdmoplclllhjaaGreatGraQ
import Derived.ChangeKeysEq
import Derived.Test.YthdmoplclllhjaaGreatFuseA
import Derived.Test.YthdmoplclllhjaaGreatWidB
import Derived.Test.YthdmoplclllhjaaGreatWitA
/- HeaA -/
namespace Go.Proofs.YthdmoplclllhjaaGreat
open Go.RowKit
set_option linter.unusedVariables false
set_option linter.unusedSimpArgs false

theorem load_q (qp : Nat) (v : Value) (w : World) (h : w.cell? ⟨qp, 0, none⟩ = some v) : (loadVar 140 ⟨qp, 0, none⟩).run Tryz.prog w = .ok v w := by
  simp [loadVar, go_sem, h]
end Go.Proofs.YthdmoplclllhjaaGreat

/- HeaP -/
namespace Go.Proofs.YthdmoplclllhjaaGreat
open Go.RowKit
set_option linter.unusedVariables false
set_option linter.unusedSimpArgs false

end Go.Proofs.YthdmoplclllhjaaGreat

/- HeaB -/
namespace Go.Proofs.YthdmoplclllhjaaGreat
open Go.RowKit
set_option linter.unusedVariables false
set_option linter.unusedSimpArgs false

end Go.Proofs.YthdmoplclllhjaaGreat

/- HeaC -/
namespace Go.Proofs.YthdmoplclllhjaaGreat
open Go.RowKit
set_option linter.unusedVariables false
set_option linter.unusedSimpArgs false

/-- the queue in memory -/
structure QuAt (w : World) (qp g c base : Nat) (l : List Cw) : Prop where
  q : w.heap[qp]? = some (.cells #[.slice (some ⟨g, 0, none⟩) l.length c] 140 (0, 0))
  own : OwnC w base (some ⟨g, 0, none⟩) c l
  ne : qp ≠ g
theorem cms_i {S : List Cw} {k : Nat} {v : Cw} (h : S[k]? = some v) : (cms S)[k]? = some v.c := by unfold cms; rw [List.getElem?_map, h]; rfl
end Go.Proofs.YthdmoplclllhjaaGreat

/- HeaD -/
namespace Go.Proofs.YthdmoplclllhjaaGreat
open Go.RowKit
set_option linter.unusedVariables false
set_option linter.unusedSimpArgs false

theorem slice_hiQ (oa : Option Addr) (n oc j : Nat) (hj : j ≤ oc) (W : World) : (Instr.sliceAt 140 (.slice oa n oc) none (some (.int .i64 (j : Int))) none).run Tryz.prog W = .ok (.slice oa j oc) W := by
  simp [go_sem, Instr.sliceAt, Instr.slice, run_underlying Tryz.underlying140]
  omega
end Go.Proofs.YthdmoplclllhjaaGreat
