/- container/heap over a queue of commits: calls through the interface. | Heaps of commits, plainly. No program in sight. | order.Ahead; the queue's Len, Less, Swap: the contracts. | container/heap's down over the queue: the contract. | The queue's Pop; container/heap's Init and Pop over the queue: the contracts. -/
import Derived.Test.YtaandcblndldmaaGreatGraV
import Derived.Test.YtaandcblndldmaaGreatRgE
import Derived.ChangeKeysEq
import Derived.Test.YtaandcblndldmaaGreatBatC
import Derived.Test.YtaandcblndldmaaGreatRMbA
import Derived.Test.YtaandcblndldmaaGreatWitA
/- HeaA -/
namespace Go.Proofs.YtaandcblndldmaaGreat
open Go.RowKit
set_option linter.unusedVariables false
set_option linter.unusedSimpArgs false

end Go.Proofs.YtaandcblndldmaaGreat

/- HeaP -/
namespace Go.Proofs.YtaandcblndldmaaGreat
open Go.RowKit
set_option linter.unusedVariables false
set_option linter.unusedSimpArgs false

theorem ltCb_or (a b : Cm) : ltCb a b = true ↔ a.t < b.t ∨ a.t = b.t ∧ lessD a.d b.d = true := by
  unfold ltCb
  simp
end Go.Proofs.YtaandcblndldmaaGreat

/- HeaB -/
namespace Go.Proofs.YtaandcblndldmaaGreat
open Go.RowKit
set_option linter.unusedVariables false
set_option linter.unusedSimpArgs false

end Go.Proofs.YtaandcblndldmaaGreat

/- HeaC -/
namespace Go.Proofs.YtaandcblndldmaaGreat
open Go.RowKit
set_option linter.unusedVariables false
set_option linter.unusedSimpArgs false

end Go.Proofs.YtaandcblndldmaaGreat

/- HeaD -/
namespace Go.Proofs.YtaandcblndldmaaGreat
open Go.RowKit
set_option linter.unusedVariables false
set_option linter.unusedSimpArgs false

end Go.Proofs.YtaandcblndldmaaGreat
