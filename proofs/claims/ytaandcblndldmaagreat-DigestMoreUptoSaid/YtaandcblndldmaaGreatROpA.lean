/- The reference's SamePath and Same of operations: contracts. (printed by wip/tools/genropa.py) | The reference's both (varveref39): contract. (printed by wip/tools/genropb.py) -/
import Derived.Test.YtaandcblndldmaaGreatBatA
import Derived.Test.YtaandcblndldmaaGreatRefLA
import Derived.Test.YtaandcblndldmaaGreatBatC
/- ROpA -/
namespace Go.Proofs.YtaandcblndldmaaGreat
open Go.RowKit
set_option linter.unusedVariables false
set_option linter.unusedSimpArgs false

end Go.Proofs.YtaandcblndldmaaGreat

/- ROpB -/
namespace Go.Proofs.YtaandcblndldmaaGreat
open Go.RowKit
set_option linter.unusedVariables false
set_option linter.unusedSimpArgs false

end Go.Proofs.YtaandcblndldmaaGreat
