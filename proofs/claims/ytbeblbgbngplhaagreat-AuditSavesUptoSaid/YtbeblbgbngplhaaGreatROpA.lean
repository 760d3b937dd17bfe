/- The reference's SamePath and Same of operations: contracts. (printed by wip/tools/genropa.py) | The reference's both (varveref39): contract. (printed by wip/tools/genropb.py) -/
import Derived.Test.YtbeblbgbngplhaaGreatBatA
import Derived.Test.YtbeblbgbngplhaaGreatRefLA
import Derived.Test.YtbeblbgbngplhaaGreatFuseA
/- ROpA -/
namespace Go.Proofs.YtbeblbgbngplhaaGreat
open Go.RowKit
set_option linter.unusedVariables false
set_option linter.unusedSimpArgs false

end Go.Proofs.YtbeblbgbngplhaaGreat

/- ROpB -/
namespace Go.Proofs.YtbeblbgbngplhaaGreat
open Go.RowKit
set_option linter.unusedVariables false
set_option linter.unusedSimpArgs false

end Go.Proofs.YtbeblbgbngplhaaGreat
