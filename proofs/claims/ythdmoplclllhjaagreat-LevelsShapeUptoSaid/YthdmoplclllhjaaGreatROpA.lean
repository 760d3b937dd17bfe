/- The reference's SamePath and Same of operations: contracts. (printed by wip/tools/genropa.py) | The reference's both (varveref39): contract. (printed by wip/tools/genropb.py) -/
import Derived.Test.YthdmoplclllhjaaGreatBatA
import Derived.Test.YthdmoplclllhjaaGreatRefLA
import Derived.Test.YthdmoplclllhjaaGreatFuseA
/- ROpA -/
namespace Go.Proofs.YthdmoplclllhjaaGreat
open Go.RowKit
set_option linter.unusedVariables false
set_option linter.unusedSimpArgs false

end Go.Proofs.YthdmoplclllhjaaGreat

/- ROpB -/
namespace Go.Proofs.YthdmoplclllhjaaGreat
open Go.RowKit
set_option linter.unusedVariables false
set_option linter.unusedSimpArgs false

end Go.Proofs.YthdmoplclllhjaaGreat
