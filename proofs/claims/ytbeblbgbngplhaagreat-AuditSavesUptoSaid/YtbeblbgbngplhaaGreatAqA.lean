/- The reference's Bury, with a word on an empty row. | varveref04.MayEvent, exact. | What is known in varveref05.Apply. Printed by genapply.py. -/
import Derived.Test.YtbeblbgbngplhaaGreatRefLA
import Derived.Test.YtbeblbgbngplhaaGreatMayB
import Derived.Test.YtbeblbgbngplhaaGreatMeanT
import Derived.Test.YtbeblbgbngplhaaGreatMeanW
import Derived.Test.YtbeblbgbngplhaaGreatFuseG
/- AqR -/
namespace Go.Proofs.YtbeblbgbngplhaaGreat
open Go.RowKit
set_option linter.unusedVariables false
set_option linter.unusedSimpArgs false

end Go.Proofs.YtbeblbgbngplhaaGreat

/- EvX -/
namespace Go.Proofs.YtbeblbgbngplhaaGreat
open Go.RowKit
set_option linter.unusedVariables false
set_option linter.unusedSimpArgs false

end Go.Proofs.YtbeblbgbngplhaaGreat

/- AqA -/
namespace Go.Proofs.YtbeblbgbngplhaaGreat
open Go.RowKit
set_option linter.unusedVariables false
set_option linter.unusedSimpArgs false

end Go.Proofs.YtbeblbgbngplhaaGreat
