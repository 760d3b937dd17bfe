/- varveref12.MayBase: the contract. -/
import Derived.Test.YtbeblbgbngplhaaGreatWidB
namespace Go.Proofs.YtbeblbgbngplhaaGreat
open Go.RowKit
set_option linter.unusedVariables false
set_option linter.unusedSimpArgs false

end Go.Proofs.YtbeblbgbngplhaaGreat
