/- levels.of: the contract. | The page's example of levels, plainly: four commits. No program in sight. | Rows of levels, plainly: what they are when all dots are laid and each row is sorted. | levels.Levels: the contract. -/
import Derived.Test.YtbeblbgbngplhaaGreatWitA
import Derived.Test.YtbeblbgbngplhaaGreatGraV
import Derived.Test.YtbeblbgbngplhaaGreatGraQ
/- LevB -/
/- LevB -/
namespace Go.Proofs.YtbeblbgbngplhaaGreat
open Go.RowKit
set_option linter.unusedVariables false
set_option linter.unusedSimpArgs false

end Go.Proofs.YtbeblbgbngplhaaGreat

/- LevQ -/
namespace Go.Proofs.YtbeblbgbngplhaaGreat
open Go.RowKit
set_option linter.unusedVariables false
set_option linter.unusedSimpArgs false

end Go.Proofs.YtbeblbgbngplhaaGreat

/- LevR -/
namespace Go.Proofs.YtbeblbgbngplhaaGreat
open Go.RowKit
set_option linter.unusedVariables false
set_option linter.unusedSimpArgs false

end Go.Proofs.YtbeblbgbngplhaaGreat

/- LevC -/
namespace Go.Proofs.YtbeblbgbngplhaaGreat
open Go.RowKit
set_option linter.unusedVariables false
set_option linter.unusedSimpArgs false

end Go.Proofs.YtbeblbgbngplhaaGreat
