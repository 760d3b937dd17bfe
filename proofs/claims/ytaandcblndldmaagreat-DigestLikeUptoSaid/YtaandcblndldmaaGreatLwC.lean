/- varveref23.wide, size, Great, varvelaw36.great: they answer, and change nothing. | graph.New, with its baseline's rows of its own told; what a closure may change beside a graph. | record.Graph: the contract. | audit.insert, with any closure that is told of flaws: the contract. | audit.Check: its closure, and Check itself: the contracts. | varvelaw36.known: the page's examples hold. -/
import Derived.Test.YtaandcblndldmaaGreatAudB
import Derived.Test.YtaandcblndldmaaGreatRMbA
import Derived.Test.YtaandcblndldmaaGreatWitA
import Derived.Test.YtaandcblndldmaaGreatGraC
import Derived.Test.YtaandcblndldmaaGreatGraV
/- AudF -/
namespace Go.Proofs.YtaandcblndldmaaGreat
open Go.RowKit
set_option linter.unusedVariables false
set_option linter.unusedSimpArgs false

end Go.Proofs.YtaandcblndldmaaGreat

/- BasO -/
namespace Go.Proofs.YtaandcblndldmaaGreat
open Go.RowKit
set_option linter.unusedVariables false
set_option linter.unusedSimpArgs false

end Go.Proofs.YtaandcblndldmaaGreat

/- AudC -/
namespace Go.Proofs.YtaandcblndldmaaGreat
open Go.RowKit
set_option linter.unusedVariables false
set_option linter.unusedSimpArgs false

end Go.Proofs.YtaandcblndldmaaGreat

/- AudD -/
namespace Go.Proofs.YtaandcblndldmaaGreat
open Go.RowKit
set_option linter.unusedVariables false
set_option linter.unusedSimpArgs false

end Go.Proofs.YtaandcblndldmaaGreat

/- AudE -/
namespace Go.Proofs.YtaandcblndldmaaGreat
open Go.RowKit
set_option linter.unusedVariables false
set_option linter.unusedSimpArgs false

end Go.Proofs.YtaandcblndldmaaGreat

/- AudG -/
namespace Go.Proofs.YtaandcblndldmaaGreat
open Go.RowKit
set_option linter.unusedVariables false
set_option linter.unusedSimpArgs false

end Go.Proofs.YtaandcblndldmaaGreat
