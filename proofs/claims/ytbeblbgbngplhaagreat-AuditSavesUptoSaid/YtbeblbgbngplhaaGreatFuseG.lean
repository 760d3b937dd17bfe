/- fuse.both: the items of two leaves that are no tombs, rising: contract. | fuse.both, whole: contract. | fuse.counter, register, set, log: contracts. | fuse.set, fuse.log: contracts. -/
import Derived.Test.YtbeblbgbngplhaaGreatFuseA
import Derived.IntWalk
/- FuseF -/
namespace Go.Proofs.YtbeblbgbngplhaaGreat
open Go.RowKit
set_option linter.unusedVariables false
set_option linter.unusedSimpArgs false

end Go.Proofs.YtbeblbgbngplhaaGreat

/- FuseG -/
namespace Go.Proofs.YtbeblbgbngplhaaGreat
open Go.RowKit
set_option linter.unusedVariables false
set_option linter.unusedSimpArgs false

end Go.Proofs.YtbeblbgbngplhaaGreat

/- FuseH -/
namespace Go.Proofs.YtbeblbgbngplhaaGreat
open Go.RowKit
set_option linter.unusedVariables false
set_option linter.unusedSimpArgs false

end Go.Proofs.YtbeblbgbngplhaaGreat

/- FuseI -/
namespace Go.Proofs.YtbeblbgbngplhaaGreat
open Go.RowKit
set_option linter.unusedVariables false
set_option linter.unusedSimpArgs false

end Go.Proofs.YtbeblbgbngplhaaGreat
