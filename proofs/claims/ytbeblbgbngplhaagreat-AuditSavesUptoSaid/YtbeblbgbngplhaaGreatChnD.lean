/- The plain law of LevelsShape: levels rise by parents; those of one level are beside each other; the chain. No program in sight. | slices.MinFunc and slices.Reverse of dots, levels.Chain$1: the contracts. | slices.Reverse of dots: the contract. | levels.Chain$1: the contract. | levels.Chain: the contract. -/
import Derived.Test.YtbeblbgbngplhaaGreatLevC
import Derived.Test.YtbeblbgbngplhaaGreatWitA
import Derived.Test.YtbeblbgbngplhaaGreatGraM
import Derived.Test.YtbeblbgbngplhaaGreatGraV
/- ChnA -/
/- ShpP -/
namespace Go.Proofs.YtbeblbgbngplhaaGreat
open Go.RowKit
set_option linter.unusedVariables false
set_option linter.unusedSimpArgs false

end Go.Proofs.YtbeblbgbngplhaaGreat

/- ChnA -/
namespace Go.Proofs.YtbeblbgbngplhaaGreat
open Go.RowKit
set_option linter.unusedVariables false
set_option linter.unusedSimpArgs false

end Go.Proofs.YtbeblbgbngplhaaGreat

/- ChnB -/
namespace Go.Proofs.YtbeblbgbngplhaaGreat
open Go.RowKit
set_option linter.unusedVariables false
set_option linter.unusedSimpArgs false

end Go.Proofs.YtbeblbgbngplhaaGreat

/- ChnC -/
namespace Go.Proofs.YtbeblbgbngplhaaGreat
open Go.RowKit
set_option linter.unusedVariables false
set_option linter.unusedSimpArgs false

end Go.Proofs.YtbeblbgbngplhaaGreat

/- ChnD -/
namespace Go.Proofs.YtbeblbgbngplhaaGreat
open Go.RowKit
set_option linter.unusedVariables false
set_option linter.unusedSimpArgs false

theorem sorted_uniq {S T L : List Cm} (hp : S.Perm L) (hs : SortedC S) (hq : T.Perm L) (ht : SortedC T) : S = T :=
  rising_ext (lt := ltC) ltC_irrefl (fun h k => ltC_trans h k) hs ht fun a => (hp.trans hq.symm).mem_iff
end Go.Proofs.YtbeblbgbngplhaaGreat
