/- The plain law of LevelsShape: levels rise by parents; those of one level are beside each other; the chain. No program in sight. | slices.MinFunc and slices.Reverse of dots, levels.Chain$1: the contracts. | slices.Reverse of dots: the contract. | levels.Chain$1: the contract. | levels.Chain: the contract. -/
import Derived.Test.YthdmoplclllhjaaGreatLevC
import Derived.Test.YthdmoplclllhjaaGreatWitA
import Derived.Test.YthdmoplclllhjaaGreatGraM
import Derived.Test.YthdmoplclllhjaaGreatGraV
/- ChnA -/
/- ShpP -/
namespace Go.Proofs.YthdmoplclllhjaaGreat
open Go.RowKit
set_option linter.unusedVariables false
set_option linter.unusedSimpArgs false

end Go.Proofs.YthdmoplclllhjaaGreat

/- ChnA -/
namespace Go.Proofs.YthdmoplclllhjaaGreat
open Go.RowKit
set_option linter.unusedVariables false
set_option linter.unusedSimpArgs false

end Go.Proofs.YthdmoplclllhjaaGreat

/- ChnB -/
namespace Go.Proofs.YthdmoplclllhjaaGreat
open Go.RowKit
set_option linter.unusedVariables false
set_option linter.unusedSimpArgs false

end Go.Proofs.YthdmoplclllhjaaGreat

/- ChnC -/
namespace Go.Proofs.YthdmoplclllhjaaGreat
open Go.RowKit
set_option linter.unusedVariables false
set_option linter.unusedSimpArgs false

end Go.Proofs.YthdmoplclllhjaaGreat

/- ChnD -/
namespace Go.Proofs.YthdmoplclllhjaaGreat
open Go.RowKit
set_option linter.unusedVariables false
set_option linter.unusedSimpArgs false

theorem sorted_uniq {S T L : List Cm} (hp : S.Perm L) (hs : SortedC S) (hq : T.Perm L) (ht : SortedC T) : S = T :=
  rising_ext (lt := ltC) ltC_irrefl (fun h k => ltC_trans h k) hs ht fun a => (hp.trans hq.symm).mem_iff
end Go.Proofs.YthdmoplclllhjaaGreat
