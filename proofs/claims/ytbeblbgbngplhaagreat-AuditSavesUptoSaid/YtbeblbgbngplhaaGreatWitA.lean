/- Ancestors, plainly: by parents, and by vectors. No program in sight. | base.ancestors, plainly. No program in sight. | The plain law of BaseAncestors. No program in sight. | Levels of commits, plainly. No program in sight. | Rows of rows of dots in memory of one's own. | slices.ContainsFunc of commits by any function; base.greatest: contracts. | varvelaw13.reach: the contract. | base.ancestors: the contract. (printed by wip/tools/genanca.py) | base.Of: the contract. (printed by wip/tools/genofa.py) | The page's example of bases, plainly: a fork, and one that shares nothing. No program in sight. | slices.DeleteFunc of commits in a row of their own, by any function: contract. (printed by wip/tools/gendelc.py) | Graph.Base, base.Within: the contracts. -/
import Derived.Test.YtbeblbgbngplhaaGreatRgE
import Derived.Test.YtbeblbgbngplhaaGreatGraC
import Derived.Test.YtbeblbgbngplhaaGreatGraM
import Derived.Test.YtbeblbgbngplhaaGreatGraQ
import Derived.Test.YtbeblbgbngplhaaGreatWidB
import Derived.Test.YtbeblbgbngplhaaGreatBothA
import Derived.Test.YtbeblbgbngplhaaGreatGraV
import Derived.Test.YtbeblbgbngplhaaGreatBasB
/- DagP -/
/- DagP -/
namespace Go.Proofs.YtbeblbgbngplhaaGreat
open Go.RowKit
set_option linter.unusedVariables false
set_option linter.unusedSimpArgs false

end Go.Proofs.YtbeblbgbngplhaaGreat

/- AncP -/
namespace Go.Proofs.YtbeblbgbngplhaaGreat
open Go.RowKit
set_option linter.unusedVariables false
set_option linter.unusedSimpArgs false

end Go.Proofs.YtbeblbgbngplhaaGreat

/- AncQ -/
namespace Go.Proofs.YtbeblbgbngplhaaGreat
open Go.RowKit
set_option linter.unusedVariables false
set_option linter.unusedSimpArgs false

end Go.Proofs.YtbeblbgbngplhaaGreat

/- GreA -/
/- LevA -/
/- LevP -/
namespace Go.Proofs.YtbeblbgbngplhaaGreat
open Go.RowKit
set_option linter.unusedVariables false
set_option linter.unusedSimpArgs false

end Go.Proofs.YtbeblbgbngplhaaGreat

/- LevA -/
namespace Go.Proofs.YtbeblbgbngplhaaGreat
open Go.RowKit
set_option linter.unusedVariables false
set_option linter.unusedSimpArgs false

section
variable {w : World} {ops : Array Oper} {rest : List Oper} {o : Oper} {a : Act} {Q : Exit → Act → World → Prop}
end
end Go.Proofs.YtbeblbgbngplhaaGreat

/- GreA -/
namespace Go.Proofs.YtbeblbgbngplhaaGreat
open Go.RowKit
set_option linter.unusedVariables false
set_option linter.unusedSimpArgs false

end Go.Proofs.YtbeblbgbngplhaaGreat

/- OfA -/
/- RchA -/
namespace Go.Proofs.YtbeblbgbngplhaaGreat
open Go.RowKit
set_option linter.unusedVariables false
set_option linter.unusedSimpArgs false

end Go.Proofs.YtbeblbgbngplhaaGreat

/- AncA -/
namespace Go.Proofs.YtbeblbgbngplhaaGreat
open Go.RowKit
set_option linter.unusedVariables false
set_option linter.unusedSimpArgs false

end Go.Proofs.YtbeblbgbngplhaaGreat

/- OfA -/
namespace Go.Proofs.YtbeblbgbngplhaaGreat
open Go.RowKit
set_option linter.unusedVariables false
set_option linter.unusedSimpArgs false

end Go.Proofs.YtbeblbgbngplhaaGreat

/- WitA -/
/- KnoP -/
namespace Go.Proofs.YtbeblbgbngplhaaGreat
open Go.RowKit
set_option linter.unusedVariables false
set_option linter.unusedSimpArgs false

def kD2 : Dt := ((2, 1), 1)
def kD3 : Dt := ((3, 1), 1)
def kY : Cm := ⟨kD2, [kD], [kD, kD2], 2, kO⟩
def kZ : Cm := ⟨kD3, [], [kD3], 1, kO⟩
def k4 : List Cm := [kC, kL, kY, kZ]
end Go.Proofs.YtbeblbgbngplhaaGreat

/- DelC -/
namespace Go.Proofs.YtbeblbgbngplhaaGreat
open Go.RowKit
set_option linter.unusedVariables false
set_option linter.unusedSimpArgs false

end Go.Proofs.YtbeblbgbngplhaaGreat

/- WitA -/
namespace Go.Proofs.YtbeblbgbngplhaaGreat
open Go.RowKit
set_option linter.unusedVariables false
set_option linter.unusedSimpArgs false

@[go_sem] theorem field_bf (a b c d e : Value) (w : World) : (Instr.field 32 (.agg #[a, b, c, d, e]) 1).run Tryz.prog w = .ok b w := by kernel_rfl
end Go.Proofs.YtbeblbgbngplhaaGreat
