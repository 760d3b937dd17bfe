/- The reference's merge in plain words: tombs buried one by one, items laid one by one. No program in sight. | The law FuseThree in plain words: what is behind events, one by one; the merge of two such leaves over a third. No program in sight. | Events behind a leaf: which leaves stay such that may be; numbers in range; lengths. No program in sight. -/
import Derived.Test.YtbeblbgbngplhaaGreatLeafP
import Derived.Test.YtbeblbgbngplhaaGreatLeafA
/- RefMA -/
namespace Go.Proofs.YtbeblbgbngplhaaGreat
set_option linter.unusedVariables false
set_option linter.unusedSimpArgs false

end Go.Proofs.YtbeblbgbngplhaaGreat

/- ThreeP -/
/- ThreeP -/
namespace Go.Proofs.YtbeblbgbngplhaaGreat
set_option linter.unusedVariables false
set_option linter.unusedSimpArgs false

def typeOf (k : Int) : Int := if k = 1 then 1 else if k = 2 then 2 else if k = 3 then 3 else if k = 4 then 3 else if k = 5 then 4 else 0
/-! counters -/
/-! registers -/
/-! sets -/
/-! logs -/
end Go.Proofs.YtbeblbgbngplhaaGreat

/- ThreeQ -/
namespace Go.Proofs.YtbeblbgbngplhaaGreat
set_option linter.unusedVariables false
set_option linter.unusedSimpArgs false

end Go.Proofs.YtbeblbgbngplhaaGreat
