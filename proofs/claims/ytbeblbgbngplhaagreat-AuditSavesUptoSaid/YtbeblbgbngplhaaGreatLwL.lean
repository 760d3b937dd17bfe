/- order.Lacks$1, order.Lacks: the contracts. | varveref11.Same, SameAll where both are alike; varveref15.Lacks: the contracts. | varvelaw13.known | varvelaw15.both: the contract. (printed by wip/tools/genboth.py) | varvelaw15.known: the contract. | varvelaw13.BaseAncestors: the walk. (printed by wip/tools/genlwa.py) | varvelaw15.OrderLacks: the walk. -/
import Derived.Test.YtbeblbgbngplhaaGreatHeaD
import Derived.Test.YtbeblbgbngplhaaGreatWitA
import Derived.Test.YtbeblbgbngplhaaGreatChnD
import Derived.Test.YtbeblbgbngplhaaGreatGraQ
import Derived.Test.YtbeblbgbngplhaaGreatRgE
import Derived.Test.YtbeblbgbngplhaaGreatROpA
import Derived.Test.YtbeblbgbngplhaaGreatRegO
import Derived.Test.YtbeblbgbngplhaaGreatBothA
import Derived.Test.YtbeblbgbngplhaaGreatRMbA
/- HeaE -/
namespace Go.Proofs.YtbeblbgbngplhaaGreat
open Go.RowKit
set_option linter.unusedVariables false
set_option linter.unusedSimpArgs false

@[go_sem] theorem assert_c (a b c d e f g h i j k : Value) (w : World) : (Instr.typeAssert (.iface 57 (.agg #[a, b, c, d, e, f, g, h, i, j, k])) 20 57 true).run Tryz.prog w = .ok (.tuple #[.agg #[a, b, c, d, e, f, g, h, i, j, k], .bool true]) w := by kernel_rfl
end Go.Proofs.YtbeblbgbngplhaaGreat

/- HeaF -/
namespace Go.Proofs.YtbeblbgbngplhaaGreat
open Go.RowKit
set_option linter.unusedVariables false
set_option linter.unusedSimpArgs false

/-- a commit is not great beyond measure -/
def CwB (v : Cw) : Prop := v.c.ps.length ≤ 1100000 ∧ v.c.vv.length ≤ 1100000 ∧ v.c.o.p.length ≤ 1100000 ∧ v.c.o.ds.length ≤ 1100000
end Go.Proofs.YtbeblbgbngplhaaGreat

/- Kno13 -/
namespace Go.Proofs.YtbeblbgbngplhaaGreat
open Go.RowKit
set_option linter.unusedVariables false
set_option linter.unusedSimpArgs false
set_option maxRecDepth 100000
end Go.Proofs.YtbeblbgbngplhaaGreat

/- Bo15 -/
namespace Go.Proofs.YtbeblbgbngplhaaGreat
open Go.RowKit
set_option linter.unusedVariables false
set_option linter.unusedSimpArgs false

end Go.Proofs.YtbeblbgbngplhaaGreat

/- Kno15 -/
namespace Go.Proofs.YtbeblbgbngplhaaGreat
open Go.RowKit
set_option linter.unusedVariables false
set_option linter.unusedSimpArgs false

end Go.Proofs.YtbeblbgbngplhaaGreat

/- LwA -/
namespace Go.Proofs.YtbeblbgbngplhaaGreat
open Go.RowKit
set_option linter.unusedVariables false
set_option linter.unusedSimpArgs false

end Go.Proofs.YtbeblbgbngplhaaGreat

/- LwL -/
namespace Go.Proofs.YtbeblbgbngplhaaGreat
open Go.RowKit
set_option linter.unusedVariables false
set_option linter.unusedSimpArgs false

theorem CmP.b {v : Cw} (h : CmP v.c) : CwB v := by
  have h1 := h.few
  have h2 : v.c.vv.length ≤ 64 := by rw [← h.canon]; exact vecOf_length _
  have h3 := h.op.path.2.1
  have h4 := h.op.few
  exact ⟨by omega, by omega, by omega, by omega⟩
end Go.Proofs.YtbeblbgbngplhaaGreat
