/- The document's graph, plainly: commits in order, one more in its place. No program in sight. | What holds of each commit that was inserted: it could be inserted. What it knows, it knows by a parent. No program in sight. | varveref11.listed, Event, May: the contracts. | The document's graph in memory; rows of commits put together. | varveref12.Graph: Find, Has, Knows: the contracts. | varveref12.Graph: gap, wrong: the contracts. | varveref12.Graph.wrong: the contract. | varveref12.Graph.Insert: the contract. -/
import Derived.Test.YtbeblbgbngplhaaGreatGraQ
import Derived.Test.YtbeblbgbngplhaaGreatGraP
import Derived.Test.YtbeblbgbngplhaaGreatHistP
import Derived.Test.YtbeblbgbngplhaaGreatAqA
import Derived.Test.YtbeblbgbngplhaaGreatRMbA
import Derived.Test.YtbeblbgbngplhaaGreatWidB
import Derived.Test.YtbeblbgbngplhaaGreatGraC
/- RgA -/
/- RgP -/
namespace Go.Proofs.YtbeblbgbngplhaaGreat
open Go.RowKit
set_option linter.unusedVariables false
set_option linter.unusedSimpArgs false

def ltCb (a b : Cm) : Bool := decide (a.t < b.t) || (decide (a.t = b.t) && lessD a.d b.d)
theorem ltCb_iff {a b : Cm} : ltCb a b = true ↔ ltC a b := by unfold ltCb ltC; simp
end Go.Proofs.YtbeblbgbngplhaaGreat

/- HistI -/
namespace Go.Proofs.YtbeblbgbngplhaaGreat
open Go.RowKit
set_option linter.unusedVariables false
set_option linter.unusedSimpArgs false

end Go.Proofs.YtbeblbgbngplhaaGreat

/- RgA -/
namespace Go.Proofs.YtbeblbgbngplhaaGreat
open Go.RowKit
set_option linter.unusedVariables false
set_option linter.unusedSimpArgs false

end Go.Proofs.YtbeblbgbngplhaaGreat

/- RgB -/
namespace Go.Proofs.YtbeblbgbngplhaaGreat
open Go.RowKit
set_option linter.unusedVariables false
set_option linter.unusedSimpArgs false

theorem OwnC.cms {w : World} {base : Nat} {a : Option Addr} {c : Nat} {l : List Cw} (h : OwnC w base a c l) : Sl w 11 a l.length c (ccs l) := Sl.of_owns h
theorem sl_hiC (oa : Option Addr) (n oc j : Nat) (hj : j ≤ oc) (W : World) : (Instr.sliceAt 33 (.slice oa n oc) none (some (.int .i64 (j : Int))) none).run Tryz.prog W = .ok (.slice oa j oc) W := by
  simp [go_sem, Instr.sliceAt, Instr.slice, run_underlying Tryz.underlying33]
  omega
theorem sl_loC (oa : Option Addr) (n oc j : Nat) (hj : j ≤ n) (hn : n ≤ oc) (W : World) : (Instr.sliceAt 33 (.slice oa n oc) (some (.int .i64 (j : Int))) none none).run Tryz.prog W = .ok (.slice (if oc = j then oa else oa.map (·.add (j * 11))) (n - j) (oc - j)) W := by
  simp [go_sem, Instr.sliceAt, Instr.slice, run_underlying Tryz.underlying33]
  intro h; omega
section
variable {w : World} {ops : Array Oper} {rest : List Oper} {o : Oper} {a : Act} {Q : Exit → Act → World → Prop}
end
end Go.Proofs.YtbeblbgbngplhaaGreat

/- RgE -/
/- RgC -/
namespace Go.Proofs.YtbeblbgbngplhaaGreat
open Go.RowKit
set_option linter.unusedVariables false
set_option linter.unusedSimpArgs false

end Go.Proofs.YtbeblbgbngplhaaGreat

/- RgD -/
namespace Go.Proofs.YtbeblbgbngplhaaGreat
open Go.RowKit
set_option linter.unusedVariables false
set_option linter.unusedSimpArgs false

end Go.Proofs.YtbeblbgbngplhaaGreat

/- RgE -/
namespace Go.Proofs.YtbeblbgbngplhaaGreat
open Go.RowKit
set_option linter.unusedVariables false
set_option linter.unusedSimpArgs false

end Go.Proofs.YtbeblbgbngplhaaGreat

/- RgF -/
namespace Go.Proofs.YtbeblbgbngplhaaGreat
open Go.RowKit
set_option linter.unusedVariables false
set_option linter.unusedSimpArgs false

end Go.Proofs.YtbeblbgbngplhaaGreat
