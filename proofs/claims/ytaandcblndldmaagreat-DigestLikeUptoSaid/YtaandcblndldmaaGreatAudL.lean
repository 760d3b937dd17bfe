/- The reference's MayIncs, May, JoinIncs (varveref17). | varveref36.who, ahead, SameFlaws: the contracts. -/
import Derived.Test.YtaandcblndldmaaGreatMatB
import Derived.Test.YtaandcblndldmaaGreatVec4
import Derived.Test.YtaandcblndldmaaGreatLwV
/- EpoC -/
namespace Go.Proofs.YtaandcblndldmaaGreat
open Go.RowKit
set_option linter.unusedVariables false
set_option linter.unusedSimpArgs false

end Go.Proofs.YtaandcblndldmaaGreat

/- AudL -/
namespace Go.Proofs.YtaandcblndldmaaGreat
open Go.RowKit
set_option linter.unusedVariables false
set_option linter.unusedSimpArgs false

def eqF (x y : Fw) : Bool := (x.1 == y.1) && (x.2 == y.2)
theorem eqF_at (d : Nat) (r i r' i' : Int) (w : World) : (Op.equalIn (d + 2) 77 (.agg #[.int .i64 r, .int .i64 i]) (.agg #[.int .i64 r', .int .i64 i'])).run Tryz.prog w = .ok ((r == r') && (i == i')) w :=
  eq_two w Tryz.underlying77 (by kernel_rfl) (by decide) (by decide) (part_one w (Tryz.isAgg3 w) rfl) (part_one w (Tryz.isAgg3 w) rfl) (run_equalIn_int w d _ _ _ _ _ Tryz.underlying3)
    (part_one w (Tryz.isAgg38 w) rfl) (part_one w (Tryz.isAgg38 w) rfl) (run_equalIn_int w d _ _ _ _ _ Tryz.underlying38)
@[go_sem high] theorem run_neF (r i r' i' : Int) (w : World) : (binOp .neq 77 (.agg #[.int .i64 r, .int .i64 i]) (.agg #[.int .i64 r', .int .i64 i'])).run Tryz.prog w = .ok (.bool (!eqF (r, i) (r', i'))) w := by
  rw [run_neq_struct, show (10000 : Nat) = 9998 + 2 from rfl, eqF_at]
  rfl
end Go.Proofs.YtaandcblndldmaaGreat
