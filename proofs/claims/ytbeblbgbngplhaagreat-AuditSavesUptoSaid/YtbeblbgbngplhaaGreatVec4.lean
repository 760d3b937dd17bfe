/- The reference's MayActor, May, Less, Compare, Get, Has, Within. | The reference's Get, Has, Within. | Parts of slices of dots: x[:j], x[j:]. | The reference's Canon. | The reference's Join, Meet; dot.Next. | (see Vec1..Vec5) | (see Vec1..Vec5) | (see Vec1..Vec5) -/
import Derived.Test.YtbeblbgbngplhaaGreatVec3
import Derived.Test.YtbeblbgbngplhaaGreatVec1
import Derived.Deep.CutBlock
/- Vec4 -/
/- DotM -/
namespace Go.Proofs.YtbeblbgbngplhaaGreat
open Go.RowKit
set_option linter.unusedVariables false
set_option linter.unusedSimpArgs false

end Go.Proofs.YtbeblbgbngplhaaGreat

/- DotN -/
namespace Go.Proofs.YtbeblbgbngplhaaGreat
open Go.RowKit
set_option linter.unusedVariables false
set_option linter.unusedSimpArgs false

set_option maxHeartbeats 1000000 in
theorem has_any (a : Option Addr) (c : Nat) (v : List Dt) (r i s : Int) (w : World) (hv : Vec w a c v) (hn : v.length ≤ 1100000) (hok : okV v) (hA : okA (r, i)) :
    Calls Tryz.prog 78 #[.slice a v.length c, .agg #[.int .u8 r, .int .u32 i, .int .u64 s]] w fun e w' => e = .returned (.bool (hasV v ((r, i), s))) ∧ Below w.heap.size w w' := by
  have Hv := Lib.hid hv
  clear hv
  go_enter Tryz.func78, Tryz.ntmps78
  go_wp2_with fail
  refine region_text [([0, 1, 2, 3, 4, 5, 6, 7], false), ([8], true), ([9, 10, 11], false)] mixed (by kernel_rfl) ?_
  simp only [wpSegs, List.map_cons, List.map_nil, List.getD_cons_succ, List.getD_cons_zero]
  go_wp2_with fail
  refine (may_any r i s _).mono ?_
  rintro e w1 ⟨rfl, hb1⟩
  have hb1' : Below (w.alloc (.cells #[.int .u8 r, .int .u32 i, .int .u64 s] 52)).heap.size (w.alloc (.cells #[.int .u8 r, .int .u32 i, .int .u64 s] 52)) w1 := ((Below.refl _ _).drew).trans hb1
  obtain ⟨hx0, hz, hB1⟩ := new1 hb1'
  have c0 := cells_at hx0
  have HB1 := Lib.hid hB1
  clear hb1 hb1' hx0 hB1
  cases hm : may ((r, i), s) with
  | false =>
    have He := Lib.hid (show hasV v ((r, i), s) = false by simp [hasV, hm])
    clear hm
    go_wp2_with fail
    refine And.intro (Agree.refl _) ?_
    go_wp2_with fail
    refine And.intro (by kernel_rfl) ?_
    go_wp2_with fail
    go_ret
    exact ⟨by rw [He.out]; rfl, HB1.out⟩
  | true =>
    have He := Lib.hid (show hasV v ((r, i), s) = decide (s ≤ getN v (r, i)) by simp [hasV, hm])
    clear hm
    go_wp2_with fail
    refine (get_any a c v r i _ (Hv.out.below HB1.out) hok hn hA).mono ?_
    rintro e w2 ⟨rfl, hb2⟩
    have HB2 := Lib.hid (HB1.out.trans (hb2.mono HB1.out.size))
    go_wp2_with fail
    refine And.intro (Agree.of_below hb2) ?_
    clear hb2
    go_wp2_with fail
    refine And.intro (by kernel_rfl) ?_
    go_wp2_with fail
    go_ret
    exact ⟨by rw [He.out]; rfl, HB2.out⟩

end Go.Proofs.YtbeblbgbngplhaaGreat

/- Vec5 -/
/- Slice -/
namespace Go.Proofs.YtbeblbgbngplhaaGreat
open Go.RowKit
set_option linter.unusedVariables false
set_option linter.unusedSimpArgs false
theorem slice_hi (oa : Option Addr) (n oc j : Nat) (hj : j ≤ n) (hn : n ≤ oc) (W : World) : (Instr.sliceAt 28 (.slice oa n oc) none (some (.int .i64 (j : Int))) none).run Tryz.prog W = .ok (.slice oa j oc) W := by
  simp [go_sem, Instr.sliceAt, Instr.slice, run_underlying Tryz.underlying28]
  intro h; omega
theorem slice_lo (oa : Option Addr) (n oc j : Nat) (hj : j ≤ n) (hn : n ≤ oc) (W : World) : (Instr.sliceAt 28 (.slice oa n oc) (some (.int .i64 (j : Int))) none none).run Tryz.prog W = .ok (.slice (if oc = j then oa else oa.map (·.add (j * 3))) (n - j) (oc - j)) W := by
  simp [go_sem, Instr.sliceAt, Instr.slice, run_underlying Tryz.underlying28]
  intro h; omega
end Go.Proofs.YtbeblbgbngplhaaGreat

/- DotO -/
namespace Go.Proofs.YtbeblbgbngplhaaGreat
open Go.RowKit
set_option linter.unusedVariables false
set_option linter.unusedSimpArgs false

end Go.Proofs.YtbeblbgbngplhaaGreat

/- DotQ -/
namespace Go.Proofs.YtbeblbgbngplhaaGreat
open Go.RowKit
set_option linter.unusedVariables false
set_option linter.unusedSimpArgs false

end Go.Proofs.YtbeblbgbngplhaaGreat

/- LowA -/


/- LowB -/


/- LowC -/

