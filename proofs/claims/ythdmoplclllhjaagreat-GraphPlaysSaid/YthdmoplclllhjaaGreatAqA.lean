/- The reference's Bury, with a word on an empty row. | varveref04.MayEvent, exact. | What is known in varveref05.Apply. Printed by genapply.py. -/
import Derived.Test.YthdmoplclllhjaaGreatRefLA
import Derived.Test.YthdmoplclllhjaaGreatMayB
import Derived.Test.YthdmoplclllhjaaGreatMeanT
import Derived.Test.YthdmoplclllhjaaGreatMeanW
import Derived.Test.YthdmoplclllhjaaGreatFuseG
/- AqR -/
namespace Go.Proofs.YthdmoplclllhjaaGreat
open Go.RowKit
set_option linter.unusedVariables false
set_option linter.unusedSimpArgs false

end Go.Proofs.YthdmoplclllhjaaGreat

/- EvX -/
namespace Go.Proofs.YthdmoplclllhjaaGreat
open Go.RowKit
set_option linter.unusedVariables false
set_option linter.unusedSimpArgs false

/-- an event that may be -/
structure MayEvX (v : Ew) : Prop where
  d : may v.e.d = true
  lo : 1 ≤ v.e.t
  hi : v.e.t ≤ 1099511627776
  op : OpP v.e.k v.e.n v.e.x v.pl v.e.ds
set_option maxRecDepth 100000 in
set_option maxHeartbeats 1000000 in
theorem mayEventX_any (v : Ew) (w : World) (h : EwAt w v) :
    Calls Tryz.prog 159 #[.agg #[.int .u8 v.e.d.1.1, .int .u32 v.e.d.1.2, .int .u64 v.e.d.2, .int .u64 v.e.t, .int .u8 v.e.k, .slice v.pa v.pl.length v.pc, .int .i64 v.e.n, .string v.e.x, .slice v.da v.e.ds.length v.dc]] w (IsTo w (MayEvX v)) := by
  have H := Lib.hid h
  clear h
  go_enter Tryz.func159, Tryz.ntmps159
  go_wp2_with fail
  refine (rmay_any v.e.d.1.1 v.e.d.1.2 v.e.d.2 _).mono ?_
  rintro e w1 ⟨rfl, hb1⟩
  have hx0 : EvBlk w1 w.heap.size v := (new1 hb1).1
  have HX := Lib.hid hx0
  have HB := Lib.hid (new1 hb1).2.2
  have d0 := cells_at hx0
  simp only [ecells] at d0
  clear hb1 hx0
  cases hm : may ((v.e.d.1.1, v.e.d.1.2), v.e.d.2) with
  | false =>
    have Hm := Lib.hid (show ¬ MayEvX v from fun hh => by have h1 := hh.d; have h2 : may v.e.d = false := hm; rw [h1] at h2; cases h2)
    clear hm
    go_wp2_with fail
    go_ret
    exact no_name Hm.out HB.out
  | true =>
    have Hm := Lib.hid (show may v.e.d = true from hm)
    clear hm
    by_cases h1 : 1 ≤ v.e.t
    · by_cases h2 : v.e.t ≤ 1099511627776
      · go_wp2_with fail
        refine (mayOpX_any v.e.k v.e.n v.e.x v.pa v.pl v.pc v.da v.e.ds v.dc _ (H.out.below HB.out).pt (H.out.below HB.out).ds).mono ?_
        intro e w2 hto
        obtain ⟨z, rfl, hz, hb⟩ := hto
        have HB2 := Lib.hid (below2 HB.out hb HB.out.size)
        have Hz := Lib.hid hz
        clear hz hb
        go_wp2_with fail
        go_ret
        exact ⟨_, rfl, ⟨fun h => ⟨Hm.out, h1, h2, Hz.out.1 h⟩, fun h => Hz.out.2 h.op⟩, HB2.out⟩
      · have e2 : decide (v.e.t ≤ 1099511627776) = false := by simpa using h2
        have Hn := Lib.hid (show ¬ MayEvX v from fun hh => h2 hh.hi)
        go_wp2_with fail
        all_goals (go_ret; exact ⟨_, rfl, ⟨fun h => (by first | (cases h; done) | (simp at h; done) | (simp at h; omega)), fun h => absurd h Hn.out⟩, HB.out⟩)
    · have e1 : decide (1 ≤ v.e.t) = false := by simpa using h1
      have Hn := Lib.hid (show ¬ MayEvX v from fun hh => h1 hh.lo)
      go_wp2_with fail
      all_goals (go_ret; exact ⟨_, rfl, ⟨fun h => (by first | (cases h; done) | (simp at h; done) | (simp at h; omega)), fun h => absurd h Hn.out⟩, HB.out⟩)
end Go.Proofs.YthdmoplclllhjaaGreat

/- AqA -/
namespace Go.Proofs.YthdmoplclllhjaaGreat
open Go.RowKit
set_option linter.unusedVariables false
set_option linter.unusedSimpArgs false

end Go.Proofs.YthdmoplclllhjaaGreat
