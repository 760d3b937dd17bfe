/- dot.Next. -/
import Derived.Test.YtblahapjdgncfaaDotQ
namespace Go.Proofs.Ytblahapjdgncfaa
open Go.RowKit
set_option linter.unusedVariables false
set_option linter.unusedSimpArgs false

/-- a dot and an error, told together -/
def dotErr (r i s e : Int) : Ending := .returned (.tuple #[.agg #[.int .u8 r, .int .u32 i, .int .u64 s], .int .i64 e])

def nextEnd (v : List Dt) (r i : Int) : Ending := if mayA (r, i) = false then dotErr 0 0 0 2 else if getN v (r, i) = 1048576 then dotErr 0 0 0 14 else dotErr r i (getN v (r, i) + 1) 0

set_option maxHeartbeats 1000000 in
theorem next_any (a : Option Addr) (c : Nat) (v : List Dt) (r i : Int) (w : World) (hv : Vec w a c v) (hok : okV v) (hn : v.length ≤ 1000000) (hA : okA (r, i)) :
    Calls Try.prog 29 #[.slice a v.length c, .agg #[.int .u8 r, .int .u32 i]] w fun e w' => e = nextEnd v r i ∧ Below w.heap.size w w' := by
  have Hv := Lib.hid hv
  clear hv
  have hbd := getN_bd v (r, i)
  obtain ⟨hb0, hb1⟩ := hbd
  go_enter Try.func29, Try.ntmps29
  go_wp2_with fail
  have hB0 : Below w.heap.size w ((w.alloc (.cells #[.int .u8 r, .int .u32 i] 31)).alloc (.cells #[.int .u8 0, .int .u32 0, .int .u64 0] 34)) := ((Below.refl _ _).alloc (Nat.le_refl _) _).alloc (by simp) _
  refine (get_any a c v r i _ (Hv.out.below hB0) hok hn hA).mono ?_
  rintro e w1 ⟨rfl, hb2⟩
  obtain ⟨hx0, hx1, hz, hB1⟩ := new2 hb2
  have c0 := cells_at hx0
  have HB1 := Lib.hid hB1
  have Hx1 := Lib.hid hx1
  clear hb2 hx0 hx1 hB1 hB0
  go_wp2_with fail
  refine (mayActor_any r i _).mono ?_
  rintro e w2 ⟨rfl, hb2⟩
  have hx2 := (hb2.block _ (heap_lt Hx1.out)).trans Hx1.out
  have c2 := cells_at hx2
  have f2 := free_at hx2
  have HB2 := Lib.hid (HB1.out.trans (hb2.mono HB1.out.size))
  have cc0 : ∀ j, w2.cell? ⟨w.heap.size, j, none⟩ = #[Value.int .u8 r, .int .u32 i][j]? := fun j => (hb2.cell (p := ⟨w.heap.size, j, none⟩) (by show w.heap.size < w1.heap.size; omega)).trans (c0 j)
  have hz2 : w.heap.size + 2 ≤ w2.heap.size := by have := hb2.size; omega
  clear hb2 hx2 HB1 Hx1 c0
  cases hm : mayA (r, i) with
  | false =>
    have Hm := Lib.hid hm
    clear hm
    go_wp2_with fail
    exact bodyPost_ret (v := .tuple #[.agg #[.int .u8 0, .int .u32 0, .int .u64 0], .int .i64 2]) (by simp [results, Try.results29, go_sem, c2]) rfl ⟨by simp [nextEnd, dotErr, Hm.out], ((HB2.out.setCell (by simp) _).setCell (by simp) _).setCell (by simp) _⟩
  | true =>
    have Hm := Lib.hid hm
    clear hm
    by_cases hg : getN v (r, i) = 1048576
    · have hg' : (getN v (r, i) == 1048576) = true := by simpa using hg
      have Hg := Lib.hid hg
      clear hg
      go_wp2_with fail
      exact bodyPost_ret (v := .tuple #[.agg #[.int .u8 0, .int .u32 0, .int .u64 0], .int .i64 14]) (by simp [results, Try.results29, go_sem, c2]) rfl ⟨by simp [nextEnd, dotErr, Hm.out, Hg.out], ((HB2.out.setCell (by simp) _).setCell (by simp) _).setCell (by simp) _⟩
    · have hg' : (getN v (r, i) == 1048576) = false := by simpa using hg
      have Hg := Lib.hid hg
      clear hg
      go_wp2_with fail
      exact bodyPost_ret (v := .tuple #[.agg #[.int .u8 r, .int .u32 i, .int .u64 (getN v (r, i) + 1)], .int .i64 0]) (by simp [results, Try.results29, go_sem, c2]) rfl ⟨by simp [nextEnd, dotErr, Hm.out, Hg.out], ((HB2.out.setCell (by simp) _).setCell (by simp) _).setCell (by simp) _⟩
end Go.Proofs.Ytblahapjdgncfaa
