/- Row, Stable, Copy of none. -/
import Derived.Test.YtblahapjdgncfaaMatD
namespace Go.Proofs.Ytblahapjdgncfaa
open Go.RowKit
set_option linter.unusedVariables false
set_option linter.unusedSimpArgs false

def rowM (n : Nat) (R : Mx) (r : Int) : Option Ak := if 0 ≤ r ∧ r < n then R r.toNat else none
def RowNo (w : World) (e : Ending) (w' : World) : Prop := e = .returned (.tuple #[.agg #[.int .u8 0, .int .u32 0, .slice none 0 0, .slice none 0 0], .bool false]) ∧ Below w.heap.size w w'
def RowYes (w : World) (a : Ak) (e : Ending) (w' : World) : Prop := ∃ ai ci av cv, e = .returned (.tuple #[.agg #[.int .u8 a.r, .int .u32 a.i, .slice ai a.incs.length ci, .slice av a.vv.length cv], .bool true]) ∧ w'.ownsRow w.heap.size 29 1 (.slice ai a.incs.length ci) a.incs.length (ucells a.incs) ∧ w'.ownsRow w.heap.size 34 3 (.slice av a.vv.length cv) a.vv.length (dcells a.vv) ∧ Below w.heap.size w w'
/-- what Row tells -/
def RowTo (w : World) (o : Option Ak) (e : Ending) (w' : World) : Prop := (o = none ∧ RowNo w e w') ∨ ∃ a, o = some a ∧ RowYes w a e w'
theorem below_box4 {w w1 : World} (hb : Below w.heap.size w w1) (x0 x1 x2 x3 : Value) : Below w.heap.size w ((((w1.setCell ⟨w.heap.size, 0, none⟩ x0).setCell ⟨w.heap.size, 1, none⟩ x1).setCell ⟨w.heap.size, 2, none⟩ x2).setCell ⟨w.heap.size, 3, none⟩ x3) :=
  (((hb.setCell (by simp) _).setCell (by simp) _).setCell (by simp) _).setCell (by simp) _
theorem row_no {w w' : World} {o : Option Ak} (ho : o = none) (hb : Below w.heap.size w w') :
    RowTo w o (.returned (.tuple #[.agg #[.int .u8 0, .int .u32 0, .slice none 0 0, .slice none 0 0], .bool false])) w' := .inl ⟨ho, rfl, hb⟩
theorem row_none (r : Int) (w : World) : Calls Try.prog 35 #[.pointer none, .int .i64 r] w (RowTo w none) := by
  go_enter Try.func35, Try.ntmps35
  go_wp2_with fail
  exact bodyPost_ret (v := .tuple #[.agg #[.int .u8 0, .int .u32 0, .slice none 0 0, .slice none 0 0], .bool false]) (by simp [results, Try.results35, go_sem]) rfl (row_no rfl ((Below.refl _ _).alloc (Nat.le_refl _) _))

set_option maxHeartbeats 4000000 in
theorem row_any (r : Int) (pm n : Nat) (R : Mx) (F : Nat → Prop) (w : World) (hM : MatR w F pm n R) (hR : okR n R) : Calls Try.prog 35 #[.pointer (some ⟨pm, 0, none⟩), .int .i64 r] w (RowTo w (rowM n R r)) := by
  obtain ⟨C, P, h⟩ := hM
  have H := Lib.hid h
  have hlt := heap_lt h.blk
  have q0 := cells_at h.blk
  have e0 := h.c0
  have hn16 := h.hn
  clear h
  by_cases h0 : r < 0
  · have He := Lib.hid (show rowM n R r = none by unfold rowM; rw [if_neg (by omega)])
    go_enter Try.func35, Try.ntmps35
    go_wp2_with fail
    exact bodyPost_ret (v := .tuple #[.agg #[.int .u8 0, .int .u32 0, .slice none 0 0, .slice none 0 0], .bool false]) (by simp [results, Try.results35, go_sem]) rfl (row_no He.out ((Below.refl _ _).alloc (Nat.le_refl _) _))
  · obtain ⟨k, rfl⟩ : ∃ k : Nat, r = k := ⟨r.toNat, by omega⟩
    have h0' : decide ((k : Int) < 0) = false := by simp
    by_cases h1 : k < n
    · have hk16 : k < 16 := by omega
      have eP := H.out.cP k hk16
      have Hm := Lib.hid (show rowM n R k = R k by unfold rowM; rw [if_pos (by omega)]; simp)
      have h1' : decide ((n : Int) ≤ k) = false := by simpa using h1
      rcases H.out.rows k hk16 with ⟨hP, hRk⟩ | ⟨p, o, hP, hRk, hrow⟩
      · rw [hP] at eP
        dsimp only [ptrV] at eP
        have He := Lib.hid (Hm.out.trans hRk)
        clear hP hRk
        go_enter Try.func35, Try.ntmps35
        go_wp2_with fail
        exact bodyPost_ret (v := .tuple #[.agg #[.int .u8 0, .int .u32 0, .slice none 0 0, .slice none 0 0], .bool false]) (by simp [results, Try.results35, go_sem]) rfl (row_no He.out ((Below.refl _ _).alloc (Nat.le_refl _) _))
      · rw [hP] at eP
        dsimp only [ptrV] at eP
        have He := Lib.hid (Hm.out.trans hRk)
        have Ho := Lib.hid (hR k o hRk)
        obtain ⟨oi, oc, ov, od, hb0, hu0, hv0, hf0⟩ := hrow
        have hlp := heap_lt hb0
        have dp := cells_at hb0
        have Hu0 := Lib.hid hu0
        have Hv0 := Lib.hid hv0
        have Hok := Lib.hid Ho.out.2.2.2.1
        have Hc := Lib.hid Ho.out.2.2.2.2.2
        have hol : o.incs.length ≤ 1000000 := by have := ((mayIncs_iff o.incs n).1 Ho.out.2.2.2.2.1).2.2.1; omega
        have hov : o.vv.length ≤ 1000000 := by rw [← Hc.out]; exact Nat.le_trans (vecOf_length _) (by decide)
        clear hP hRk hb0 hu0 hv0 hf0
        go_enter Try.func35, Try.ntmps35
        go_wp2_with fail
        refine (own_any o.r o.i oi ov oc od o.incs o.vv _ (Hu0.out.below ?hbi) (Hv0.out.below ?hbv) Hok.out hol hov).mono ?_
        case hbi => exact (Below.refl _ _).alloc (Nat.le_refl _) _
        case hbv => exact (Below.refl _ _).alloc (Nat.le_refl _) _
        rintro e w1 ⟨a3, c3, a4, c4, rfl, ho3, ho4, hb1⟩
        dsimp only at ho3 ho4
        rw [Hc.out] at ho4
        obtain ⟨hx0, hz, hB1⟩ := new1 hb1
        have d1 := cells_at hx0
        have f1 := free_at hx0
        have Ho3 := Lib.hid (owns_base ho3 (show w.heap.size + 1 ≤ _ by simp))
        have Ho4 := Lib.hid (owns_base ho4 (show w.heap.size + 1 ≤ _ by simp))
        have HB1 := Lib.hid hB1
        dsimp only
        rw [Hc.out]
        clear ho3 ho4 hb1 hx0 hB1
        go_wp2_with fail
        refine bodyPost_ret (v := .tuple #[.agg #[.int .u8 o.r, .int .u32 o.i, .slice a3 o.incs.length c3, .slice a4 o.vv.length c4], .bool true]) (by simp [results, Try.results35, go_sem, d1]) rfl (.inr ⟨o, He.out, a3, c3, a4, c4, rfl, ?_, ?_, ?_⟩)
        · exact owns_base (owns_set (owns_set (owns_set (owns_set Ho3.out (by simp)) (by simp)) (by simp)) (by simp)) (by omega)
        · exact owns_base (owns_set (owns_set (owns_set (owns_set Ho4.out (by simp)) (by simp)) (by simp)) (by simp)) (by omega)
        · exact below_box4 HB1.out _ _ _ _
    · have He := Lib.hid (show rowM n R k = none by unfold rowM; rw [if_neg (by omega)])
      have h1' : decide ((n : Int) ≤ k) = true := by simpa using h1
      go_enter Try.func35, Try.ntmps35
      go_wp2_with fail
      exact bodyPost_ret (v := .tuple #[.agg #[.int .u8 0, .int .u32 0, .slice none 0 0, .slice none 0 0], .bool false]) (by simp [results, Try.results35, go_sem]) rfl (row_no He.out ((Below.refl _ _).alloc (Nat.le_refl _) _))

theorem copy_none (w : World) : Calls Try.prog 37 #[.pointer none] w fun e w' => e = .returned (.pointer none) ∧ w = w' := by
  go_enter Try.func37, Try.ntmps37
  go_wp2_with fail
  go_ret
  exact ⟨rfl, rfl⟩
end Go.Proofs.Ytblahapjdgncfaa
