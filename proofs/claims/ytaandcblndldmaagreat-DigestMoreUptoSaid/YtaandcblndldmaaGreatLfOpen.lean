/- Arguments that are dots, items and leaves, opened. -/
import Derived.Test.YtaandcblndldmaaGreatLeafA
namespace Go.Proofs.YtaandcblndldmaaGreat
open Go.RowKit Go.ChangeShapes Go.WideShapes
set_option linter.unusedVariables false
set_option linter.unusedSimpArgs false

theorem listN5 {cs : List Value} (h : cs.length = 5) : ∃ a b c d e, cs = [a, b, c, d, e] := by
  match cs, h with
  | [a, b, c, d, e], _ => exact ⟨a, b, c, d, e, rfl⟩
theorem listN9 {cs : List Value} (h : cs.length = 9) : ∃ a b c d e f g i j, cs = [a, b, c, d, e, f, g, i, j] := by
  match cs, h with
  | [a, b, c, d, e, f, g, i, j], _ => exact ⟨a, b, c, d, e, f, g, i, j, rfl⟩
theorem listN2 {cs : List Value} (h : cs.length = 2) : ∃ a b, cs = [a, b] := by
  match cs, h with
  | [a, b], _ => exact ⟨a, b, rfl⟩
theorem listN3 {cs : List Value} (h : cs.length = 3) : ∃ a b c, cs = [a, b, c] := by
  match cs, h with
  | [a, b, c], _ => exact ⟨a, b, c, rfl⟩
section
variable {H : Type} {enc : TypeId × Value → H} {w : World} {base : Nat} {spare : Nat → Bool} {held : Bool}
theorem rd_actor {n : Nat} {cs : List Value} {x : DataW H × List MemPlace} (h : DataW.trod enc Tryz.prog w base spare held n 24 cs = some x) : ∃ a : Ac, cs = [.int .u8 a.1, .int .u32 a.2] ∧ okA a := by
  obtain ⟨xs, m, _, _, hl, hxl, hf⟩ := DataW.trod_struct Tryz.underlying24 h
  have hc : Tryz.prog.cellsOf 24 = 2 := by kernel_rfl
  obtain ⟨c0, c1, rfl⟩ := listN2 (hl.trans hc)
  have hxs : xs.length = 2 := hxl
  have e1 : Tryz.prog.cellsOf 5 = 1 := by kernel_rfl
  have e2 : Tryz.prog.cellsOf 22 = 1 := by kernel_rfl
  have h0 : DataW.trod enc Tryz.prog w base spare held m 5 ((List.drop 0 [c0, c1]).take (Tryz.prog.cellsOf 5)) = xs[0]? := hf 0 _ rfl
  have h1 : DataW.trod enc Tryz.prog w base spare held m 22 ((List.drop 1 [c0, c1]).take (Tryz.prog.cellsOf 22)) = xs[1]? := hf 1 _ rfl
  rw [List.getElem?_eq_getElem (by omega)] at h0 h1
  simp only [e1, e2, List.drop_zero, List.drop_succ_cons, List.take_succ_cons, List.take_zero] at h0 h1
  obtain ⟨k0, hk0, _, w0⟩ := DataW.trod_int Tryz.underlying5 h0
  obtain ⟨k1, hk1, _, w1⟩ := DataW.trod_int Tryz.underlying22 h1
  simp only [List.cons.injEq, and_true] at hk0 hk1
  subst hk0 hk1
  exact ⟨(k0, k1), rfl, (wf8 k0).1 w0, (wf32 k1).1 w1⟩
theorem rd_dot {n : Nat} {cs : List Value} {x : DataW H × List MemPlace} (h : DataW.trod enc Tryz.prog w base spare held n 49 cs = some x) : ∃ d : Dt, cs = dcell d ∧ okD d := by
  obtain ⟨xs, m, _, _, hl, hxl, hf⟩ := DataW.trod_struct Tryz.underlying49 h
  have hc : Tryz.prog.cellsOf 49 = 3 := by kernel_rfl
  obtain ⟨c0, c1, c2, rfl⟩ := listN3 (hl.trans hc)
  have hxs : xs.length = 2 := hxl
  have e1 : Tryz.prog.cellsOf 24 = 2 := by kernel_rfl
  have e2 : Tryz.prog.cellsOf 26 = 1 := by kernel_rfl
  have h0 : DataW.trod enc Tryz.prog w base spare held m 24 ((List.drop 0 [c0, c1, c2]).take (Tryz.prog.cellsOf 24)) = xs[0]? := hf 0 _ rfl
  have h1 : DataW.trod enc Tryz.prog w base spare held m 26 ((List.drop 2 [c0, c1, c2]).take (Tryz.prog.cellsOf 26)) = xs[1]? := hf 1 _ rfl
  rw [List.getElem?_eq_getElem (by omega)] at h0 h1
  simp only [e1, e2, List.drop_zero, List.drop_succ_cons, List.take_succ_cons, List.take_zero] at h0 h1
  obtain ⟨a, ha, hok⟩ := rd_actor h0
  obtain ⟨k1, hk1, _, w1⟩ := DataW.trod_int Tryz.underlying26 h1
  simp only [List.cons.injEq, and_true] at ha hk1
  obtain ⟨rfl, rfl⟩ := ha
  subst hk1
  exact ⟨(a, k1), rfl, hok, (wf64 k1).1 w1⟩
/-- a slice of dots, of either slice type -/
theorem rd_vec {t : TypeId} (ht : Tryz.prog.underlying t = some (.slice 49)) {n : Nat} {cs : List Value} {x : DataW H × List MemPlace} (h : DataW.trod enc Tryz.prog w base spare held n t cs = some x) :
    ∃ a c v, cs = [.slice a (List.length v) c] ∧ Vec w a c v ∧ okV v := by
  obtain ⟨a, n, c, ys, h1, h2⟩ := trod_list (R := fun cs (d : Dt) => cs = dcell d ∧ okD d) ht (by kernel_rfl) (fun n cs x h => rd_dot h) h
  obtain rfl : ys.length = n := h2.1
  refine ⟨a, c, ys, h1, h2.sl dcell (fun _ _ h => h.1), fun d hd => ?_⟩
  obtain ⟨i, hi⟩ := List.getElem?_of_mem hd
  obtain ⟨_, _, _, _, _, h⟩ := h2.2.2.2.2 i d hi
  exact h.2

/-- a leaf that came in: no bound on its items and tombs -/
structure LfRd (w : World) (l : Lf) (ia : Option Addr) (ic : Nat) (ta : Option Addr) (tc : Nat) : Prop where
  its : Its w ia ic l.items
  tms : Vec w ta tc l.tombs
  ok : okL l
end
end Go.Proofs.YtaandcblndldmaaGreat
