/- Arguments that are acknowledgements and incarnations, opened. -/
import Derived.Test.YtblahapjdgncfaaMatG
import Derived.Test.YtblahapjdgncfaaDotOpen
namespace Go.Proofs.Ytblahapjdgncfaa
open Go.RowKit Go.ChangeShapes Go.WideShapes
set_option linter.unusedVariables false
set_option linter.unusedSimpArgs false

theorem listN4 {cs : List Value} (h : cs.length = 4) : ∃ a b c d, cs = [a, b, c, d] := by
  match cs, h with
  | [a, b, c, d], _ => exact ⟨a, b, c, d, rfl⟩
section
variable {H : Type} {enc : TypeId × Value → H} {w : World} {base : Nat} {spare : Nat → Bool} {held : Bool}
theorem ucells_flat (l : List Int) : l.flatMap (fun x => [Value.int .u32 x]) = ucells l := by
  induction l with
  | nil => rfl
  | cons x l ih => simp only [List.flatMap_cons, ih]; rfl
theorem rd_u32 {n : Nat} {cs : List Value} {x : DataW H × List MemPlace} (h : DataW.trod enc Try.prog w base spare held n 45 cs = some x) :
    ∃ a c l, cs = [.slice a (List.length l) c] ∧ U32 w a c l ∧ okI l := by
  obtain ⟨a, n, c, ys, h1, h2⟩ := trod_list (R := fun cs (x : Int) => cs = [.int .u32 x] ∧ 0 ≤ x ∧ x ≤ 4294967295) Try.underlying45 (by kernel_rfl) (fun n cs x h => by
    obtain ⟨k1, hk1, _, w1⟩ := DataW.trod_int Try.underlying29 h
    exact ⟨k1, hk1, (wf32 k1).1 w1⟩) h
  obtain rfl : ys.length = n := h2.1
  refine ⟨a, c, ys, h1, by unfold U32; rw [← ucells_flat]; exact h2.sl _ (fun _ _ h => h.1), fun d hd => ?_⟩
  obtain ⟨i, hi⟩ := List.getElem?_of_mem hd
  obtain ⟨_, _, _, _, _, h⟩ := h2.2.2.2.2 i d hi
  exact h.2
theorem rd_ack {n : Nat} {cs : List Value} {x : DataW H × List MemPlace} (h : DataW.trod enc Try.prog w base spare held n 51 cs = some x) : ∃ a : Ak, AckRd w cs a := by
  obtain ⟨xs, m, _, _, hl, hxl, hf⟩ := DataW.trod_struct Try.underlying51 h
  have hc : Try.prog.cellsOf 51 = 4 := by kernel_rfl
  obtain ⟨c0, c1, c2, c3, rfl⟩ := listN4 (hl.trans hc)
  have hxs : xs.length = 3 := hxl
  have e1 : Try.prog.cellsOf 31 = 2 := by kernel_rfl
  have e2 : Try.prog.cellsOf 45 = 1 := by kernel_rfl
  have e3 : Try.prog.cellsOf 23 = 1 := by kernel_rfl
  have h0 : DataW.trod enc Try.prog w base spare held m 31 ((List.drop 0 [c0, c1, c2, c3]).take (Try.prog.cellsOf 31)) = xs[0]? := hf 0 _ rfl
  have h1 : DataW.trod enc Try.prog w base spare held m 45 ((List.drop 2 [c0, c1, c2, c3]).take (Try.prog.cellsOf 45)) = xs[1]? := hf 1 _ rfl
  have h2 : DataW.trod enc Try.prog w base spare held m 23 ((List.drop 3 [c0, c1, c2, c3]).take (Try.prog.cellsOf 23)) = xs[2]? := hf 2 _ rfl
  rw [List.getElem?_eq_getElem (by omega)] at h0 h1 h2
  simp only [e1, e2, e3, List.drop_zero, List.drop_succ_cons, List.take_succ_cons, List.take_zero] at h0 h1 h2
  obtain ⟨a, ha, hok⟩ := rd_actor h0
  obtain ⟨ai, ci, l, g1, hi, oki⟩ := rd_u32 h1
  obtain ⟨av, cv, v, g2, hv, okv⟩ := rd_vec Try.underlying23 h2
  simp only [List.cons.injEq, and_true] at ha g1 g2
  obtain ⟨rfl, rfl⟩ := ha
  subst g1 g2
  exact ⟨⟨a.1, a.2, l, v⟩, ai, ci, av, cv, rfl, hi, hv, hok, oki, okv⟩
theorem rd_acks {n : Nat} {cs : List Value} {x : DataW H × List MemPlace} (h : DataW.trod enc Try.prog w base spare held n 44 cs = some x) :
    ∃ a c ys, cs = [.slice a (List.length ys) c] ∧ Acks w a c ys := by
  obtain ⟨a, n, c, ys, h1, h2⟩ := trod_list (R := AckRd w) Try.underlying44 (by kernel_rfl) (fun n cs x h => rd_ack h) h
  obtain rfl : ys.length = n := h2.1
  exact ⟨a, c, ys, h1, h2⟩
end
end Go.Proofs.Ytblahapjdgncfaa
