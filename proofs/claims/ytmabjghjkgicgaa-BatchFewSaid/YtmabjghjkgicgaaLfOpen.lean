/- Arguments that are dots, items and leaves, opened. -/
import Derived.Test.YtmabjghjkgicgaaLeafF
namespace Go.Proofs.Ytmabjghjkgicgaa
open Go.RowKit Go.ChangeShapes Go.WideShapes
set_option linter.unusedVariables false
set_option linter.unusedSimpArgs false

theorem listN5 {cs : List Value} (h : cs.length = 5) : ∃ a b c d e, cs = [a, b, c, d, e] := by
  match cs, h with
  | [a, b, c, d, e], _ => exact ⟨a, b, c, d, e, rfl⟩
theorem listN9 {cs : List Value} (h : cs.length = 9) : ∃ a b c d e f g i j, cs = [a, b, c, d, e, f, g, i, j] := by
  match cs, h with
  | [a, b, c, d, e, f, g, i, j], _ => exact ⟨a, b, c, d, e, f, g, i, j, rfl⟩
theorem listN2 {cs : List Value} (h : cs.length = 2) : ∃ a b, cs = [a, b] := by
  match cs, h with
  | [a, b], _ => exact ⟨a, b, rfl⟩
theorem listN3 {cs : List Value} (h : cs.length = 3) : ∃ a b c, cs = [a, b, c] := by
  match cs, h with
  | [a, b, c], _ => exact ⟨a, b, c, rfl⟩
section
variable {H : Type} {enc : TypeId × Value → H} {w : World} {base : Nat} {spare : Nat → Bool} {held : Bool}
theorem rd_actor {n : Nat} {cs : List Value} {x : DataW H × List MemPlace} (h : DataW.trod enc Try.prog w base spare held n 28 cs = some x) : ∃ a : Ac, cs = [.int .u8 a.1, .int .u32 a.2] ∧ okA a := by
  obtain ⟨xs, m, _, _, hl, hxl, hf⟩ := DataW.trod_struct Try.underlying28 h
  have hc : Try.prog.cellsOf 28 = 2 := by kernel_rfl
  obtain ⟨c0, c1, rfl⟩ := listN2 (hl.trans hc)
  have hxs : xs.length = 2 := hxl
  have e1 : Try.prog.cellsOf 5 = 1 := by kernel_rfl
  have e2 : Try.prog.cellsOf 26 = 1 := by kernel_rfl
  have h0 : DataW.trod enc Try.prog w base spare held m 5 ((List.drop 0 [c0, c1]).take (Try.prog.cellsOf 5)) = xs[0]? := hf 0 _ rfl
  have h1 : DataW.trod enc Try.prog w base spare held m 26 ((List.drop 1 [c0, c1]).take (Try.prog.cellsOf 26)) = xs[1]? := hf 1 _ rfl
  rw [List.getElem?_eq_getElem (by omega)] at h0 h1
  simp only [e1, e2, List.drop_zero, List.drop_succ_cons, List.take_succ_cons, List.take_zero] at h0 h1
  obtain ⟨k0, hk0, _, w0⟩ := DataW.trod_int Try.underlying5 h0
  obtain ⟨k1, hk1, _, w1⟩ := DataW.trod_int Try.underlying26 h1
  simp only [List.cons.injEq, and_true] at hk0 hk1
  subst hk0 hk1
  exact ⟨(k0, k1), rfl, (wf8 k0).1 w0, (wf32 k1).1 w1⟩
theorem rd_dot {n : Nat} {cs : List Value} {x : DataW H × List MemPlace} (h : DataW.trod enc Try.prog w base spare held n 31 cs = some x) : ∃ d : Dt, cs = dcell d ∧ okD d := by
  obtain ⟨xs, m, _, _, hl, hxl, hf⟩ := DataW.trod_struct Try.underlying31 h
  have hc : Try.prog.cellsOf 31 = 3 := by kernel_rfl
  obtain ⟨c0, c1, c2, rfl⟩ := listN3 (hl.trans hc)
  have hxs : xs.length = 2 := hxl
  have e1 : Try.prog.cellsOf 28 = 2 := by kernel_rfl
  have e2 : Try.prog.cellsOf 29 = 1 := by kernel_rfl
  have h0 : DataW.trod enc Try.prog w base spare held m 28 ((List.drop 0 [c0, c1, c2]).take (Try.prog.cellsOf 28)) = xs[0]? := hf 0 _ rfl
  have h1 : DataW.trod enc Try.prog w base spare held m 29 ((List.drop 2 [c0, c1, c2]).take (Try.prog.cellsOf 29)) = xs[1]? := hf 1 _ rfl
  rw [List.getElem?_eq_getElem (by omega)] at h0 h1
  simp only [e1, e2, List.drop_zero, List.drop_succ_cons, List.take_succ_cons, List.take_zero] at h0 h1
  obtain ⟨a, ha, hok⟩ := rd_actor h0
  obtain ⟨k1, hk1, _, w1⟩ := DataW.trod_int Try.underlying29 h1
  simp only [List.cons.injEq, and_true] at ha hk1
  obtain ⟨rfl, rfl⟩ := ha
  subst hk1
  exact ⟨(a, k1), rfl, hok, (wf64 k1).1 w1⟩
/-- a slice of dots, of either slice type -/
theorem rd_vec {t : TypeId} (ht : Try.prog.underlying t = some (.slice 31)) {n : Nat} {cs : List Value} {x : DataW H × List MemPlace} (h : DataW.trod enc Try.prog w base spare held n t cs = some x) :
    ∃ a c v, cs = [.slice a (List.length v) c] ∧ Vec w a c v ∧ okV v := by
  obtain ⟨a, n, c, ys, h1, h2⟩ := trod_list (R := fun cs (d : Dt) => cs = dcell d ∧ okD d) ht (by kernel_rfl) (fun n cs x h => rd_dot h) h
  obtain rfl : ys.length = n := h2.1
  refine ⟨a, c, ys, h1, h2.sl dcell (fun _ _ h => h.1), fun d hd => ?_⟩
  obtain ⟨i, hi⟩ := List.getElem?_of_mem hd
  obtain ⟨_, _, _, _, _, h⟩ := h2.2.2.2.2 i d hi
  exact h.2

theorem rd_item {n : Nat} {cs : List Value} {x : DataW H × List MemPlace} (h : DataW.trod enc Try.prog w base spare held n 58 cs = some x) : ∃ y : It, cs = icell y ∧ isU y.t ∧ okD y.d := by
  obtain ⟨xs, m, _, _, hl, hxl, hf⟩ := DataW.trod_struct Try.underlying58 h
  have hc : Try.prog.cellsOf 58 = 5 := by kernel_rfl
  obtain ⟨c0, c1, c2, c3, c4, rfl⟩ := listN5 (hl.trans hc)
  have hxs : xs.length = 3 := hxl
  have e1 : Try.prog.cellsOf 29 = 1 := by kernel_rfl
  have e2 : Try.prog.cellsOf 31 = 3 := by kernel_rfl
  have e3 : Try.prog.cellsOf 9 = 1 := by kernel_rfl
  have h0 : DataW.trod enc Try.prog w base spare held m 29 ((List.drop 0 [c0, c1, c2, c3, c4]).take (Try.prog.cellsOf 29)) = xs[0]? := hf 0 _ rfl
  have h1 : DataW.trod enc Try.prog w base spare held m 31 ((List.drop 1 [c0, c1, c2, c3, c4]).take (Try.prog.cellsOf 31)) = xs[1]? := hf 1 _ rfl
  have h2 : DataW.trod enc Try.prog w base spare held m 9 ((List.drop 4 [c0, c1, c2, c3, c4]).take (Try.prog.cellsOf 9)) = xs[2]? := hf 2 _ rfl
  rw [List.getElem?_eq_getElem (by omega)] at h0 h1 h2
  simp only [e1, e2, e3, List.drop_zero, List.drop_succ_cons, List.take_succ_cons, List.take_zero] at h0 h1 h2
  obtain ⟨k0, hk0, _, w0⟩ := DataW.trod_int Try.underlying29 h0
  obtain ⟨d, hd, hok⟩ := rd_dot h1
  obtain ⟨s, hs, _⟩ := DataW.trod_string Try.underlying9 h2
  simp only [dcell, List.cons.injEq, and_true] at hk0 hd hs
  obtain ⟨rfl, rfl, rfl⟩ := hd
  subst hk0 hs
  exact ⟨⟨k0, d, s⟩, rfl, (wf64 k0).1 w0, hok⟩
theorem rd_items {n : Nat} {cs : List Value} {x : DataW H × List MemPlace} (h : DataW.trod enc Try.prog w base spare held n 38 cs = some x) :
    ∃ a c v, cs = [.slice a (List.length v) c] ∧ Its w a c v ∧ ∀ y ∈ v, isU y.t ∧ okD y.d := by
  obtain ⟨a, n, c, ys, h1, h2⟩ := trod_list (R := fun cs (y : It) => cs = icell y ∧ isU y.t ∧ okD y.d) Try.underlying38 (by kernel_rfl) (fun n cs x h => rd_item h) h
  obtain rfl : ys.length = n := h2.1
  refine ⟨a, c, ys, h1, h2.sl icell (fun _ _ h => h.1), fun d hd => ?_⟩
  obtain ⟨i, hi⟩ := List.getElem?_of_mem hd
  obtain ⟨_, _, _, _, _, h⟩ := h2.2.2.2.2 i d hi
  exact h.2
/-- a leaf that came in: no bound on its items and tombs -/
structure LfRd (w : World) (l : Lf) (ia : Option Addr) (ic : Nat) (ta : Option Addr) (tc : Nat) : Prop where
  its : Its w ia ic l.items
  tms : Vec w ta tc l.tombs
  ok : okL l
theorem LfRd.at {l : Lf} {ia : Option Addr} {ic : Nat} {ta : Option Addr} {tc : Nat} (h : LfRd w l ia ic ta tc) (h1 : l.items.length ≤ 100) (h2 : l.tombs.length ≤ 100) : LfAt w l ia ic ta tc := ⟨h.its, h.tms, by omega, by omega⟩
theorem rd_leaf {n : Nat} {cs : List Value} {x : DataW H × List MemPlace} (h : DataW.trod enc Try.prog w base spare held n 40 cs = some x) :
    ∃ l ia ic ta tc, cs = (lcells l ia ic ta tc).toList ∧ LfRd w l ia ic ta tc := by
  obtain ⟨xs, m, _, _, hl, hxl, hf⟩ := DataW.trod_struct Try.underlying40 h
  have hc : Try.prog.cellsOf 40 = 9 := by kernel_rfl
  obtain ⟨c0, c1, c2, c3, c4, c5, c6, c7, c8, rfl⟩ := listN9 (hl.trans hc)
  have hxs : xs.length = 7 := hxl
  have e0 : Try.prog.cellsOf 5 = 1 := by kernel_rfl
  have e9 : Try.prog.cellsOf 2 = 1 := by kernel_rfl
  have e1 : Try.prog.cellsOf 29 = 1 := by kernel_rfl
  have e2 : Try.prog.cellsOf 31 = 3 := by kernel_rfl
  have e3 : Try.prog.cellsOf 9 = 1 := by kernel_rfl
  have e4 : Try.prog.cellsOf 38 = 1 := by kernel_rfl
  have e5 : Try.prog.cellsOf 33 = 1 := by kernel_rfl
  have h0 : DataW.trod enc Try.prog w base spare held m 5 ((List.drop 0 [c0, c1, c2, c3, c4, c5, c6, c7, c8]).take (Try.prog.cellsOf 5)) = xs[0]? := hf 0 _ rfl
  have h1 : DataW.trod enc Try.prog w base spare held m 2 ((List.drop 1 [c0, c1, c2, c3, c4, c5, c6, c7, c8]).take (Try.prog.cellsOf 2)) = xs[1]? := hf 1 _ rfl
  have h2 : DataW.trod enc Try.prog w base spare held m 29 ((List.drop 2 [c0, c1, c2, c3, c4, c5, c6, c7, c8]).take (Try.prog.cellsOf 29)) = xs[2]? := hf 2 _ rfl
  have h3 : DataW.trod enc Try.prog w base spare held m 31 ((List.drop 3 [c0, c1, c2, c3, c4, c5, c6, c7, c8]).take (Try.prog.cellsOf 31)) = xs[3]? := hf 3 _ rfl
  have h4 : DataW.trod enc Try.prog w base spare held m 9 ((List.drop 6 [c0, c1, c2, c3, c4, c5, c6, c7, c8]).take (Try.prog.cellsOf 9)) = xs[4]? := hf 4 _ rfl
  have h5 : DataW.trod enc Try.prog w base spare held m 38 ((List.drop 7 [c0, c1, c2, c3, c4, c5, c6, c7, c8]).take (Try.prog.cellsOf 38)) = xs[5]? := hf 5 _ rfl
  have h6 : DataW.trod enc Try.prog w base spare held m 33 ((List.drop 8 [c0, c1, c2, c3, c4, c5, c6, c7, c8]).take (Try.prog.cellsOf 33)) = xs[6]? := hf 6 _ rfl
  rw [List.getElem?_eq_getElem (by omega)] at h0 h1 h2 h3 h4 h5 h6
  simp only [e0, e9, e1, e2, e3, e4, e5, List.drop_zero, List.drop_succ_cons, List.take_succ_cons, List.take_zero] at h0 h1 h2 h3 h4 h5 h6
  obtain ⟨k0, hk0, _, w0⟩ := DataW.trod_int Try.underlying5 h0
  obtain ⟨k1, hk1, _, w1⟩ := DataW.trod_int Try.underlying2 h1
  obtain ⟨k2, hk2, _, w2⟩ := DataW.trod_int Try.underlying29 h2
  obtain ⟨d, hd, hok⟩ := rd_dot h3
  obtain ⟨s, hs, _⟩ := DataW.trod_string Try.underlying9 h4
  obtain ⟨ia, ic, is, g5, hits, oki⟩ := rd_items h5
  obtain ⟨ta, tc, ts, g6, htms, okt⟩ := rd_vec Try.underlying33 h6
  simp only [dcell, List.cons.injEq, and_true] at hk0 hk1 hk2 hd hs g5 g6
  obtain ⟨rfl, rfl, rfl⟩ := hd
  subst hk0 hk1 hk2 hs g5 g6
  exact ⟨⟨k0, k1, k2, d, s, is, ts⟩, ia, ic, ta, tc, rfl, hits, htms, (wf8 k0).1 w0, (wf64 k2).1 w2, hok, oki, okt⟩
end
end Go.Proofs.Ytmabjghjkgicgaa
