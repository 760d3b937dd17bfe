/- 'BagPlays' is proved: for every list of calls the law returns true, and leaves its argument as it was. No condition. -/
import Derived.Test.YtkgbdgnfidpelaaPlayC
import Derived.Test.YtkgbdgnfidpelaaOpen
import Derived.ShutString
import Derived.ChangeOld
import Derived.Lib.SmallJoins
namespace Go.Proofs.Ytkgbdgnfidpelaa.bagPlays
open Go.Proofs.Ytkgbdgnfidpelaa Go.ChangeShapes Go.WideShapes Go.ChangeAt Go.RowKit
set_option linter.unusedVariables false

theorem own : ownKnob Try.prog.godebug = none := by kernel_rfl
theorem laidOut : laidOutB Try.prog = true := by kernel_rfl

/-- how a call is read -/
def RdOp (w : World) (cs : List Value) (o : OpV) : Prop := cs = opcells o ∧ Sl w 1 o.ba o.bs.length o.bc (u8s o.bs) ∧ -9223372036854775808 ≤ o.i ∧ o.i ≤ 9223372036854775807

theorem list6 {cs : List Value} (h : cs.length = 6) : ∃ a b c d e f, cs = [a, b, c, d, e, f] := by
  match cs, h with
  | [a, b, c, d, e, f], _ => exact ⟨a, b, c, d, e, f, rfl⟩
theorem list2 {cs : List Value} (h : cs.length = 2) : ∃ a b, cs = [a, b] := by
  match cs, h with
  | [a, b], _ => exact ⟨a, b, rfl⟩

section
variable {H : Type} {enc : TypeId × Value → H} {w : World} {base : Nat} {spare : Nat → Bool} {held : Bool}
theorem rd_letter {n : Nat} {cs : List Value} {x : DataW H × List MemPlace} (h : DataW.trod enc Try.prog w base spare held n 30 cs = some x) : ∃ t8 bs ba bc, cs = [.int .u8 t8, .slice ba bs.length bc] ∧ Sl w 1 ba bs.length bc (u8s bs) := by
  obtain ⟨xs, m, _, _, hl, hxl, hf⟩ := DataW.trod_struct Try.underlying30 h
  have hc : Try.prog.cellsOf 30 = 2 := by kernel_rfl
  obtain ⟨c0, c1, rfl⟩ := list2 (hl.trans hc)
  have hxs : xs.length = 2 := hxl
  have e1 : Try.prog.cellsOf 5 = 1 := by kernel_rfl
  have e2 : Try.prog.cellsOf 24 = 1 := by kernel_rfl
  have h0 : DataW.trod enc Try.prog w base spare held m 5 ((List.drop 0 [c0, c1]).take (Try.prog.cellsOf 5)) = xs[0]? := hf 0 _ rfl
  have h1 : DataW.trod enc Try.prog w base spare held m 24 ((List.drop 1 [c0, c1]).take (Try.prog.cellsOf 24)) = xs[1]? := hf 1 _ rfl
  rw [List.getElem?_eq_getElem (by omega)] at h0 h1
  simp only [e1, e2, List.drop_zero, List.drop_succ_cons, List.take_succ_cons, List.take_zero] at h0 h1
  obtain ⟨k, hk, _, _⟩ := DataW.trod_int Try.underlying5 h0
  obtain ⟨a, c, bs, hb, hs⟩ := trod_bytes Try.underlying24 Try.underlying5 e1 h1
  simp only [List.cons.injEq, and_true] at hk hb
  subst hk hb
  exact ⟨k, bs, a, c, rfl, hs⟩
theorem rd_op {n : Nat} {cs : List Value} {x : DataW H × List MemPlace} (h : DataW.trod enc Try.prog w base spare held n 46 cs = some x) : ∃ o, RdOp w cs o := by
  obtain ⟨xs, m, _, _, hl, hxl, hf⟩ := DataW.trod_struct Try.underlying46 h
  have hc : Try.prog.cellsOf 46 = 6 := by kernel_rfl
  obtain ⟨c0, c1, c2, c3, c4, c5, rfl⟩ := list6 (hl.trans hc)
  have hxs : xs.length = 5 := hxl
  have e1 : Try.prog.cellsOf 5 = 1 := by kernel_rfl
  have e2 : Try.prog.cellsOf 3 = 1 := by kernel_rfl
  have e3 : Try.prog.cellsOf 30 = 2 := by kernel_rfl
  have h0 : DataW.trod enc Try.prog w base spare held m 3 ((List.drop 0 [c0, c1, c2, c3, c4, c5]).take (Try.prog.cellsOf 3)) = xs[0]? := hf 0 _ rfl
  have h1 : DataW.trod enc Try.prog w base spare held m 3 ((List.drop 1 [c0, c1, c2, c3, c4, c5]).take (Try.prog.cellsOf 3)) = xs[1]? := hf 1 _ rfl
  have h2 : DataW.trod enc Try.prog w base spare held m 3 ((List.drop 2 [c0, c1, c2, c3, c4, c5]).take (Try.prog.cellsOf 3)) = xs[2]? := hf 2 _ rfl
  have h3 : DataW.trod enc Try.prog w base spare held m 5 ((List.drop 3 [c0, c1, c2, c3, c4, c5]).take (Try.prog.cellsOf 5)) = xs[3]? := hf 3 _ rfl
  have h4 : DataW.trod enc Try.prog w base spare held m 30 ((List.drop 4 [c0, c1, c2, c3, c4, c5]).take (Try.prog.cellsOf 30)) = xs[4]? := hf 4 _ rfl
  rw [List.getElem?_eq_getElem (by omega)] at h0 h1 h2 h3 h4
  simp only [e1, e2, e3, List.drop_zero, List.drop_succ_cons, List.take_succ_cons, List.take_zero] at h0 h1 h2 h3 h4
  obtain ⟨k0, hk0, _, _⟩ := DataW.trod_int Try.underlying3 h0
  obtain ⟨k1, hk1, _, w1⟩ := DataW.trod_int Try.underlying3 h1
  obtain ⟨k2, hk2, _, _⟩ := DataW.trod_int Try.underlying3 h2
  obtain ⟨k3, hk3, _, w3⟩ := DataW.trod_int Try.underlying5 h3
  obtain ⟨t8, bs, ba, bc, hl4, hs⟩ := rd_letter h4
  obtain ⟨b3, rfl⟩ := u8_of_wf w3
  have bd : -9223372036854775808 ≤ k1 ∧ k1 ≤ 9223372036854775807 := by simpa [Lit.wf, IntKind.min, IntKind.max, IntKind.signed, IntKind.bits] using w1
  simp only [List.cons.injEq, and_true] at hk0 hk1 hk2 hk3 hl4
  obtain ⟨rfl, rfl⟩ := hl4
  subst hk0 hk1 hk2 hk3
  exact ⟨⟨k0, k1, k2, b3, t8, bs, ba, bc⟩, rfl, hs, bd.1, bd.2⟩
end
theorem ops_ok {w : World} {a : Option Addr} {n c : Nat} {O : List OpV} (h : RdL w 6 (RdOp w) a n c O) : OpsOk w a O := by
  refine ⟨fun k o hk => ?_⟩
  obtain ⟨ad, cs, rfl, _, hc, rfl, hs, i1, i2⟩ := h.2.2.2.2 k o hk
  refine ⟨ad, rfl, ?_, ?_, ?_, ?_, ?_, ?_, hs, i1, i2⟩
  · exact hc 0 (by omega)
  all_goals rw [Go.Deep.add_add]
  · exact hc 1 (by omega)
  · exact hc 2 (by omega)
  · exact hc 3 (by omega)
  · exact hc 4 (by omega)
  · exact hc 5 (by omega)

set_option maxHeartbeats 2000000 in
set_option maxRecDepth 100000 in
theorem lifted (os : Os) (started : os.Started) (H : Type) (enc : TypeId × Value → H) :
    ReturnsInHanded {} Try.checked os 4 .any (Rows.bagPlaysSpec.pre6 enc Try.prog Try.f4 Rows.bagPlaysRow.domain false) (Rows.bagPlaysSpec.post enc Try.prog Try.f4 false true false false) := by
  refine returnsInHanded_of_change (C := Try.checked) own started (by kernel_rfl) Try.func4
    (ChangeSpec.witness6 (enc := enc) (C := Try.checked) false ⟨#[], #[.slice none 0 0], []⟩ 8 (by kernel_rfl) (by kernel_rfl) (by kernel_rfl) (by kernel_rfl)) ?_
  intro W base args ds gs before hval0 hW hcnd _
  have hval : ∀ (j : Nat) t v, Try.f4.params[j]? = some t → args[j]? = some v → Value.okWide Try.prog W .any base t v := hval0
  have hW' := hW
  obtain ⟨p, q, hA0, hV, rfl, hfz, hnd⟩ := hW
  have hA : DataW.TrodAll enc Try.prog W 0 (fun _ => true) true Try.f4.params.toList args.toList ds p := hA0
  rw [Try.params4] at hA hval
  obtain ⟨v0, vs0, d0, ds0, p0, q0, hargs, rfl, rfl, h0, r0⟩ := trodAll_cons hA
  obtain ⟨rfl, rfl, rfl⟩ := trodAll_nil r0
  obtain rfl : args = #[v0] := by cases args; simp_all
  obtain ⟨rfl, rfl⟩ := trodVars_none hV
  have lt0 : ∀ x ∈ p0, x.block < W.heap.size := by obtain ⟨m, hm⟩ := h0; exact DataW.trod_lt m _ _ _ hm
  have h0' := h0
  obtain ⟨m0, g0⟩ := h0'
  obtain ⟨la, n, lc, O, hv, hO⟩ := trod_list (R := RdOp W) (size := 6) Try.underlying39 (by kernel_rfl) (fun n cs x h => rd_op h) g0
  obtain ⟨x1, x2, x3, rfl⟩ := okWide_slice Try.underlying39 (hval 0 39 v0 rfl rfl)
  simp [Value.cells] at hv
  obtain ⟨rfl, rfl, rfl⟩ := hv
  have hOl := hO.1
  subst hOl
  clear hA0 hval0
  refine (play_walk _ _ O W (ops_ok hO)).mono fun e W' ⟨he, bel⟩ => ?_
  subst he
  exact ⟨_, rfl, _, _, _, [], _, [], hW', trodAll_mk1 (shut_bool Try.underlying4 _), (trodAll_cons_mk (Below.trod laidOut (by kernel_rfl) (of_decide_eq_true (by kernel_rfl)) h0 bel lt0) trodAll_mk0), rfl, bel.frame _, fun h => by cases h⟩

theorem over : Rows.bagPlaysRow.holds Try.pinned (OpenSpec.ofChange Rows.bagPlaysSpec) :=
  OpenClaim.holds_of_wide 4 Try.f4 rfl rfl rfl rfl rfl rfl rfl ⟨rfl, rfl, rfl, rfl, rfl⟩ rfl rfl rfl rfl rfl (by kernel_rfl) Try.func4 (by kernel_rfl)
    (of_decide_eq_true (by kernel_rfl)) (by unfold Func.isWrapper; first | (rw [if_pos (by decide +kernel)]; kernel_rfl) | (rw [if_neg (by decide +kernel)]; exact ⟨rfl, rfl⟩))
    (fun os started H enc _ => lifted os started H enc)

/-- the statement -/
theorem proved : Rows.BagPlaysSaid := over
#print axioms proved
end Go.Proofs.Ytkgbdgnfidpelaa.bagPlays
