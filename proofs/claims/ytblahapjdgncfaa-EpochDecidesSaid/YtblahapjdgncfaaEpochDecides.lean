/- 'EpochDecides' is proved: for all numbers, acknowledgements, incarnations, decisions and vectors the law returns true, and leaves its arguments as they were. No condition. -/
import Derived.Test.YtblahapjdgncfaaEpoH
import Derived.Test.YtblahapjdgncfaaMatOpen
import Derived.ShutString
import Derived.ChangeOld
import Derived.Lib.SmallJoins
namespace Go.Proofs.Ytblahapjdgncfaa.epochDecides
open Go.Proofs.Ytblahapjdgncfaa Go.ChangeShapes Go.WideShapes Go.ChangeAt Go.RowKit
set_option linter.unusedVariables false
set_option linter.unusedSimpArgs false

theorem own : ownKnob Try.prog.godebug = none := by kernel_rfl
theorem laidOut : laidOutB Try.prog = true := by kernel_rfl
section
variable {H : Type} {enc : TypeId × Value → H} {w : World} {base : Nat} {spare : Nat → Bool} {held : Bool}
theorem rd_decision {n : Nat} {cs : List Value} {x : DataW H × List MemPlace} (h : DataW.trod enc Try.prog w base spare held n 72 cs = some x) :
    ∃ dm a c v, cs = [.int .u64 dm, .slice a (List.length v) c] ∧ Vec w a c v ∧ okV v := by
  obtain ⟨xs, m, _, _, hl, hxl, hf⟩ := DataW.trod_struct Try.underlying72 h
  have hc : Try.prog.cellsOf 72 = 2 := by kernel_rfl
  obtain ⟨c0, c1, rfl⟩ := listN2 (hl.trans hc)
  have hxs : xs.length = 2 := hxl
  have e1 : Try.prog.cellsOf 32 = 1 := by kernel_rfl
  have e2 : Try.prog.cellsOf 23 = 1 := by kernel_rfl
  have h0 : DataW.trod enc Try.prog w base spare held m 32 ((List.drop 0 [c0, c1]).take (Try.prog.cellsOf 32)) = xs[0]? := hf 0 _ rfl
  have h1 : DataW.trod enc Try.prog w base spare held m 23 ((List.drop 1 [c0, c1]).take (Try.prog.cellsOf 23)) = xs[1]? := hf 1 _ rfl
  rw [List.getElem?_eq_getElem (by omega)] at h0 h1
  simp only [e1, e2, List.drop_zero, List.drop_succ_cons, List.take_succ_cons, List.take_zero] at h0 h1
  obtain ⟨dm, hd, _⟩ := DataW.trod_int Try.underlying32 h0
  obtain ⟨a, c, v, g1, hv, okv⟩ := rd_vec Try.underlying23 h1
  simp only [List.cons.injEq, and_true] at hd g1
  subst hd g1
  exact ⟨dm, a, c, v, rfl, hv, okv⟩
end
set_option maxRecDepth 100000 in
theorem form3 {W : World} {r : Reach} {base : Nat} {v : Value} (h : Value.okWide Try.prog W r base 72 v) : ∃ c0 c1, v = .agg #[c0, c1] := by
  obtain ⟨cs, rfl, hsz⟩ := okWide_struct Try.underlying72 h
  have hc : Try.prog.cellsOf 72 = 2 := by kernel_rfl
  obtain ⟨c0, c1, rfl⟩ := Joins.array2 (hsz.trans hc)
  exact ⟨c0, c1, rfl⟩

set_option maxHeartbeats 2000000 in
set_option maxRecDepth 100000 in
theorem lifted (os : Os) (started : os.Started) (H : Type) (enc : TypeId × Value → H) :
    ReturnsInHanded {} Try.checked os 8 .any (Rows.epochDecidesSpec.pre6 enc Try.prog Try.f8 Rows.epochDecidesRow.domain false) (Rows.epochDecidesSpec.post enc Try.prog Try.f8 false true false false) := by
  refine returnsInHanded_of_change (C := Try.checked) own started (by kernel_rfl) Try.func8
    (ChangeSpec.witness6 (enc := enc) (C := Try.checked) false ⟨#[], #[.int .i64 1, .slice none 0 0, .slice none 0 0, .agg #[.int .u64 0, .slice none 0 0], .int .u64 1, .slice none 0 0, .slice none 0 0], []⟩ 8 (by kernel_rfl) (by kernel_rfl) (by kernel_rfl) (by kernel_rfl)) ?_
  intro W base args ds gs before hval0 hW hcnd _
  have hval : ∀ (j : Nat) t v, Try.f8.params[j]? = some t → args[j]? = some v → Value.okWide Try.prog W .any base t v := hval0
  have hW' := hW
  obtain ⟨p, q, hA0, hV, rfl, hfz, hnd⟩ := hW
  have hA : DataW.TrodAll enc Try.prog W 0 (fun _ => true) true Try.f8.params.toList args.toList ds p := hA0
  rw [Try.params8] at hA hval
  obtain ⟨v0, vs0, d0, ds0, p0, q0, hargs, rfl, rfl, h0, r0⟩ := trodAll_cons hA
  obtain ⟨v1, vs1, d1, ds1, p1, q1, rfl, rfl, rfl, h1, r1⟩ := trodAll_cons r0
  obtain ⟨v2, vs2, d2, ds2, p2, q2, rfl, rfl, rfl, h2, r2⟩ := trodAll_cons r1
  obtain ⟨v3, vs3, d3, ds3, p3, q3, rfl, rfl, rfl, h3, r3⟩ := trodAll_cons r2
  obtain ⟨v4, vs4, d4, ds4, p4, q4, rfl, rfl, rfl, h4, r4⟩ := trodAll_cons r3
  obtain ⟨v5, vs5, d5, ds5, p5, q5, rfl, rfl, rfl, h5, r5⟩ := trodAll_cons r4
  obtain ⟨v6, vs6, d6, ds6, p6, q6, rfl, rfl, rfl, h6, r6⟩ := trodAll_cons r5
  obtain ⟨rfl, rfl, rfl⟩ := trodAll_nil r6
  obtain rfl : args = #[v0, v1, v2, v3, v4, v5, v6] := by cases args; simp_all
  obtain ⟨rfl, rfl⟩ := trodVars_none hV
  have lt0 : ∀ x ∈ p0, x.block < W.heap.size := by obtain ⟨m, hm⟩ := h0; exact DataW.trod_lt m _ _ _ hm
  have lt1 : ∀ x ∈ p1, x.block < W.heap.size := by obtain ⟨m, hm⟩ := h1; exact DataW.trod_lt m _ _ _ hm
  have lt2 : ∀ x ∈ p2, x.block < W.heap.size := by obtain ⟨m, hm⟩ := h2; exact DataW.trod_lt m _ _ _ hm
  have lt3 : ∀ x ∈ p3, x.block < W.heap.size := by obtain ⟨m, hm⟩ := h3; exact DataW.trod_lt m _ _ _ hm
  have lt4 : ∀ x ∈ p4, x.block < W.heap.size := by obtain ⟨m, hm⟩ := h4; exact DataW.trod_lt m _ _ _ hm
  have lt5 : ∀ x ∈ p5, x.block < W.heap.size := by obtain ⟨m, hm⟩ := h5; exact DataW.trod_lt m _ _ _ hm
  have lt6 : ∀ x ∈ p6, x.block < W.heap.size := by obtain ⟨m, hm⟩ := h6; exact DataW.trod_lt m _ _ _ hm
  have h0' := h0
  have h1' := h1
  have h2' := h2
  have h3' := h3
  have h4' := h4
  have h5' := h5
  have h6' := h6
  obtain ⟨m0, g0⟩ := h0'
  obtain ⟨m1, g1⟩ := h1'
  obtain ⟨m2, g2⟩ := h2'
  obtain ⟨m3, g3⟩ := h3'
  obtain ⟨m4, g4⟩ := h4'
  obtain ⟨m5, g5⟩ := h5'
  obtain ⟨m6, g6⟩ := h6'
  obtain ⟨k0, e0, _, wf0⟩ := DataW.trod_int Try.underlying3 g0
  obtain ⟨a1, c1, Y1, e1, acks1⟩ := rd_acks g1
  obtain ⟨a2, c2, L2, e2, u2, ok2⟩ := rd_u32 g2
  obtain ⟨dm, a3, c3, V3, e3, vec3, ok3⟩ := rd_decision g3
  obtain ⟨k4, e4, _, wf4⟩ := DataW.trod_int Try.underlying32 g4
  obtain ⟨a5, c5, V5, e5, vec5, ok5⟩ := rd_vec Try.underlying23 g5
  obtain ⟨a6, c6, V6, e6, vec6, ok6⟩ := rd_vec Try.underlying23 g6
  obtain ⟨x0, rfl⟩ := okWide_int Try.underlying3 (hval 0 3 v0 rfl rfl)
  obtain ⟨y1a, y1b, y1c, rfl⟩ := okWide_slice Try.underlying44 (hval 1 44 v1 rfl rfl)
  obtain ⟨y2a, y2b, y2c, rfl⟩ := okWide_slice Try.underlying45 (hval 2 45 v2 rfl rfl)
  obtain ⟨z3_0, z3_1, rfl⟩ := form3 (hval 3 72 v3 rfl rfl)
  obtain ⟨x4, rfl⟩ := okWide_int Try.underlying32 (hval 4 32 v4 rfl rfl)
  obtain ⟨y5a, y5b, y5c, rfl⟩ := okWide_slice Try.underlying23 (hval 5 23 v5 rfl rfl)
  obtain ⟨y6a, y6b, y6c, rfl⟩ := okWide_slice Try.underlying23 (hval 6 23 v6 rfl rfl)
  simp [Value.cells] at e0 e1 e2 e3 e4 e5 e6
  subst e0
  obtain ⟨rfl, rfl, rfl⟩ := e1
  obtain ⟨rfl, rfl, rfl⟩ := e2
  obtain ⟨rfl, rfl⟩ := e3
  subst e4
  obtain ⟨rfl, rfl, rfl⟩ := e5
  obtain ⟨rfl, rfl, rfl⟩ := e6
  clear hA0 hval0
  refine (decides_walk _ _ _ _ _ _ _ _ _ _ _ Y1 L2 dm x4 V3 V5 V6 W acks1 u2 ok2 vec3 ok3 vec5 ok5 vec6 ok6 ((wf64 x4).1 wf4).1 ((wf64 x4).1 wf4).2).mono fun e W' ⟨he, bel⟩ => ?_
  subst he
  exact ⟨_, rfl, _, _, _, [], _, [], hW', trodAll_mk1 (shut_bool Try.underlying4 _), (trodAll_cons_mk (Below.trod laidOut (by kernel_rfl) (of_decide_eq_true (by kernel_rfl)) h0 bel lt0) (trodAll_cons_mk (Below.trod laidOut (by kernel_rfl) (of_decide_eq_true (by kernel_rfl)) h1 bel lt1) (trodAll_cons_mk (Below.trod laidOut (by kernel_rfl) (of_decide_eq_true (by kernel_rfl)) h2 bel lt2) (trodAll_cons_mk (Below.trod laidOut (by kernel_rfl) (of_decide_eq_true (by kernel_rfl)) h3 bel lt3) (trodAll_cons_mk (Below.trod laidOut (by kernel_rfl) (of_decide_eq_true (by kernel_rfl)) h4 bel lt4) (trodAll_cons_mk (Below.trod laidOut (by kernel_rfl) (of_decide_eq_true (by kernel_rfl)) h5 bel lt5) (trodAll_cons_mk (Below.trod laidOut (by kernel_rfl) (of_decide_eq_true (by kernel_rfl)) h6 bel lt6) trodAll_mk0))))))), rfl, bel.frame _, fun h => by cases h⟩

theorem over : Rows.epochDecidesRow.holds Try.pinned (OpenSpec.ofChange Rows.epochDecidesSpec) :=
  OpenClaim.holds_of_wide 8 Try.f8 rfl rfl rfl rfl rfl rfl rfl ⟨rfl, rfl, rfl, rfl, rfl⟩ rfl rfl rfl rfl rfl (by kernel_rfl) Try.func8 (by kernel_rfl)
    (of_decide_eq_true (by kernel_rfl)) (by unfold Func.isWrapper; first | (rw [if_pos (by decide +kernel)]; kernel_rfl) | (rw [if_neg (by decide +kernel)]; exact ⟨rfl, rfl⟩))
    (fun os started H enc _ => lifted os started H enc)

/-- the statement -/
theorem proved : Rows.EpochDecidesSaid := over
#print axioms proved
end Go.Proofs.Ytblahapjdgncfaa.epochDecides
