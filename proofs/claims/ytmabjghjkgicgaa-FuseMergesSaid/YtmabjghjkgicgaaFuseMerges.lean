/- 'FuseMerges' is proved: for all leaves the law returns true, and leaves its arguments as they were. No condition. -/
import Derived.Test.YtmabjghjkgicgaaLawC
import Derived.Test.YtmabjghjkgicgaaLfOpen
import Derived.ShutString
import Derived.ChangeOld
import Derived.Lib.SmallJoins
namespace Go.Proofs.Ytmabjghjkgicgaa.fuseMerges
open Go.Proofs.Ytmabjghjkgicgaa Go.ChangeShapes Go.WideShapes Go.ChangeAt Go.RowKit
set_option linter.unusedVariables false
set_option linter.unusedSimpArgs false

theorem own : ownKnob Try.prog.godebug = none := by kernel_rfl
theorem laidOut : laidOutB Try.prog = true := by kernel_rfl
theorem Joins.array9 {α : Type} {cs : Array α} (h : cs.size = 9) : ∃ c0 c1 c2 c3 c4 c5 c6 c7 c8, cs = #[c0, c1, c2, c3, c4, c5, c6, c7, c8] := by
  obtain ⟨l⟩ := cs
  match l, h with
  | [c0, c1, c2, c3, c4, c5, c6, c7, c8], _ => exact ⟨c0, c1, c2, c3, c4, c5, c6, c7, c8, rfl⟩
set_option maxRecDepth 100000 in
theorem form0 {W : World} {r : Reach} {base : Nat} {v : Value} (h : Value.okWide Try.prog W r base 40 v) : ∃ c0 c1 c2 c3 c4 c5 c6 c7 c8, v = .agg #[c0, c1, c2, c3, c4, c5, c6, c7, c8] := by
  obtain ⟨cs, rfl, hsz⟩ := okWide_struct Try.underlying40 h
  have hc : Try.prog.cellsOf 40 = 9 := by kernel_rfl
  obtain ⟨c0, c1, c2, c3, c4, c5, c6, c7, c8, rfl⟩ := Joins.array9 (hsz.trans hc)
  exact ⟨c0, c1, c2, c3, c4, c5, c6, c7, c8, rfl⟩
set_option maxRecDepth 100000 in
theorem form1 {W : World} {r : Reach} {base : Nat} {v : Value} (h : Value.okWide Try.prog W r base 40 v) : ∃ c0 c1 c2 c3 c4 c5 c6 c7 c8, v = .agg #[c0, c1, c2, c3, c4, c5, c6, c7, c8] := by
  obtain ⟨cs, rfl, hsz⟩ := okWide_struct Try.underlying40 h
  have hc : Try.prog.cellsOf 40 = 9 := by kernel_rfl
  obtain ⟨c0, c1, c2, c3, c4, c5, c6, c7, c8, rfl⟩ := Joins.array9 (hsz.trans hc)
  exact ⟨c0, c1, c2, c3, c4, c5, c6, c7, c8, rfl⟩
set_option maxRecDepth 100000 in
theorem form2 {W : World} {r : Reach} {base : Nat} {v : Value} (h : Value.okWide Try.prog W r base 40 v) : ∃ c0 c1 c2 c3 c4 c5 c6 c7 c8, v = .agg #[c0, c1, c2, c3, c4, c5, c6, c7, c8] := by
  obtain ⟨cs, rfl, hsz⟩ := okWide_struct Try.underlying40 h
  have hc : Try.prog.cellsOf 40 = 9 := by kernel_rfl
  obtain ⟨c0, c1, c2, c3, c4, c5, c6, c7, c8, rfl⟩ := Joins.array9 (hsz.trans hc)
  exact ⟨c0, c1, c2, c3, c4, c5, c6, c7, c8, rfl⟩

set_option maxHeartbeats 2000000 in
set_option maxRecDepth 100000 in
theorem lifted (os : Os) (started : os.Started) (H : Type) (enc : TypeId × Value → H) :
    ReturnsInHanded {} Try.checked os 5 .any (Rows.fuseMergesSpec.pre6 enc Try.prog Try.f5 Rows.fuseMergesRow.domain false) (Rows.fuseMergesSpec.post enc Try.prog Try.f5 false true false false) := by
  refine returnsInHanded_of_change (C := Try.checked) own started (by kernel_rfl) Try.func5
    (ChangeSpec.witness6 (enc := enc) (C := Try.checked) false ⟨#[], #[.agg #[.int .u8 0, .int .i64 0, .int .u64 0, .int .u8 0, .int .u32 0, .int .u64 0, .string ⟨#[]⟩, .slice none 0 0, .slice none 0 0], .agg #[.int .u8 0, .int .i64 0, .int .u64 0, .int .u8 0, .int .u32 0, .int .u64 0, .string ⟨#[]⟩, .slice none 0 0, .slice none 0 0], .agg #[.int .u8 0, .int .i64 0, .int .u64 0, .int .u8 0, .int .u32 0, .int .u64 0, .string ⟨#[]⟩, .slice none 0 0, .slice none 0 0]], []⟩ 8 (by kernel_rfl) (by kernel_rfl) (by kernel_rfl) (by kernel_rfl)) ?_
  intro W base args ds gs before hval0 hW hcnd _
  have hval : ∀ (j : Nat) t v, Try.f5.params[j]? = some t → args[j]? = some v → Value.okWide Try.prog W .any base t v := hval0
  have hW' := hW
  obtain ⟨p, q, hA0, hV, rfl, hfz, hnd⟩ := hW
  have hA : DataW.TrodAll enc Try.prog W 0 (fun _ => true) true Try.f5.params.toList args.toList ds p := hA0
  rw [Try.params5] at hA hval
  obtain ⟨v0, vs0, d0, ds0, p0, q0, hargs, rfl, rfl, h0, r0⟩ := trodAll_cons hA
  obtain ⟨v1, vs1, d1, ds1, p1, q1, rfl, rfl, rfl, h1, r1⟩ := trodAll_cons r0
  obtain ⟨v2, vs2, d2, ds2, p2, q2, rfl, rfl, rfl, h2, r2⟩ := trodAll_cons r1
  obtain ⟨rfl, rfl, rfl⟩ := trodAll_nil r2
  obtain rfl : args = #[v0, v1, v2] := by cases args; simp_all
  obtain ⟨rfl, rfl⟩ := trodVars_none hV
  have lt0 : ∀ x ∈ p0, x.block < W.heap.size := by obtain ⟨m, hm⟩ := h0; exact DataW.trod_lt m _ _ _ hm
  have lt1 : ∀ x ∈ p1, x.block < W.heap.size := by obtain ⟨m, hm⟩ := h1; exact DataW.trod_lt m _ _ _ hm
  have lt2 : ∀ x ∈ p2, x.block < W.heap.size := by obtain ⟨m, hm⟩ := h2; exact DataW.trod_lt m _ _ _ hm
  have h0' := h0
  have h1' := h1
  have h2' := h2
  obtain ⟨m0, g0⟩ := h0'
  obtain ⟨m1, g1⟩ := h1'
  obtain ⟨m2, g2⟩ := h2'
  obtain ⟨l0, ia0, ic0, ta0, tc0, e0, lf0⟩ := rd_leaf g0
  obtain ⟨l1, ia1, ic1, ta1, tc1, e1, lf1⟩ := rd_leaf g1
  obtain ⟨l2, ia2, ic2, ta2, tc2, e2, lf2⟩ := rd_leaf g2
  obtain ⟨z0_0, z0_1, z0_2, z0_3, z0_4, z0_5, z0_6, z0_7, z0_8, rfl⟩ := form0 (hval 0 40 v0 rfl rfl)
  obtain ⟨z1_0, z1_1, z1_2, z1_3, z1_4, z1_5, z1_6, z1_7, z1_8, rfl⟩ := form1 (hval 1 40 v1 rfl rfl)
  obtain ⟨z2_0, z2_1, z2_2, z2_3, z2_4, z2_5, z2_6, z2_7, z2_8, rfl⟩ := form2 (hval 2 40 v2 rfl rfl)
  simp [Value.cells, lcells, lcells, lcells] at e0 e1 e2
  obtain ⟨rfl, rfl, rfl, rfl, rfl, rfl, rfl, rfl, rfl⟩ := e0
  obtain ⟨rfl, rfl, rfl, rfl, rfl, rfl, rfl, rfl, rfl⟩ := e1
  obtain ⟨rfl, rfl, rfl, rfl, rfl, rfl, rfl, rfl, rfl⟩ := e2
  clear hA0 hval0
  refine (fuse_walk ⟨l0, ia0, ic0, ta0, tc0⟩ ⟨l1, ia1, ic1, ta1, tc1⟩ ⟨l2, ia2, ic2, ta2, tc2⟩ W lf0 lf1 lf2).mono fun e W' ⟨he, bel⟩ => ?_
  subst he
  exact ⟨_, rfl, _, _, _, [], _, [], hW', trodAll_mk1 (shut_bool Try.underlying4 _), (trodAll_cons_mk (Below.trod laidOut (by kernel_rfl) (of_decide_eq_true (by kernel_rfl)) h0 bel lt0) (trodAll_cons_mk (Below.trod laidOut (by kernel_rfl) (of_decide_eq_true (by kernel_rfl)) h1 bel lt1) (trodAll_cons_mk (Below.trod laidOut (by kernel_rfl) (of_decide_eq_true (by kernel_rfl)) h2 bel lt2) trodAll_mk0))), rfl, bel.frame _, fun h => by cases h⟩

theorem over : Rows.fuseMergesRow.holds Try.pinned (OpenSpec.ofChange Rows.fuseMergesSpec) :=
  OpenClaim.holds_of_wide 5 Try.f5 rfl rfl rfl rfl rfl rfl rfl ⟨rfl, rfl, rfl, rfl, rfl⟩ rfl rfl rfl rfl rfl (by kernel_rfl) Try.func5 (by kernel_rfl)
    (of_decide_eq_true (by kernel_rfl)) (by unfold Func.isWrapper; first | (rw [if_pos (by decide +kernel)]; kernel_rfl) | (rw [if_neg (by decide +kernel)]; exact ⟨rfl, rfl⟩))
    (fun os started H enc _ => lifted os started H enc)

/-- the statement -/
theorem proved : Rows.FuseMergesSaid := over
#print axioms proved
end Go.Proofs.Ytmabjghjkgicgaa.fuseMerges
