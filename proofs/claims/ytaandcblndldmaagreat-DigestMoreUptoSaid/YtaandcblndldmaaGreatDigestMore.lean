/- 'DigestMore' is proved in its second form: one commit more is one block apart -/
import Derived.Test.YtaandcblndldmaaGreatFilX
import Derived.Test.YtaandcblndldmaaGreatRegI
import Derived.Test.YtaandcblndldmaaGreatDmrA
import Derived.ShutString
import Derived.ChangeOld
import Derived.Lib.SmallJoins
namespace Go.Proofs.YtaandcblndldmaaGreat.digestMore
open Go.Proofs.YtaandcblndldmaaGreat Go.ChangeShapes Go.WideShapes Go.ChangeAt Go.RowKit
set_option linter.unusedVariables false
set_option linter.unusedSimpArgs false

theorem own : ownKnob Tryz.prog.godebug = none := by kernel_rfl
theorem laidOut : laidOutB Tryz.prog = true := by kernel_rfl
theorem Joins.array5 {α : Type} {cs : Array α} (h : cs.size = 5) : ∃ c0 c1 c2 c3 c4, cs = #[c0, c1, c2, c3, c4] := by
  obtain ⟨l⟩ := cs
  match l, h with
  | [c0, c1, c2, c3, c4], _ => exact ⟨c0, c1, c2, c3, c4, rfl⟩
set_option maxRecDepth 100000 in
theorem formB {W : World} {r : Reach} {base : Nat} {v : Value} (h : Value.okWide Tryz.prog W r base 32 v) : ∃ c0 c1 c2 c3 c4, v = .agg #[c0, c1, c2, c3, c4] := by
  obtain ⟨cs, rfl, hsz⟩ := okWide_struct Tryz.underlying32 h
  have hc : Tryz.prog.cellsOf 32 = 5 := by kernel_rfl
  obtain ⟨c0, c1, c2, c3, c4, rfl⟩ := Joins.array5 (hsz.trans hc)
  exact ⟨c0, c1, c2, c3, c4, rfl⟩
theorem Joins.array2 {α : Type} {cs : Array α} (h : cs.size = 2) : ∃ c0 c1, cs = #[c0, c1] := by
  obtain ⟨l⟩ := cs
  match l, h with
  | [c0, c1], _ => exact ⟨c0, c1, rfl⟩
set_option maxRecDepth 100000 in
theorem formA {W : World} {r : Reach} {base : Nat} {v : Value} (h : Value.okWide Tryz.prog W r base 24 v) : ∃ c0 c1, v = .agg #[c0, c1] := by
  obtain ⟨cs, rfl, hsz⟩ := okWide_struct Tryz.underlying24 h
  have hc : Tryz.prog.cellsOf 24 = 2 := by kernel_rfl
  obtain ⟨c0, c1, rfl⟩ := Joins.array2 (hsz.trans hc)
  exact ⟨c0, c1, rfl⟩

set_option maxHeartbeats 2000000 in
set_option maxRecDepth 100000 in
theorem lifted (os : Os) (started : os.Started) (H : Type) (enc : TypeId × Value → H) (F : Stop.Interp) :
    ReturnsInHanded {} Tryz.checked os 5 .any ((Rows.OpenSpec.upto Rows.digestMoreSpec).pre6 enc Tryz.prog Tryz.f5 Rows.digestMoreUptoRow.domain false) (((Rows.OpenSpec.upto Rows.digestMoreSpec).at F).post enc Tryz.prog Tryz.f5 false true false false) := by
  refine returnsInHanded_of_cond (C := Tryz.checked) (s := Rows.OpenSpec.upto Rows.digestMoreSpec) (k := Rows.uptoSmall) rfl own started (by kernel_rfl) Tryz.func5
    (OpenSpec.witness (enc := enc) (C := Tryz.checked) (s := Rows.OpenSpec.upto Rows.digestMoreSpec) (k := Rows.uptoSmall) rfl false ⟨#[], #[.agg #[.int .u64 0, .slice none 0 0, .slice none 0 0, .int .u64 0, .slice none 0 0], .slice none 0 0, .agg #[.int .u8 0, .int .u32 0]], []⟩ 8 (by kernel_rfl) (by kernel_rfl) (by kernel_rfl)
      (x := ([.agg [.lit (.int .u64 0), .nil, .nil, .lit (.int .u64 0), .nil], .nil, .agg [.lit (.int .u8 0), .lit (.int .u32 0)]], [], [])) (by kernel_rfl) rfl (by kernel_rfl)) ?_
  intro W base args ds gs before hval0 hW _ hk _
  have hval : ∀ (j : Nat) t v, Tryz.f5.params[j]? = some t → args[j]? = some v → Value.okWide Tryz.prog W .any base t v := hval0
  have hW' := hW
  obtain ⟨p, q, hA0, hV, rfl, hfz, hnd⟩ := hW
  have hA : DataW.TrodAll enc Tryz.prog W 0 (fun _ => true) true Tryz.f5.params.toList args.toList ds p := hA0
  rw [Tryz.params5] at hA hval
  obtain ⟨v0, vs0, d0, ds0, p0, q0, hargs, rfl, rfl, h0, r0⟩ := trodAll_cons hA
  obtain ⟨v1, vs1, d1, ds1, p1, q1, rfl, rfl, rfl, h1, r1⟩ := trodAll_cons r0
  obtain ⟨v2, vs2, d2, ds2, p2, q2, rfl, rfl, rfl, h2, r2⟩ := trodAll_cons r1
  obtain ⟨rfl, rfl, rfl⟩ := trodAll_nil r2
  obtain rfl : args = #[v0, v1, v2] := by cases args; simp_all
  obtain ⟨rfl, rfl⟩ := trodVars_none hV
  have lt0 : ∀ x ∈ p0, x.block < W.heap.size := by obtain ⟨m, hm⟩ := h0; exact DataW.trod_lt m _ _ _ hm
  have lt1 : ∀ x ∈ p1, x.block < W.heap.size := by obtain ⟨m, hm⟩ := h1; exact DataW.trod_lt m _ _ _ hm
  have lt2 : ∀ x ∈ p2, x.block < W.heap.size := by obtain ⟨m, hm⟩ := h2; exact DataW.trod_lt m _ _ _ hm
  have h0' := h0
  have h1' := h1
  have h2' := h2
  obtain ⟨m0, g0⟩ := h0'
  obtain ⟨m1, g1⟩ := h1'
  obtain ⟨m2, g2⟩ := h2'
  obtain ⟨mm, v, e0, bw0, hb1, hb2⟩ := rd_baseK g0
  obtain ⟨a1, c1, Y1, e1, cms1, bk1⟩ := rd_cmsB g1
  obtain ⟨A2, e2, ok2⟩ := rd_act g2
  obtain ⟨z0_0, z0_1, z0_2, z0_3, z0_4, rfl⟩ := formB (hval 0 32 v0 rfl rfl)
  obtain ⟨y1a, y1b, y1c, rfl⟩ := okWide_slice Tryz.underlying33 (hval 1 33 v1 rfl rfl)
  obtain ⟨z2_0, z2_1, rfl⟩ := formA (hval 2 24 v2 rfl rfl)
  simp [Value.cells, bwcells, basecells] at e0 e1 e2
  obtain ⟨rfl, rfl, rfl, rfl, rfl⟩ := e0
  obtain ⟨rfl, rfl, rfl⟩ := e1
  obtain ⟨rfl, rfl⟩ := e2
  have hkk : Rows.uptoBulkAll ([d0, d1, d2] ++ []) ≤ 1048576 := of_decide_eq_true hk
  simp only [List.append_nil, Rows.uptoBulkAll] at hkk
  have hk0 : Rows.uptoBulk d0 ≤ 1048576 := by omega
  have hT : v.b.tips.length ≤ 1100000 := Nat.le_trans (show v.b.tips.length ≤ Rows.uptoBulk d0 from hb1) (by omega)
  have hZ : szT 4 v.b.tr ≤ 1100000 := Nat.le_trans (show szT 4 v.b.tr ≤ Rows.uptoBulk d0 from hb2 4) (by omega)
  have hZK : szT 10 v.b.tr ≤ 1100000 := Nat.le_trans (show szT 10 v.b.tr ≤ Rows.uptoBulk d0 from hb2 10) (by omega)
  have hL1 : Y1.length ≤ 10000000 := by
    have h1 := len_sum szC (fun x => by unfold szC; omega) Y1
    have h2 : (Y1.map szC).sum + 1 ≤ Rows.uptoBulk d1 := bk1
    omega
  clear hA0 hval0 hk
  refine (digestMore_walk v mm _ _ Y1 A2.1 A2.2 W bw0 cms1 hT (bdA_of _ 3 _ hZ) hZK ok2).mono fun e W' ⟨he, bel⟩ => ?_
  subst he
  exact ⟨_, rfl, _, _, _, [], _, [], hW', trodAll_mk1 (shut_bool Tryz.underlying4 _), (trodAll_cons_mk (Below.trod laidOut (by kernel_rfl) (of_decide_eq_true (by kernel_rfl)) h0 bel lt0) (trodAll_cons_mk (Below.trod laidOut (by kernel_rfl) (of_decide_eq_true (by kernel_rfl)) h1 bel lt1) (trodAll_cons_mk (Below.trod laidOut (by kernel_rfl) (of_decide_eq_true (by kernel_rfl)) h2 bel lt2) trodAll_mk0))), rfl, bel.frame _, fun h => by cases h⟩

/-- the statement -/
theorem proved : Rows.DigestMoreUptoSaid :=
  OpenClaim.holds_of_cond 5 Tryz.f5 rfl rfl rfl rfl rfl rfl rfl ⟨rfl, rfl, rfl, rfl, rfl⟩ rfl rfl rfl rfl rfl (by kernel_rfl) Tryz.func5 (by kernel_rfl)
    (of_decide_eq_true (by kernel_rfl)) (by unfold Func.isWrapper; first | (rw [if_pos (by decide +kernel)]; kernel_rfl) | (rw [if_neg (by decide +kernel)]; exact ⟨rfl, rfl⟩))
    (fun os started H enc _ F => lifted os started H enc F)
#print axioms proved
end Go.Proofs.YtaandcblndldmaaGreat.digestMore
