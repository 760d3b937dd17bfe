/- Arguments that are baselines and rows of commits, opened. | 'GraphPlays' is proved: for every baseline, all commits and every dot the law returns true, and leaves its arguments as they were. No condition. -/
import Derived.Test.YthdmoplclllhjaaGreatComP
import Derived.Test.YthdmoplclllhjaaGreatWidB
import Derived.Test.YthdmoplclllhjaaGreatPlyB
import Derived.ShutString
import Derived.ChangeOld
import Derived.Lib.SmallJoins
/- BwOpen -/
namespace Go.Proofs.YthdmoplclllhjaaGreat
open Go.RowKit Go.ChangeShapes Go.WideShapes
set_option linter.unusedVariables false
set_option linter.unusedSimpArgs false
section
variable {H : Type} {enc : TypeId × Value → H} {w : World} {base : Nat} {spare : Nat → Bool} {held : Bool}
theorem rd_base {n : Nat} {cs : List Value} {x : DataW H × List MemPlace} (h : DataW.trod enc Tryz.prog w base spare held n 28 cs = some x) :
    ∃ (m : Nat) (v : Bw), cs = (bwcells v).toList ∧ BwAt w m v := by
  obtain ⟨xs, m, _, _, hl, hxl, hf⟩ := DataW.trod_struct Tryz.underlying28 h
  have hc : Tryz.prog.cellsOf 28 = 5 := by kernel_rfl
  obtain ⟨c0, c1, c2, c3, c4, rfl⟩ := listN5 (hl.trans hc)
  have hxs : xs.length = 5 := hxl
  have e1 : Tryz.prog.cellsOf 22 = 1 := by kernel_rfl
  have e2 : Tryz.prog.cellsOf 24 = 1 := by kernel_rfl
  have e3 : Tryz.prog.cellsOf 23 = 1 := by kernel_rfl
  have e4 : Tryz.prog.cellsOf 26 = 1 := by kernel_rfl
  have h0 : DataW.trod enc Tryz.prog w base spare held m 22 ((List.drop 0 [c0, c1, c2, c3, c4]).take (Tryz.prog.cellsOf 22)) = xs[0]? := hf 0 _ rfl
  have h1 : DataW.trod enc Tryz.prog w base spare held m 24 ((List.drop 1 [c0, c1, c2, c3, c4]).take (Tryz.prog.cellsOf 24)) = xs[1]? := hf 1 _ rfl
  have h2 : DataW.trod enc Tryz.prog w base spare held m 23 ((List.drop 2 [c0, c1, c2, c3, c4]).take (Tryz.prog.cellsOf 23)) = xs[2]? := hf 2 _ rfl
  have h3 : DataW.trod enc Tryz.prog w base spare held m 22 ((List.drop 3 [c0, c1, c2, c3, c4]).take (Tryz.prog.cellsOf 22)) = xs[3]? := hf 3 _ rfl
  have h4 : DataW.trod enc Tryz.prog w base spare held m 26 ((List.drop 4 [c0, c1, c2, c3, c4]).take (Tryz.prog.cellsOf 26)) = xs[4]? := hf 4 _ rfl
  rw [List.getElem?_eq_getElem (by omega)] at h0 h1 h2 h3 h4
  simp only [e1, e2, e3, e4, List.drop_zero, List.drop_succ_cons, List.take_succ_cons, List.take_zero] at h0 h1 h2 h3 h4
  obtain ⟨num, hn, _, w0⟩ := DataW.trod_int Tryz.underlying22 h0
  obtain ⟨fa, fc, F, hF, hfv, okf⟩ := rd_vec Tryz.underlying24 h1
  obtain ⟨ta, tc, tips, hT, htv, okt⟩ := rd_vec Tryz.underlying23 h2
  obtain ⟨t, ht, _, w1⟩ := DataW.trod_int Tryz.underlying22 h3
  obtain ⟨ra, rc, T, hR, hrt, _⟩ := rd_tree _ h4
  simp only [List.cons.injEq, and_true] at hn hF hT ht hR
  subst hn hF hT ht hR
  exact ⟨m, ⟨⟨num, F, tips, t, T⟩, fa, fc, ta, tc, ra, rc⟩, rfl, hfv, htv, hrt, okf, okt, (wf64 num).1 w0, (wf64 t).1 w1⟩
theorem rd_cms {n : Nat} {cs : List Value} {x : DataW H × List MemPlace} (h : DataW.trod enc Tryz.prog w base spare held n 29 cs = some x) :
    ∃ a c ys, cs = [.slice a (List.length ys) c] ∧ Cms w a c ys := by
  obtain ⟨a, n, c, ys, h1, h2⟩ := trod_list (R := fun cs (v : Cw) => cs = (cwcells v).toList ∧ CwAt w v) Tryz.underlying29 (by kernel_rfl) (fun n cs x h => rd_commit h) h
  obtain rfl : ys.length = n := h2.1
  refine ⟨a, c, ys, h1, h2.sl ccel (fun _ _ h => h.1), fun d hd => ?_⟩
  obtain ⟨i, hi⟩ := List.getElem?_of_mem hd
  obtain ⟨_, _, _, _, _, h⟩ := h2.2.2.2.2 i d hi
  exact h.2
end
end Go.Proofs.YthdmoplclllhjaaGreat

/- GraphPlays -/
namespace Go.Proofs.YthdmoplclllhjaaGreat.graphPlays
open Go.Proofs.YthdmoplclllhjaaGreat Go.ChangeShapes Go.WideShapes Go.ChangeAt Go.RowKit
set_option linter.unusedVariables false
set_option linter.unusedSimpArgs false

theorem own : ownKnob Tryz.prog.godebug = none := by kernel_rfl
theorem laidOut : laidOutB Tryz.prog = true := by kernel_rfl
theorem Joins.array5 {α : Type} {cs : Array α} (h : cs.size = 5) : ∃ c0 c1 c2 c3 c4, cs = #[c0, c1, c2, c3, c4] := by
  obtain ⟨l⟩ := cs
  match l, h with
  | [c0, c1, c2, c3, c4], _ => exact ⟨c0, c1, c2, c3, c4, rfl⟩
set_option maxRecDepth 100000 in
theorem form0 {W : World} {r : Reach} {base : Nat} {v : Value} (h : Value.okWide Tryz.prog W r base 28 v) : ∃ c0 c1 c2 c3 c4, v = .agg #[c0, c1, c2, c3, c4] := by
  obtain ⟨cs, rfl, hsz⟩ := okWide_struct Tryz.underlying28 h
  have hc : Tryz.prog.cellsOf 28 = 5 := by kernel_rfl
  obtain ⟨c0, c1, c2, c3, c4, rfl⟩ := Joins.array5 (hsz.trans hc)
  exact ⟨c0, c1, c2, c3, c4, rfl⟩
set_option maxRecDepth 100000 in
theorem formD {W : World} {r : Reach} {base : Nat} {v : Value} (h : Value.okWide Tryz.prog W r base 41 v) : ∃ c0 c1 c2, v = .agg #[c0, c1, c2] := by
  obtain ⟨cs, rfl, hsz⟩ := okWide_struct Tryz.underlying41 h
  have hc : Tryz.prog.cellsOf 41 = 3 := by kernel_rfl
  obtain ⟨c0, c1, c2, rfl⟩ := Joins.array3 (hsz.trans hc)
  exact ⟨c0, c1, c2, rfl⟩

set_option maxHeartbeats 2000000 in
set_option maxRecDepth 100000 in
theorem lifted (os : Os) (started : os.Started) (H : Type) (enc : TypeId × Value → H) :
    ReturnsInHanded {} Tryz.checked os 5 .any (Rows.graphPlaysSpec.pre6 enc Tryz.prog Tryz.f5 Rows.graphPlaysRow.domain false) (Rows.graphPlaysSpec.post enc Tryz.prog Tryz.f5 false true false false) := by
  refine returnsInHanded_of_change (C := Tryz.checked) own started (by kernel_rfl) Tryz.func5
    (ChangeSpec.witness6 (enc := enc) (C := Tryz.checked) false ⟨#[], #[.agg #[.int .u64 0, .slice none 0 0, .slice none 0 0, .int .u64 0, .slice none 0 0], .slice none 0 0, .agg #[.int .u8 0, .int .u32 0, .int .u64 0]], []⟩ 8 (by kernel_rfl) (by kernel_rfl) (by kernel_rfl) (by kernel_rfl)) ?_
  intro W base args ds gs before hval0 hW hcnd _
  have hval : ∀ (j : Nat) t v, Tryz.f5.params[j]? = some t → args[j]? = some v → Value.okWide Tryz.prog W .any base t v := hval0
  have hW' := hW
  obtain ⟨p, q, hA0, hV, rfl, hfz, hnd⟩ := hW
  have hA : DataW.TrodAll enc Tryz.prog W 0 (fun _ => true) true Tryz.f5.params.toList args.toList ds p := hA0
  rw [Tryz.params5] at hA hval
  obtain ⟨v0, vs0, d0, ds0, p0, q0, hargs, rfl, rfl, h0, r0⟩ := trodAll_cons hA
  obtain ⟨v1, vs1, d1, ds1, p1, q1, rfl, rfl, rfl, h1, r1⟩ := trodAll_cons r0
  obtain ⟨v2, vs2, d2, ds2, p2, q2, rfl, rfl, rfl, h2, r2⟩ := trodAll_cons r1
  obtain ⟨rfl, rfl, rfl⟩ := trodAll_nil r2
  obtain rfl : args = #[v0, v1, v2] := by cases args; simp_all
  obtain ⟨rfl, rfl⟩ := trodVars_none hV
  have lt0 : ∀ x ∈ p0, x.block < W.heap.size := by obtain ⟨m, hm⟩ := h0; exact DataW.trod_lt m _ _ _ hm
  have lt1 : ∀ x ∈ p1, x.block < W.heap.size := by obtain ⟨m, hm⟩ := h1; exact DataW.trod_lt m _ _ _ hm
  have lt2 : ∀ x ∈ p2, x.block < W.heap.size := by obtain ⟨m, hm⟩ := h2; exact DataW.trod_lt m _ _ _ hm
  have h0' := h0
  have h1' := h1
  have h2' := h2
  obtain ⟨m0, g0⟩ := h0'
  obtain ⟨m1, g1⟩ := h1'
  obtain ⟨m2, g2⟩ := h2'
  obtain ⟨mm, v, e0, bw0⟩ := rd_base g0
  obtain ⟨a1, c1, Y1, e1, cms1⟩ := rd_cms g1
  obtain ⟨⟨⟨dr, di⟩, dn⟩, e2, ok2⟩ := rd_dot g2
  obtain ⟨z0, z1, z2, z3, z4, rfl⟩ := form0 (hval 0 28 v0 rfl rfl)
  obtain ⟨y1a, y1b, y1c, rfl⟩ := okWide_slice Tryz.underlying29 (hval 1 29 v1 rfl rfl)
  obtain ⟨z2_0, z2_1, z2_2, rfl⟩ := formD (hval 2 41 v2 rfl rfl)
  simp [Value.cells, bwcells, basecells, dcell] at e0 e1 e2
  obtain ⟨rfl, rfl, rfl, rfl, rfl⟩ := e0
  obtain ⟨rfl, rfl, rfl⟩ := e1
  obtain ⟨rfl, rfl, rfl⟩ := e2
  clear hA0 hval0
  refine (graphPlays_walk v mm _ _ Y1 dr di dn W bw0 cms1 ok2).mono fun e W' ⟨he, bel⟩ => ?_
  subst he
  exact ⟨_, rfl, _, _, _, [], _, [], hW', trodAll_mk1 (shut_bool Tryz.underlying4 _), (trodAll_cons_mk (Below.trod laidOut (by kernel_rfl) (of_decide_eq_true (by kernel_rfl)) h0 bel lt0) (trodAll_cons_mk (Below.trod laidOut (by kernel_rfl) (of_decide_eq_true (by kernel_rfl)) h1 bel lt1) (trodAll_cons_mk (Below.trod laidOut (by kernel_rfl) (of_decide_eq_true (by kernel_rfl)) h2 bel lt2) trodAll_mk0))), rfl, bel.frame _, fun h => by cases h⟩

theorem over : Rows.graphPlaysRow.holds Tryz.pinned (OpenSpec.ofChange Rows.graphPlaysSpec) :=
  OpenClaim.holds_of_wide 5 Tryz.f5 rfl rfl rfl rfl rfl rfl rfl ⟨rfl, rfl, rfl, rfl, rfl⟩ rfl rfl rfl rfl rfl (by kernel_rfl) Tryz.func5 (by kernel_rfl)
    (of_decide_eq_true (by kernel_rfl)) (by unfold Func.isWrapper; first | (rw [if_pos (by decide +kernel)]; kernel_rfl) | (rw [if_neg (by decide +kernel)]; exact ⟨rfl, rfl⟩))
    (fun os started H enc _ => lifted os started H enc)

/-- the statement -/
theorem proved : Rows.GraphPlaysSaid := over
#print axioms proved
end Go.Proofs.YthdmoplclllhjaaGreat.graphPlays
