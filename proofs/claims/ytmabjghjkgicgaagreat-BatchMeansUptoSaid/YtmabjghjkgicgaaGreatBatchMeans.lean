/- 'BatchMeans' is proved in its second form: for all trees and operations of bulk at most 1048576 the law returns true, and leaves its arguments as they were. -/
import Derived.Test.YtmabjghjkgicgaaGreatMeaA
import Derived.ShutString
import Derived.ChangeOld
import Derived.Lib.SmallJoins
namespace Go.Proofs.YtmabjghjkgicgaaGreat
open Go.ChangeShapes Go.WideShapes Go.RowKit
section
variable {H : Type} {enc : TypeId × Value → H} {w : World} {base : Nat} {spare : Nat → Bool} {held : Bool}
theorem rd_opB {n : Nat} {cs : List Value} {x : DataW H × List MemPlace} (h : DataW.trod enc Tryz.prog w base spare held n 59 cs = some x) :
    ∃ v : Ow, (cs = (owcells v).toList ∧ OwAt w v) ∧ v.o.ds.length ≤ Rows.uptoBulk x.1 := by
  obtain ⟨xs, m, _, _, hl, hxl, hf⟩ := DataW.trod_struct Tryz.underlying59 h
  have hc : Tryz.prog.cellsOf 59 = 5 := by kernel_rfl
  obtain ⟨c0, c1, c2, c3, c4, rfl⟩ := listN5 (hl.trans hc)
  obtain ⟨ys, m2, _, hxx, hl2, hxl2, hf2⟩ := DataW.trod_struct Tryz.underlying59 h
  have hys : ys.length = 5 := hxl2
  have a0 : Tryz.prog.cellsOf 5 = 1 := by kernel_rfl
  have a1 : Tryz.prog.cellsOf 39 = 1 := by kernel_rfl
  have a2 : Tryz.prog.cellsOf 2 = 1 := by kernel_rfl
  have a3 : Tryz.prog.cellsOf 9 = 1 := by kernel_rfl
  have a4 : Tryz.prog.cellsOf 46 = 1 := by kernel_rfl
  have k0 : DataW.trod enc Tryz.prog w base spare held m2 5 ((List.drop 0 [c0, c1, c2, c3, c4]).take (Tryz.prog.cellsOf 5)) = ys[0]? := hf2 0 _ rfl
  have k1 : DataW.trod enc Tryz.prog w base spare held m2 39 ((List.drop 1 [c0, c1, c2, c3, c4]).take (Tryz.prog.cellsOf 39)) = ys[1]? := hf2 1 _ rfl
  have k2 : DataW.trod enc Tryz.prog w base spare held m2 2 ((List.drop 2 [c0, c1, c2, c3, c4]).take (Tryz.prog.cellsOf 2)) = ys[2]? := hf2 2 _ rfl
  have k3 : DataW.trod enc Tryz.prog w base spare held m2 9 ((List.drop 3 [c0, c1, c2, c3, c4]).take (Tryz.prog.cellsOf 9)) = ys[3]? := hf2 3 _ rfl
  have k4 : DataW.trod enc Tryz.prog w base spare held m2 46 ((List.drop 4 [c0, c1, c2, c3, c4]).take (Tryz.prog.cellsOf 46)) = ys[4]? := hf2 4 _ rfl
  rw [List.getElem?_eq_getElem (by omega)] at k0 k1 k2 k3 k4
  simp only [a0, a1, a2, a3, a4, List.drop_zero, List.drop_succ_cons, List.take_succ_cons, List.take_zero] at k0 k1 k2 k3 k4
  obtain ⟨k, hk, _, _⟩ := DataW.trod_int Tryz.underlying5 k0
  obtain ⟨pa, pc, pl, hpl, hps⟩ := rd_strs k1
  obtain ⟨n, hn, _, _⟩ := DataW.trod_int Tryz.underlying2 k2
  obtain ⟨s, hs, _⟩ := DataW.trod_string Tryz.underlying9 k3
  obtain ⟨da, dc, ds, hds, hvec, okv, hbb⟩ := rd_vecB Tryz.underlying46 k4
  simp only [List.cons.injEq, and_true] at hk hpl hn hs hds
  subst hk hpl hn hs hds
  have hb := bulk_part (H := H) (d := ys[4].1) (l := ys.map (·.1)) (List.mem_map_of_mem (List.getElem_mem _))
  refine ⟨⟨⟨k, n, s, pl, ds⟩, pa, pc, da, dc⟩, ⟨rfl, hps, hvec, okv⟩, ?_⟩
  rw [hxx]
  simp only [Rows.uptoBulk]
  show ds.length ≤ _
  omega
theorem rd_opsB {n : Nat} {cs : List Value} {x : DataW H × List MemPlace} (h : DataW.trod enc Tryz.prog w base spare held n 24 cs = some x) :
    ∃ a c ys, cs = [.slice a (List.length ys) c] ∧ Ops w a c ys ∧ ∀ v ∈ ys, v.o.ds.length ≤ Rows.uptoBulk x.1 := by
  obtain ⟨a, n, c, ys, h1, h2, h3⟩ := trod_listB (R := fun cs (v : Ow) => cs = (owcells v).toList ∧ OwAt w v) (sz := fun v => v.o.ds.length) Tryz.underlying24 (by kernel_rfl) (fun n cs x _ h => rd_opB h) h
  obtain rfl : ys.length = n := h2.1
  exact ⟨a, c, ys, h1, h2, fun v hv => by have := le_sum (fun v : Ow => v.o.ds.length) hv; omega⟩
end
end Go.Proofs.YtmabjghjkgicgaaGreat
namespace Go.Proofs.YtmabjghjkgicgaaGreat.batchMeans
open Go.Proofs.YtmabjghjkgicgaaGreat Go.ChangeShapes Go.WideShapes Go.ChangeAt Go.RowKit
set_option linter.unusedVariables false
set_option linter.unusedSimpArgs false

theorem own : ownKnob Tryz.prog.godebug = none := by kernel_rfl
theorem laidOut : laidOutB Tryz.prog = true := by kernel_rfl
set_option maxHeartbeats 2000000 in
set_option maxRecDepth 100000 in
theorem lifted (os : Os) (started : os.Started) (H : Type) (enc : TypeId × Value → H) (F : Stop.Interp) :
    ReturnsInHanded {} Tryz.checked os 3 .any ((Rows.OpenSpec.upto Rows.batchMeansSpec).pre6 enc Tryz.prog Tryz.f3 Rows.batchMeansUptoRow.domain false) (((Rows.OpenSpec.upto Rows.batchMeansSpec).at F).post enc Tryz.prog Tryz.f3 false true false false) := by
  refine returnsInHanded_of_cond (C := Tryz.checked) (s := Rows.OpenSpec.upto Rows.batchMeansSpec) (k := Rows.uptoSmall) rfl own started (by kernel_rfl) Tryz.func3
    (OpenSpec.witness (enc := enc) (C := Tryz.checked) (s := Rows.OpenSpec.upto Rows.batchMeansSpec) (k := Rows.uptoSmall) rfl false ⟨#[], #[.slice none 0 0, .slice none 0 0], []⟩ 8 (by kernel_rfl) (by kernel_rfl) (by kernel_rfl)
      (x := ([.nil, .nil], [], [])) (by kernel_rfl) rfl (by kernel_rfl)) ?_
  intro W base args ds gs before hval0 hW _ hk _
  have hval : ∀ (j : Nat) t v, Tryz.f3.params[j]? = some t → args[j]? = some v → Value.okWide Tryz.prog W .any base t v := hval0
  have hW' := hW
  obtain ⟨p, q, hA0, hV, rfl, hfz, hnd⟩ := hW
  have hA : DataW.TrodAll enc Tryz.prog W 0 (fun _ => true) true Tryz.f3.params.toList args.toList ds p := hA0
  rw [Tryz.params3] at hA hval
  obtain ⟨v0, vs0, d0, ds0, p0, q0, hargs, rfl, rfl, h0, r0⟩ := trodAll_cons hA
  obtain ⟨v1, vs1, d1, ds1, p1, q1, rfl, rfl, rfl, h1, r1⟩ := trodAll_cons r0
  obtain ⟨rfl, rfl, rfl⟩ := trodAll_nil r1
  obtain rfl : args = #[v0, v1] := by cases args; simp_all
  obtain ⟨rfl, rfl⟩ := trodVars_none hV
  have lt0 : ∀ x ∈ p0, x.block < W.heap.size := by obtain ⟨m, hm⟩ := h0; exact DataW.trod_lt m _ _ _ hm
  have lt1 : ∀ x ∈ p1, x.block < W.heap.size := by obtain ⟨m, hm⟩ := h1; exact DataW.trod_lt m _ _ _ hm
  have h0' := h0
  have h1' := h1
  obtain ⟨m0, g0⟩ := h0'
  obtain ⟨m1, g1⟩ := h1'
  obtain ⟨a0, c0, T, e0, tr0, sz0⟩ := rd_tree m0 g0
  obtain ⟨a1, c1, Y1, e1, ops1, sz1⟩ := rd_opsB g1
  obtain ⟨y0a, y0b, y0c, rfl⟩ := okWide_slice Tryz.underlying23 (hval 0 23 v0 rfl rfl)
  obtain ⟨y1a, y1b, y1c, rfl⟩ := okWide_slice Tryz.underlying24 (hval 1 24 v1 rfl rfl)
  simp [Value.cells] at e0 e1
  obtain ⟨rfl, rfl, rfl⟩ := e0
  obtain ⟨rfl, rfl, rfl⟩ := e1
  have hkk : Rows.uptoBulkAll ([d0, d1] ++ []) ≤ 1048576 := of_decide_eq_true hk
  simp only [List.append_nil, Rows.uptoBulkAll] at hkk
  have hs : szT 10 T ≤ 1100000 := by
    have := szT_le tr0 10
    dsimp only at sz0
    omega
  have hd : ∀ o ∈ Y1, o.o.ds.length ≤ 1100000 := fun o ho => by
    have := sz1 o ho
    dsimp only at this
    omega
  clear hA0 hval0 hk
  refine (means_walk m0 _ _ T _ _ Y1 W tr0 ops1 hs hd).mono fun e W' ⟨he, bel⟩ => ?_
  subst he
  exact ⟨_, rfl, _, _, _, [], _, [], hW', trodAll_mk1 (shut_bool Tryz.underlying4 _), (trodAll_cons_mk (Below.trod laidOut (by kernel_rfl) (of_decide_eq_true (by kernel_rfl)) h0 bel lt0) (trodAll_cons_mk (Below.trod laidOut (by kernel_rfl) (of_decide_eq_true (by kernel_rfl)) h1 bel lt1) trodAll_mk0)), rfl, bel.frame _, fun h => by cases h⟩

/-- the statement -/
theorem proved : Rows.BatchMeansUptoSaid :=
  OpenClaim.holds_of_cond 3 Tryz.f3 rfl rfl rfl rfl rfl rfl rfl ⟨rfl, rfl, rfl, rfl, rfl⟩ rfl rfl rfl rfl rfl (by kernel_rfl) Tryz.func3 (by kernel_rfl)
    (of_decide_eq_true (by kernel_rfl)) (by unfold Func.isWrapper; first | (rw [if_pos (by decide +kernel)]; kernel_rfl) | (rw [if_neg (by decide +kernel)]; exact ⟨rfl, rfl⟩))
    (fun os started H enc _ F => lifted os started H enc F)
#print axioms proved
end Go.Proofs.YtmabjghjkgicgaaGreat.batchMeans
