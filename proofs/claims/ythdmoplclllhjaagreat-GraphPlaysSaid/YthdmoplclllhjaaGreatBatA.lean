/- Operations in memory; what batch.Few asks first. | slices.IndexFunc, ContainsFunc of operations that may not be. -/
import Derived.Test.YthdmoplclllhjaaGreatMayE
/- BatA -/
namespace Go.Proofs.YthdmoplclllhjaaGreat
open Go.RowKit Go.ChangeShapes Go.WideShapes
set_option linter.unusedVariables false
set_option linter.unusedSimpArgs false

/-- an operation -/
structure Opn where
  k : Int
  n : Int
  x : ByteArray
  p : List ByteArray
  ds : List Dt
/-- an operation, and where its path and its dots lie -/
structure Ow where
  o : Opn
  pa : Option Addr
  pc : Nat
  da : Option Addr
  dc : Nat
abbrev owcells (v : Ow) : Array Value := ocells v.o.k v.o.n v.o.x v.pa v.o.p.length v.pc v.da v.o.ds.length v.dc
structure OwAt (w : World) (v : Ow) : Prop where
  pt : Strs w v.pa v.pc v.o.p
  ds : Vec w v.da v.dc v.o.ds
  ok : okV v.o.ds
section
variable {H : Type} {enc : TypeId × Value → H} {w : World} {base : Nat} {spare : Nat → Bool} {held : Bool}
theorem rd_op {n : Nat} {cs : List Value} {x : DataW H × List MemPlace} (h : DataW.trod enc Tryz.prog w base spare held n 44 cs = some x) :
    ∃ v : Ow, cs = (owcells v).toList ∧ OwAt w v := by
  obtain ⟨xs, m, _, _, hl, hxl, hf⟩ := DataW.trod_struct Tryz.underlying44 h
  have hc : Tryz.prog.cellsOf 44 = 5 := by kernel_rfl
  obtain ⟨c0, c1, c2, c3, c4, rfl⟩ := listN5 (hl.trans hc)
  obtain ⟨ys, m2, _, _, hl2, hxl2, hf2⟩ := DataW.trod_struct Tryz.underlying44 h
  have hys : ys.length = 5 := hxl2
  have a0 : Tryz.prog.cellsOf 5 = 1 := by kernel_rfl
  have a1 : Tryz.prog.cellsOf 42 = 1 := by kernel_rfl
  have a2 : Tryz.prog.cellsOf 2 = 1 := by kernel_rfl
  have a3 : Tryz.prog.cellsOf 9 = 1 := by kernel_rfl
  have a4 : Tryz.prog.cellsOf 23 = 1 := by kernel_rfl
  have k0 : DataW.trod enc Tryz.prog w base spare held m2 5 ((List.drop 0 [c0, c1, c2, c3, c4]).take (Tryz.prog.cellsOf 5)) = ys[0]? := hf2 0 _ rfl
  have k1 : DataW.trod enc Tryz.prog w base spare held m2 42 ((List.drop 1 [c0, c1, c2, c3, c4]).take (Tryz.prog.cellsOf 42)) = ys[1]? := hf2 1 _ rfl
  have k2 : DataW.trod enc Tryz.prog w base spare held m2 2 ((List.drop 2 [c0, c1, c2, c3, c4]).take (Tryz.prog.cellsOf 2)) = ys[2]? := hf2 2 _ rfl
  have k3 : DataW.trod enc Tryz.prog w base spare held m2 9 ((List.drop 3 [c0, c1, c2, c3, c4]).take (Tryz.prog.cellsOf 9)) = ys[3]? := hf2 3 _ rfl
  have k4 : DataW.trod enc Tryz.prog w base spare held m2 23 ((List.drop 4 [c0, c1, c2, c3, c4]).take (Tryz.prog.cellsOf 23)) = ys[4]? := hf2 4 _ rfl
  rw [List.getElem?_eq_getElem (by omega)] at k0 k1 k2 k3 k4
  simp only [a0, a1, a2, a3, a4, List.drop_zero, List.drop_succ_cons, List.take_succ_cons, List.take_zero] at k0 k1 k2 k3 k4
  obtain ⟨k, hk, _, _⟩ := DataW.trod_int Tryz.underlying5 k0
  obtain ⟨pa, pc, pl, hpl, hps⟩ := rd_strs k1
  obtain ⟨n, hn, _, _⟩ := DataW.trod_int Tryz.underlying2 k2
  obtain ⟨s, hs, _⟩ := DataW.trod_string Tryz.underlying9 k3
  obtain ⟨da, dc, ds, hds, hvec, okv⟩ := rd_vec Tryz.underlying23 k4
  simp only [List.cons.injEq, and_true] at hk hpl hn hs hds
  subst hk hpl hn hs hds
  exact ⟨⟨⟨k, n, s, pl, ds⟩, pa, pc, da, dc⟩, rfl, hps, hvec, okv⟩
end
end Go.Proofs.YthdmoplclllhjaaGreat

/- BatB -/
namespace Go.Proofs.YthdmoplclllhjaaGreat
open Go.RowKit
set_option linter.unusedVariables false
set_option linter.unusedSimpArgs false

end Go.Proofs.YthdmoplclllhjaaGreat
