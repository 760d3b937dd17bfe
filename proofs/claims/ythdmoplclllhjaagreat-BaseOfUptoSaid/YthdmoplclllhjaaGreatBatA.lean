/- Operations in memory; what batch.Few asks first. | slices.IndexFunc, ContainsFunc of operations that may not be. -/
import Derived.Test.YthdmoplclllhjaaGreatMayE
/- BatA -/
namespace Go.Proofs.YthdmoplclllhjaaGreat
open Go.RowKit Go.ChangeShapes Go.WideShapes
set_option linter.unusedVariables false
set_option linter.unusedSimpArgs false

/-- an operation -/
structure Opn where
  k : Int
  n : Int
  x : ByteArray
  p : List ByteArray
  ds : List Dt
/-- an operation, and where its path and its dots lie -/
structure Ow where
  o : Opn
  pa : Option Addr
  pc : Nat
  da : Option Addr
  dc : Nat
abbrev owcells (v : Ow) : Array Value := ocells v.o.k v.o.n v.o.x v.pa v.o.p.length v.pc v.da v.o.ds.length v.dc
structure OwAt (w : World) (v : Ow) : Prop where
  pt : Strs w v.pa v.pc v.o.p
  ds : Vec w v.da v.dc v.o.ds
  ok : okV v.o.ds
theorem OwAt.below {w w' : World} {v : Ow} (h : OwAt w v) (hb : Below w.heap.size w w') : OwAt w' v := ⟨h.pt.below hb, h.ds.below hb, h.ok⟩
section
variable {H : Type} {enc : TypeId × Value → H} {w : World} {base : Nat} {spare : Nat → Bool} {held : Bool}
theorem rd_op {n : Nat} {cs : List Value} {x : DataW H × List MemPlace} (h : DataW.trod enc Tryz.prog w base spare held n 44 cs = some x) :
    ∃ v : Ow, cs = (owcells v).toList ∧ OwAt w v := by
  obtain ⟨xs, m, _, _, hl, hxl, hf⟩ := DataW.trod_struct Tryz.underlying44 h
  have hc : Tryz.prog.cellsOf 44 = 5 := by kernel_rfl
  obtain ⟨c0, c1, c2, c3, c4, rfl⟩ := listN5 (hl.trans hc)
  obtain ⟨ys, m2, _, _, hl2, hxl2, hf2⟩ := DataW.trod_struct Tryz.underlying44 h
  have hys : ys.length = 5 := hxl2
  have a0 : Tryz.prog.cellsOf 5 = 1 := by kernel_rfl
  have a1 : Tryz.prog.cellsOf 42 = 1 := by kernel_rfl
  have a2 : Tryz.prog.cellsOf 2 = 1 := by kernel_rfl
  have a3 : Tryz.prog.cellsOf 9 = 1 := by kernel_rfl
  have a4 : Tryz.prog.cellsOf 23 = 1 := by kernel_rfl
  have k0 : DataW.trod enc Tryz.prog w base spare held m2 5 ((List.drop 0 [c0, c1, c2, c3, c4]).take (Tryz.prog.cellsOf 5)) = ys[0]? := hf2 0 _ rfl
  have k1 : DataW.trod enc Tryz.prog w base spare held m2 42 ((List.drop 1 [c0, c1, c2, c3, c4]).take (Tryz.prog.cellsOf 42)) = ys[1]? := hf2 1 _ rfl
  have k2 : DataW.trod enc Tryz.prog w base spare held m2 2 ((List.drop 2 [c0, c1, c2, c3, c4]).take (Tryz.prog.cellsOf 2)) = ys[2]? := hf2 2 _ rfl
  have k3 : DataW.trod enc Tryz.prog w base spare held m2 9 ((List.drop 3 [c0, c1, c2, c3, c4]).take (Tryz.prog.cellsOf 9)) = ys[3]? := hf2 3 _ rfl
  have k4 : DataW.trod enc Tryz.prog w base spare held m2 23 ((List.drop 4 [c0, c1, c2, c3, c4]).take (Tryz.prog.cellsOf 23)) = ys[4]? := hf2 4 _ rfl
  rw [List.getElem?_eq_getElem (by omega)] at k0 k1 k2 k3 k4
  simp only [a0, a1, a2, a3, a4, List.drop_zero, List.drop_succ_cons, List.take_succ_cons, List.take_zero] at k0 k1 k2 k3 k4
  obtain ⟨k, hk, _, _⟩ := DataW.trod_int Tryz.underlying5 k0
  obtain ⟨pa, pc, pl, hpl, hps⟩ := rd_strs k1
  obtain ⟨n, hn, _, _⟩ := DataW.trod_int Tryz.underlying2 k2
  obtain ⟨s, hs, _⟩ := DataW.trod_string Tryz.underlying9 k3
  obtain ⟨da, dc, ds, hds, hvec, okv⟩ := rd_vec Tryz.underlying23 k4
  simp only [List.cons.injEq, and_true] at hk hpl hn hs hds
  subst hk hpl hn hs hds
  exact ⟨⟨⟨k, n, s, pl, ds⟩, pa, pc, da, dc⟩, rfl, hps, hvec, okv⟩
/-- operations in memory -/
def Ops (w : World) (a : Option Addr) (c : Nat) (ys : List Ow) : Prop := RdL w 5 (fun cs (v : Ow) => cs = (owcells v).toList ∧ OwAt w v) a ys.length c ys
structure OpAt (w : World) (b : Addr) (v : Ow) : Prop where
  c0 : w.cell? b = some (.int .u8 v.o.k)
  c1 : w.cell? ⟨b.block, b.off + 1, none⟩ = some (.slice v.pa v.o.p.length v.pc)
  c2 : w.cell? ⟨b.block, b.off + 2, none⟩ = some (.int .i64 v.o.n)
  c3 : w.cell? ⟨b.block, b.off + 3, none⟩ = some (.string v.o.x)
  c4 : w.cell? ⟨b.block, b.off + 4, none⟩ = some (.slice v.da v.o.ds.length v.dc)
  at_ : OwAt w v
theorem Ops.at {w : World} {a : Option Addr} {c : Nat} {ys : List Ow} (h : Ops w a c ys) {k : Nat} {y : Ow} (hy : ys[k]? = some y) : ∃ ad, a = some ad ∧ OpAt w (ad.add (k * 5)) y ∧ ad.block < w.heap.size := by
  obtain ⟨_, _, _, _, h5⟩ := h
  obtain ⟨ad, cs, rfl, hl, hc, rfl, ok⟩ := h5 k y hy
  have g0 := hc 0 (by omega)
  have g1 := hc 1 (by omega)
  have g2 := hc 2 (by omega)
  have g3 := hc 3 (by omega)
  have g4 := hc 4 (by omega)
  rw [Nat.add_zero] at g0
  rw [← Go.Deep.add_add] at g1 g2 g3 g4
  refine ⟨ad, rfl, ⟨g0, g1, g2, g3, g4, ok⟩, ?_⟩
  have := World.block_lt_of_cell? w _ g0
  have hb : (ad.add (k * 5)).block = ad.block := by unfold Addr.add; split <;> rfl
  rwa [hb] at this
theorem Ops.below {w w' : World} {a : Option Addr} {c : Nat} {ys : List Ow} (h : Ops w a c ys) (hb : Below w.heap.size w w') : Ops w' a c ys := by
  obtain ⟨h1, h2, h3, h4, h5⟩ := h
  refine ⟨h1, h2, h3, h4, fun i y hy => ?_⟩
  obtain ⟨ad, cs, h6, h7, h8, rfl, ok⟩ := h5 i y hy
  refine ⟨ad, _, h6, h7, fun j hj => ?_, rfl, ok.below hb⟩
  have := h8 j hj
  rw [← this]
  refine hb.cell ?_
  have hj4 : (owcells y).toList[j]? = some ((owcells y).toList[j]'(by simpa [owcells, ocells] using hj)) := by simp
  exact World.block_lt_of_cell? w _ (this.trans hj4)
theorem Ops.len {w : World} {a : Option Addr} {c : Nat} {ys : List Ow} (h : Ops w a c ys) : ys.length ≤ maxLen := Nat.le_trans h.2.1 h.2.2.1
end
end Go.Proofs.YthdmoplclllhjaaGreat

/- BatB -/
namespace Go.Proofs.YthdmoplclllhjaaGreat
open Go.RowKit
set_option linter.unusedVariables false
set_option linter.unusedSimpArgs false

end Go.Proofs.YthdmoplclllhjaaGreat
