/- The reader, plainly: what bytes begin with; what is laid is read again. No program in sight. | Operations and commits as bytes, plainly: what was laid is read again; cut, it is not. No program in sight. | Commits in memory; arguments that are commits, opened. -/
import Derived.Test.YthdmoplclllhjaaGreatVec3
import Derived.Test.YthdmoplclllhjaaGreatBatA
/- CodP -/
namespace Go.Proofs.YthdmoplclllhjaaGreat
open Go.RowKit
set_option linter.unusedVariables false
set_option linter.unusedSimpArgs false

end Go.Proofs.YthdmoplclllhjaaGreat

/- ComP -/
namespace Go.Proofs.YthdmoplclllhjaaGreat
open Go.RowKit
set_option linter.unusedVariables false
set_option linter.unusedSimpArgs false

/-- a dot, read: op's way, commit's way -/
def zeroD : Dt := ((0, 0), 0)
def zeroO : Opn := ⟨0, 0, ByteArray.empty, [], []⟩
def MayOpn (o : Opn) : Prop := OpP o.k o.n o.x o.p o.ds
/-- a commit -/
structure Cm where
  d : Dt
  ps : List Dt
  vv : List Dt
  t : Int
  o : Opn
/-- dots that rise, within a vector, none one's own -/
def RiseP (l : List Dt) (d : Dt) (vv : List Dt) : Prop := l.Pairwise ltD ∧ ∀ x ∈ l, x ≠ d ∧ hasV vv x = true
/-- a commit that may be -/
structure CmP (c : Cm) : Prop where
  dot : may c.d = true
  t1 : 1 ≤ c.t
  t2 : c.t ≤ 1099511627776
  op : MayOpn c.o
  canon : canonV c.vv = c.vv
  own : getN c.vv c.d.1 = c.d.2
  few : c.ps.length ≤ 64
  ps : RiseP c.ps c.d c.vv
  ds : RiseP c.o.ds c.d c.vv
/-- numbers that a memory can hold -/
structure okC (c : Cm) : Prop where
  d : okD c.d
  ps : okV c.ps
  vv : okV c.vv
  t : 0 ≤ c.t ∧ c.t ≤ 18446744073709551615
  ds : okV c.o.ds
def zeroC : Cm := ⟨zeroD, [], [], 0, zeroO⟩
theorem canon_few {v : List Dt} (h : canonV v = v) : v.length ≤ 64 := by rw [← h]; exact vecOf_length _
end Go.Proofs.YthdmoplclllhjaaGreat

/- ComA -/
namespace Go.Proofs.YthdmoplclllhjaaGreat
open Go.RowKit Go.ChangeShapes Go.WideShapes
set_option linter.unusedVariables false
set_option linter.unusedSimpArgs false

/-- a commit, and where its parts lie -/
structure Cw where
  c : Cm
  qa : Option Addr
  qc : Nat
  va : Option Addr
  vc : Nat
  pa : Option Addr
  pc : Nat
  da : Option Addr
  dc : Nat
abbrev cwcells (v : Cw) : Array Value :=
  #[.int .u8 v.c.d.1.1, .int .u32 v.c.d.1.2, .int .u64 v.c.d.2, .slice v.qa v.c.ps.length v.qc, .slice v.va v.c.vv.length v.vc, .int .u64 v.c.t,
    .int .u8 v.c.o.k, .slice v.pa v.c.o.p.length v.pc, .int .i64 v.c.o.n, .string v.c.o.x, .slice v.da v.c.o.ds.length v.dc]
structure CwAt (w : World) (v : Cw) : Prop where
  ps : Vec w v.qa v.qc v.c.ps
  vv : Vec w v.va v.vc v.c.vv
  pt : Strs w v.pa v.pc v.c.o.p
  ds : Vec w v.da v.dc v.c.o.ds
  ok : okC v.c
theorem CwAt.below {w w' : World} {v : Cw} (h : CwAt w v) (hb : Below w.heap.size w w') : CwAt w' v := ⟨h.ps.below hb, h.vv.below hb, h.pt.below hb, h.ds.below hb, h.ok⟩
theorem CwAt.op {w : World} {v : Cw} (h : CwAt w v) : OwAt w ⟨v.c.o, v.pa, v.pc, v.da, v.dc⟩ := ⟨h.pt, h.ds, h.ok.ds⟩
theorem listN11 {cs : List Value} (h : cs.length = 11) : ∃ a b c d e f g i j k l, cs = [a, b, c, d, e, f, g, i, j, k, l] := by
  match cs, h with
  | [a, b, c, d, e, f, g, i, j, k, l], _ => exact ⟨a, b, c, d, e, f, g, i, j, k, l, rfl⟩
section
variable {H : Type} {enc : TypeId × Value → H} {w : World} {base : Nat} {spare : Nat → Bool} {held : Bool}
theorem rd_commit {n : Nat} {cs : List Value} {x : DataW H × List MemPlace} (h : DataW.trod enc Tryz.prog w base spare held n 46 cs = some x) :
    ∃ v : Cw, cs = (cwcells v).toList ∧ CwAt w v := by
  obtain ⟨xs, m, _, _, hl, hxl, hf⟩ := DataW.trod_struct Tryz.underlying46 h
  have hc : Tryz.prog.cellsOf 46 = 11 := by kernel_rfl
  obtain ⟨c0, c1, c2, c3, c4, c5, c6, c7, c8, c9, c10, rfl⟩ := listN11 (hl.trans hc)
  have hxs : xs.length = 5 := hxl
  have e1 : Tryz.prog.cellsOf 22 = 1 := by kernel_rfl
  have e2 : Tryz.prog.cellsOf 41 = 3 := by kernel_rfl
  have e3 : Tryz.prog.cellsOf 44 = 5 := by kernel_rfl
  have e4 : Tryz.prog.cellsOf 23 = 1 := by kernel_rfl
  have e5 : Tryz.prog.cellsOf 24 = 1 := by kernel_rfl
  have h0 : DataW.trod enc Tryz.prog w base spare held m 41 ((List.drop 0 [c0, c1, c2, c3, c4, c5, c6, c7, c8, c9, c10]).take (Tryz.prog.cellsOf 41)) = xs[0]? := hf 0 _ rfl
  have h1 : DataW.trod enc Tryz.prog w base spare held m 23 ((List.drop 3 [c0, c1, c2, c3, c4, c5, c6, c7, c8, c9, c10]).take (Tryz.prog.cellsOf 23)) = xs[1]? := hf 1 _ rfl
  have h2 : DataW.trod enc Tryz.prog w base spare held m 24 ((List.drop 4 [c0, c1, c2, c3, c4, c5, c6, c7, c8, c9, c10]).take (Tryz.prog.cellsOf 24)) = xs[2]? := hf 2 _ rfl
  have h3 : DataW.trod enc Tryz.prog w base spare held m 22 ((List.drop 5 [c0, c1, c2, c3, c4, c5, c6, c7, c8, c9, c10]).take (Tryz.prog.cellsOf 22)) = xs[3]? := hf 3 _ rfl
  have h4 : DataW.trod enc Tryz.prog w base spare held m 44 ((List.drop 6 [c0, c1, c2, c3, c4, c5, c6, c7, c8, c9, c10]).take (Tryz.prog.cellsOf 44)) = xs[4]? := hf 4 _ rfl
  rw [List.getElem?_eq_getElem (by omega)] at h0 h1 h2 h3 h4
  simp only [e1, e2, e3, e4, e5, List.drop_zero, List.drop_succ_cons, List.take_succ_cons, List.take_zero] at h0 h1 h2 h3 h4
  obtain ⟨d, hd, okd⟩ := rd_dot h0
  obtain ⟨qa, qc, ps, hq, hps, okq⟩ := rd_vec Tryz.underlying23 h1
  obtain ⟨va, vc, vv, hv, hvv, okv⟩ := rd_vec Tryz.underlying24 h2
  obtain ⟨t, ht, _, w1⟩ := DataW.trod_int Tryz.underlying22 h3
  obtain ⟨⟨o, pa, pc, da, dc⟩, ho, hoa⟩ := rd_op h4
  simp only [dcell, owcells, ocells, List.cons.injEq, and_true] at hd hq hv ht ho
  obtain ⟨rfl, rfl, rfl⟩ := hd
  obtain ⟨rfl, rfl, rfl, rfl, rfl⟩ := ho
  subst hq hv ht
  exact ⟨⟨⟨d, ps, vv, t, o⟩, qa, qc, va, vc, pa, pc, da, dc⟩, rfl, hps, hvv, hoa.pt, hoa.ds, okd, okq, okv, (wf64 t).1 w1, hoa.ok⟩
end
end Go.Proofs.YthdmoplclllhjaaGreat
