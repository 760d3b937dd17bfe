/- The reader, plainly: what bytes begin with; what is laid is read again. No program in sight. | Operations and commits as bytes, plainly: what was laid is read again; cut, it is not. No program in sight. | Commits in memory; arguments that are commits, opened. -/
import Derived.Test.YtbeblbgbngplhaaGreatVec3
import Derived.Test.YtbeblbgbngplhaaGreatBatA
/- CodP -/
namespace Go.Proofs.YtbeblbgbngplhaaGreat
open Go.RowKit
set_option linter.unusedVariables false
set_option linter.unusedSimpArgs false

/-- whole numbers both ways -/
def zz (n : Int) : Nat := if 0 ≤ n then (2 * n).toNat else (-(2 * n) - 1).toNat
end Go.Proofs.YtbeblbgbngplhaaGreat

/- ComP -/
namespace Go.Proofs.YtbeblbgbngplhaaGreat
open Go.RowKit
set_option linter.unusedVariables false
set_option linter.unusedSimpArgs false

/-- a dot, read: op's way, commit's way -/
def zeroD : Dt := ((0, 0), 0)
def zeroO : Opn := ⟨0, 0, ByteArray.empty, [], []⟩
def MayOpn (o : Opn) : Prop := OpP o.k o.n o.x o.p o.ds
/-- a commit -/
structure Cm where
  d : Dt
  ps : List Dt
  vv : List Dt
  t : Int
  o : Opn
/-- dots that rise, within a vector, none one's own -/
def RiseP (l : List Dt) (d : Dt) (vv : List Dt) : Prop := l.Pairwise ltD ∧ ∀ x ∈ l, x ≠ d ∧ hasV vv x = true
/-- a commit that may be -/
structure CmP (c : Cm) : Prop where
  dot : may c.d = true
  t1 : 1 ≤ c.t
  t2 : c.t ≤ 1099511627776
  op : MayOpn c.o
  canon : canonV c.vv = c.vv
  own : getN c.vv c.d.1 = c.d.2
  few : c.ps.length ≤ 64
  ps : RiseP c.ps c.d c.vv
  ds : RiseP c.o.ds c.d c.vv
/-- numbers that a memory can hold -/
structure okC (c : Cm) : Prop where
  d : okD c.d
  ps : okV c.ps
  vv : okV c.vv
  t : 0 ≤ c.t ∧ c.t ≤ 18446744073709551615
  ds : okV c.o.ds
def zeroC : Cm := ⟨zeroD, [], [], 0, zeroO⟩
theorem canon_few {v : List Dt} (h : canonV v = v) : v.length ≤ 64 := by rw [← h]; exact vecOf_length _
end Go.Proofs.YtbeblbgbngplhaaGreat

/- ComA -/
namespace Go.Proofs.YtbeblbgbngplhaaGreat
open Go.RowKit Go.ChangeShapes Go.WideShapes
set_option linter.unusedVariables false
set_option linter.unusedSimpArgs false

/-- a commit, and where its parts lie -/
structure Cw where
  c : Cm
  qa : Option Addr
  qc : Nat
  va : Option Addr
  vc : Nat
  pa : Option Addr
  pc : Nat
  da : Option Addr
  dc : Nat
abbrev cwcells (v : Cw) : Array Value :=
  #[.int .u8 v.c.d.1.1, .int .u32 v.c.d.1.2, .int .u64 v.c.d.2, .slice v.qa v.c.ps.length v.qc, .slice v.va v.c.vv.length v.vc, .int .u64 v.c.t,
    .int .u8 v.c.o.k, .slice v.pa v.c.o.p.length v.pc, .int .i64 v.c.o.n, .string v.c.o.x, .slice v.da v.c.o.ds.length v.dc]
structure CwAt (w : World) (v : Cw) : Prop where
  ps : Vec w v.qa v.qc v.c.ps
  vv : Vec w v.va v.vc v.c.vv
  pt : Strs w v.pa v.pc v.c.o.p
  ds : Vec w v.da v.dc v.c.o.ds
  ok : okC v.c
theorem CwAt.below {w w' : World} {v : Cw} (h : CwAt w v) (hb : Below w.heap.size w w') : CwAt w' v := ⟨h.ps.below hb, h.vv.below hb, h.pt.below hb, h.ds.below hb, h.ok⟩
theorem CwAt.op {w : World} {v : Cw} (h : CwAt w v) : OwAt w ⟨v.c.o, v.pa, v.pc, v.da, v.dc⟩ := ⟨h.pt, h.ds, h.ok.ds⟩
theorem listN11 {cs : List Value} (h : cs.length = 11) : ∃ a b c d e f g i j k l, cs = [a, b, c, d, e, f, g, i, j, k, l] := by
  match cs, h with
  | [a, b, c, d, e, f, g, i, j, k, l], _ => exact ⟨a, b, c, d, e, f, g, i, j, k, l, rfl⟩
section
variable {H : Type} {enc : TypeId × Value → H} {w : World} {base : Nat} {spare : Nat → Bool} {held : Bool}
end
end Go.Proofs.YtbeblbgbngplhaaGreat
