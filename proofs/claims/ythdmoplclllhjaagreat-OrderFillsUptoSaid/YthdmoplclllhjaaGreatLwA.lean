/- varvelaw13.known | varvelaw13.BaseAncestors: the walk. (printed by wip/tools/genlwa.py) -/
import Derived.Test.YthdmoplclllhjaaGreatWitA
import Derived.Test.YthdmoplclllhjaaGreatGraQ
import Derived.Test.YthdmoplclllhjaaGreatRegO
import Derived.Test.YthdmoplclllhjaaGreatBothA
/- Kno13 -/
namespace Go.Proofs.YthdmoplclllhjaaGreat
open Go.RowKit
set_option linter.unusedVariables false
set_option linter.unusedSimpArgs false
set_option maxRecDepth 100000
@[go_sem] theorem index4_0 (a0 a1 a2 a3 a4 a5 a6 a7 a8 a9 a10 b0 b1 b2 b3 b4 b5 b6 b7 b8 b9 b10 c0 c1 c2 c3 c4 c5 c6 c7 c8 c9 c10 d0 d1 d2 d3 d4 d5 d6 d7 d8 d9 d10 : Value) (w : World) : (Instr.index 130 (.agg #[a0, a1, a2, a3, a4, a5, a6, a7, a8, a9, a10, b0, b1, b2, b3, b4, b5, b6, b7, b8, b9, b10, c0, c1, c2, c3, c4, c5, c6, c7, c8, c9, c10, d0, d1, d2, d3, d4, d5, d6, d7, d8, d9, d10]) (.int .i64 0)).run Tryz.prog w = .ok (.agg #[a0, a1, a2, a3, a4, a5, a6, a7, a8, a9, a10]) w := by kernel_rfl
@[go_sem] theorem index4_1 (a0 a1 a2 a3 a4 a5 a6 a7 a8 a9 a10 b0 b1 b2 b3 b4 b5 b6 b7 b8 b9 b10 c0 c1 c2 c3 c4 c5 c6 c7 c8 c9 c10 d0 d1 d2 d3 d4 d5 d6 d7 d8 d9 d10 : Value) (w : World) : (Instr.index 130 (.agg #[a0, a1, a2, a3, a4, a5, a6, a7, a8, a9, a10, b0, b1, b2, b3, b4, b5, b6, b7, b8, b9, b10, c0, c1, c2, c3, c4, c5, c6, c7, c8, c9, c10, d0, d1, d2, d3, d4, d5, d6, d7, d8, d9, d10]) (.int .i64 1)).run Tryz.prog w = .ok (.agg #[b0, b1, b2, b3, b4, b5, b6, b7, b8, b9, b10]) w := by kernel_rfl
@[go_sem] theorem index4_2 (a0 a1 a2 a3 a4 a5 a6 a7 a8 a9 a10 b0 b1 b2 b3 b4 b5 b6 b7 b8 b9 b10 c0 c1 c2 c3 c4 c5 c6 c7 c8 c9 c10 d0 d1 d2 d3 d4 d5 d6 d7 d8 d9 d10 : Value) (w : World) : (Instr.index 130 (.agg #[a0, a1, a2, a3, a4, a5, a6, a7, a8, a9, a10, b0, b1, b2, b3, b4, b5, b6, b7, b8, b9, b10, c0, c1, c2, c3, c4, c5, c6, c7, c8, c9, c10, d0, d1, d2, d3, d4, d5, d6, d7, d8, d9, d10]) (.int .i64 2)).run Tryz.prog w = .ok (.agg #[c0, c1, c2, c3, c4, c5, c6, c7, c8, c9, c10]) w := by kernel_rfl
@[go_sem] theorem index4_3 (a0 a1 a2 a3 a4 a5 a6 a7 a8 a9 a10 b0 b1 b2 b3 b4 b5 b6 b7 b8 b9 b10 c0 c1 c2 c3 c4 c5 c6 c7 c8 c9 c10 d0 d1 d2 d3 d4 d5 d6 d7 d8 d9 d10 : Value) (w : World) : (Instr.index 130 (.agg #[a0, a1, a2, a3, a4, a5, a6, a7, a8, a9, a10, b0, b1, b2, b3, b4, b5, b6, b7, b8, b9, b10, c0, c1, c2, c3, c4, c5, c6, c7, c8, c9, c10, d0, d1, d2, d3, d4, d5, d6, d7, d8, d9, d10]) (.int .i64 3)).run Tryz.prog w = .ok (.agg #[d0, d1, d2, d3, d4, d5, d6, d7, d8, d9, d10]) w := by kernel_rfl
theorem of13_any (rep : Int) (w : World) : Calls Tryz.prog 96 #[.int .u8 rep] w fun e w' => e = .returned (.agg #[.int .u8 rep, .int .u32 1, .int .u64 1]) ∧ Below w.heap.size w w' := by
  go_enter Tryz.func96, Tryz.ntmps96
  go_wp2_with fail
  exact bodyPost_ret (v := .agg #[.int .u8 rep, .int .u32 1, .int .u64 1]) (by simp [results, Tryz.results96, go_sem]) rfl ⟨rfl, (Below.refl _ _).alloc (Nat.le_refl _) _⟩
end Go.Proofs.YthdmoplclllhjaaGreat

/- LwA -/
namespace Go.Proofs.YthdmoplclllhjaaGreat
open Go.RowKit
set_option linter.unusedVariables false
set_option linter.unusedSimpArgs false

/-- a pair of graphs, and where all lies -/
structure PrV where
  v : Bw
  m : Nat
  pg : Nat
  mb : Nat
  w0 : World
  b : Bw
  L : List Cw
  va : Option Addr
  vc : Nat
  vv : List Dt
  pw : Nat
  S : List Cw
  la : Option Addr
  lc : Nat
def PairAt (w wr : World) (P : PrV) : Prop := PairE w wr P.v P.m P.pg P.mb P.w0 P.b P.L P.va P.vc P.vv P.pw P.S P.la P.lc
theorem PairAt.below {w wr w' : World} {P : PrV} (h : PairAt w wr P) (hb : Below wr.heap.size wr w') : PairAt w w' P := PairE.below h hb
def PairTo2 (w : World) (v : Bw) (n : Nat) (e : Ending) (w' : World) : Prop :=
  (e = .returned (.tuple #[.pointer none, .pointer none, .bool false]) ∧ Below w.heap.size w w') ∨
  ∃ P : PrV, e = .returned (.tuple #[.pointer (some ⟨P.pg, 0, none⟩), .pointer (some ⟨P.pw, 0, none⟩), .bool true]) ∧ PairAt w w' P ∧ P.L.length ≤ n ∧ P.v = v
theorem PairTo.two {w : World} {v : Bw} {m n : Nat} {e : Ending} {w' : World} (h : PairTo w v m n e w') : PairTo2 w v n e w' := by
  rcases h with h | ⟨pg, mb, w0, b, L, va, vc, vv, pw, S, la, lc, rfl, hp, hl, _⟩
  · exact .inl h
  · exact .inr ⟨⟨v, m, pg, mb, w0, b, L, va, vc, vv, pw, S, la, lc⟩, rfl, hp, hl, rfl⟩
end Go.Proofs.YthdmoplclllhjaaGreat
