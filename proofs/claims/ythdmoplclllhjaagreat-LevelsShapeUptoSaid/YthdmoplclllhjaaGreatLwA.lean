/- varvelaw13.BaseAncestors: the walk. (printed by wip/tools/genlwa.py) -/
import Derived.Test.YthdmoplclllhjaaGreatBothA
import Derived.Test.YthdmoplclllhjaaGreatWitA
import Derived.Test.YthdmoplclllhjaaGreatKno13
namespace Go.Proofs.YthdmoplclllhjaaGreat
open Go.RowKit
set_option linter.unusedVariables false
set_option linter.unusedSimpArgs false

/-- a pair of graphs, and where all lies -/
structure PrV where
  v : Bw
  m : Nat
  pg : Nat
  mb : Nat
  w0 : World
  b : Bw
  L : List Cw
  va : Option Addr
  vc : Nat
  vv : List Dt
  pw : Nat
  S : List Cw
  la : Option Addr
  lc : Nat
def PairAt (w wr : World) (P : PrV) : Prop := PairE w wr P.v P.m P.pg P.mb P.w0 P.b P.L P.va P.vc P.vv P.pw P.S P.la P.lc
theorem PairAt.below {w wr w' : World} {P : PrV} (h : PairAt w wr P) (hb : Below wr.heap.size wr w') : PairAt w w' P := PairE.below h hb
def PairTo2 (w : World) (v : Bw) (n : Nat) (e : Ending) (w' : World) : Prop :=
  (e = .returned (.tuple #[.pointer none, .pointer none, .bool false]) ∧ Below w.heap.size w w') ∨
  ∃ P : PrV, e = .returned (.tuple #[.pointer (some ⟨P.pg, 0, none⟩), .pointer (some ⟨P.pw, 0, none⟩), .bool true]) ∧ PairAt w w' P ∧ P.L.length ≤ n ∧ P.v = v
theorem PairTo.two {w : World} {v : Bw} {m n : Nat} {e : Ending} {w' : World} (h : PairTo w v m n e w') : PairTo2 w v n e w' := by
  rcases h with h | ⟨pg, mb, w0, b, L, va, vc, vv, pw, S, la, lc, rfl, hp, hl, _⟩
  · exact .inl h
  · exact .inr ⟨⟨v, m, pg, mb, w0, b, L, va, vc, vv, pw, S, la, lc⟩, rfl, hp, hl, rfl⟩
end Go.Proofs.YthdmoplclllhjaaGreat
