/- varvelaw13.BaseAncestors: the walk. (printed by wip/tools/genlwa.py) -/
import Derived.Test.YthdmoplclllhjaaGreatBothA
import Derived.Test.YthdmoplclllhjaaGreatOfA
import Derived.Test.YthdmoplclllhjaaGreatKno13
namespace Go.Proofs.YthdmoplclllhjaaGreat
open Go.RowKit
set_option linter.unusedVariables false
set_option linter.unusedSimpArgs false

/-- a pair of graphs, and where all lies -/
structure PrV where
  v : Bw
  m : Nat
  pg : Nat
  mb : Nat
  w0 : World
  b : Bw
  L : List Cw
  va : Option Addr
  vc : Nat
  vv : List Dt
  pw : Nat
  S : List Cw
  la : Option Addr
  lc : Nat
def PairAt (w wr : World) (P : PrV) : Prop := PairE w wr P.v P.m P.pg P.mb P.w0 P.b P.L P.va P.vc P.vv P.pw P.S P.la P.lc
theorem PairAt.below {w wr w' : World} {P : PrV} (h : PairAt w wr P) (hb : Below wr.heap.size wr w') : PairAt w w' P := PairE.below h hb
theorem PairAt.map {w wr w' : World} {P : PrV} {x : Nat} (h : PairAt w wr P) (hc : Chg [x] wr w') (hm : ∃ es clock, wr.heap[x]? = some (.map es clock)) (hx : P.mb < x) (h0 : P.w0.heap.size ≤ x) : PairAt w w' P := by
  obtain ⟨es, clock, hm⟩ := hm
  have hw := h.old
  refine ⟨h.gr.chg hc (fun e => ?_) (by simp; omega) (fun k hk C t fr hh => ?_) (by simpa using h0), h.rg.map hc ⟨es, clock, hm⟩ (by omega), h.same, h.tips, h.tr, h.perm, h.hist, h.ins, h.old, h.pwl, h.bel.trans (hc.below h.bel.size (by simp; omega))⟩
  · rw [List.mem_singleton] at e
    have h1 := h.gr.blk
    rw [e, hm] at h1; cases h1
  · rw [List.mem_singleton] at hk
    subst hk
    rw [hm] at hh; cases hh
theorem PairAt.dagL {w wr : World} {P : PrV} (h : PairAt w wr P) : DagP (cms P.L) := DagP.of h.ins h.hist (List.Perm.refl _)
def PairTo2 (w : World) (v : Bw) (n : Nat) (e : Ending) (w' : World) : Prop :=
  (e = .returned (.tuple #[.pointer none, .pointer none, .bool false]) ∧ Below w.heap.size w w') ∨
  ∃ P : PrV, e = .returned (.tuple #[.pointer (some ⟨P.pg, 0, none⟩), .pointer (some ⟨P.pw, 0, none⟩), .bool true]) ∧ PairAt w w' P ∧ P.L.length ≤ n ∧ P.v = v
theorem PairTo.two {w : World} {v : Bw} {m n : Nat} {e : Ending} {w' : World} (h : PairTo w v m n e w') : PairTo2 w v n e w' := by
  rcases h with h | ⟨pg, mb, w0, b, L, va, vc, vv, pw, S, la, lc, rfl, hp, hl, _⟩
  · exact .inl h
  · exact .inr ⟨⟨v, m, pg, mb, w0, b, L, va, vc, vv, pw, S, la, lc⟩, rfl, hp, hl, rfl⟩
/-- while the law asks -/
structure LwE (w1 wr : World) (P : PrV) (mx my : Nat) (X Y : List Dt) (da : Option Addr) (dc : Nat) (dots : List Dt) : Prop where
  x : SeenAt wr mx X
  y : SeenAt wr my Y
  row : OwnD wr w1.heap.size da dc dots
  ne : mx < my
  lo : w1.heap.size ≤ mx
  ok : okV dots
  dx : ∀ z, z ∈ X ↔ downS (cms P.S) (fun d => d ∈ dots) z
  bel : Below w1.heap.size w1 wr
theorem LwE.below {w1 wr w' : World} {P : PrV} {mx my : Nat} {X Y : List Dt} {da : Option Addr} {dc : Nat} {dots : List Dt} (h : LwE w1 wr P mx my X Y da dc dots) (hb : Below wr.heap.size wr w') : LwE w1 w' P mx my X Y da dc dots :=
  ⟨h.x.below hb, h.y.below hb, h.row.below hb, h.ne, h.lo, h.ok, h.dx, below2 h.bel hb h.bel.size⟩
theorem ob_seen {w : World} {base : Nat} {a : Option Addr} {c : Nat} {v : List Dt} {x : Nat} {V : List Dt} (h : OwnD w base a c v) (hs : SeenAt w x V) : x ∉ ob a := fun hk => by
  obtain ⟨C, fr, hh⟩ := ob_row h x hk
  obtain ⟨es, clock, h2⟩ := hs.blk
  rw [h2] at hh; cases hh
/-- behind the append of a dot -/
theorem LwE.app {w1 wr w3 : World} {P : PrV} {mx my : Nat} {X Y : List Dt} {da : Option Addr} {dc : Nat} {dots : List Dt} (h : LwE w1 wr P mx my X Y da dc dots) (hch : Chg (ob da) wr w3) : SeenAt w3 mx X ∧ SeenAt w3 my Y ∧ Below w1.heap.size w1 w3 :=
  ⟨h.x.chg hch (ob_seen h.row h.x), h.y.chg hch (ob_seen h.row h.y), h.bel.trans (hch.below h.bel.size (fun k hk => (owns_lt h.row k hk).1))⟩
/-- and behind the walk from it -/
theorem LwE.step {w1 wr w3 w4 : World} {P : PrV} {mx my : Nat} {X X' Y : List Dt} {da da' : Option Addr} {dc dc' : Nat} {dots dots' : List Dt} {d : Dt} (hD : DagP (cms P.S)) (h : LwE w1 wr P mx my X Y da dc dots) (hch : Chg (ob da) wr w3) (ho : OwnD w3 w1.heap.size da' dc' dots') (hd : dots' = dots ++ [d]) (hok : okD d) (hs : SeenAt w4 mx X') (hc : Chg [mx] w3 w4) (hr : RchP (cms P.S) X d X') : LwE w1 w4 P mx my X' Y da' dc' dots' := by
  obtain ⟨h1, h2, h3⟩ := h.app hch
  have hn := h.ne
  subst hd
  refine ⟨hs, h2.chg hc (by simp; omega), owns_chg ho hc (fun k hk hm => by rw [List.mem_singleton] at hm; subst hm; exact ob_seen ho h1 hk), hn, h.lo, fun y hy => ?_, downB.snoc hD h.dx hr, h3.trans (hc.below h3.size (by simpa using h.lo))⟩
  rcases List.mem_append.1 hy with hy | hy
  · exact h.ok y hy
  · rw [List.mem_singleton] at hy; subst hy; exact hok
theorem BofP.perm {S L : List Cm} {dots : List Dt} {d : Dt} {v : List Dt} (h : BofP L dots d v) (hp : S.Perm L) (hf : findC S = findC L) : BofP S dots d v := by
  obtain ⟨B, hB, hv⟩ := h
  exact ⟨B, fun c => by rw [hB c, hp.mem_iff, downS_eq hf, downS_eq hf], hv⟩
end Go.Proofs.YthdmoplclllhjaaGreat
