/- Trees in memory: their cells; size, Great. | The reference's May on leaves (varveref05), whole: contract. | The reference's tree.May. -/
import Derived.Test.YtbeblbgbngplhaaGreatMeanT
import Derived.Test.YtbeblbgbngplhaaGreatROpA
import Derived.Test.YtbeblbgbngplhaaGreatRefLA
/- MeanV -/
namespace Go.Proofs.YtbeblbgbngplhaaGreat
open Go.RowKit
set_option linter.unusedVariables false
set_option linter.unusedSimpArgs false

structure NdAt (w : World) (b : Addr) (x : Nd) : Prop where
  c0 : w.cell? b = some (.string x.name)
  c1 : w.cell? ⟨b.block, b.off + 1, none⟩ = some (.slice x.la x.ls.length x.lc)
  c2 : w.cell? ⟨b.block, b.off + 2, none⟩ = some (.slice x.ba x.kids.length x.bc)
theorem nds_at {w : World} {a : Option Addr} {c : Nat} {T : List Nd} (h : Sl w 3 a T.length c (T.flatMap ndcell)) {i : Nat} {x : Nd} (hx : T[i]? = some x) : ∃ ad, a = some ad ∧ NdAt w (ad.add (i * 3)) x ∧ ad.block < w.heap.size := by
  have hi := (List.getElem?_eq_some_iff.1 hx).1
  rcases h.2.2.2 with ⟨_, h5, _⟩ | ⟨ad, rfl, hc⟩
  · omega
  · have g : ∀ j, j < 3 → w.cell? (ad.add (i * 3 + j)) = (ndcell x)[j]? := fun j hj => by
      have e := flatMap_at (enc := ndcell) (k := 3) ndcell_len T i j x hx hj
      have e2 : (ndcell x)[j]? = some ((ndcell x)[j]'(by rw [ndcell_len]; exact hj)) := by simp
      rw [e2]
      exact hc _ _ (by rw [e, e2])
    have g0 := g 0 (by omega)
    have g1 := g 1 (by omega)
    have g2 := g 2 (by omega)
    rw [Nat.add_zero] at g0
    rw [← Go.Deep.add_add] at g1 g2
    refine ⟨ad, rfl, ⟨g0, g1, g2⟩, ?_⟩
    have := World.block_lt_of_cell? w _ g0
    rwa [add_block] at this
structure LvC (w : World) (b : Addr) (v : Lv) : Prop where
  c0 : w.cell? b = some (.int .u8 v.l.k)
  c1 : w.cell? ⟨b.block, b.off + 1, none⟩ = some (.int .i64 v.l.n)
  c2 : w.cell? ⟨b.block, b.off + 2, none⟩ = some (.int .u64 v.l.t)
  c3 : w.cell? ⟨b.block, b.off + 3, none⟩ = some (.int .u8 v.l.d.1.1)
  c4 : w.cell? ⟨b.block, b.off + 4, none⟩ = some (.int .u32 v.l.d.1.2)
  c5 : w.cell? ⟨b.block, b.off + 5, none⟩ = some (.int .u64 v.l.d.2)
  c6 : w.cell? ⟨b.block, b.off + 6, none⟩ = some (.string v.l.x)
  c7 : w.cell? ⟨b.block, b.off + 7, none⟩ = some (.slice v.ia v.l.items.length v.ic)
  c8 : w.cell? ⟨b.block, b.off + 8, none⟩ = some (.slice v.ta v.l.tombs.length v.tc)
theorem LvsRd.at {w : World} {a : Option Addr} {c : Nat} {ls : List Lv} (h : LvsRd w a c ls) {i : Nat} {v : Lv} (hv : ls[i]? = some v) : ∃ ad, a = some ad ∧ LvC w (ad.add (i * 9)) v ∧ ad.block < w.heap.size ∧ LvRd w v := by
  have hi := (List.getElem?_eq_some_iff.1 hv).1
  rcases h.1.2.2.2 with ⟨_, h5, _⟩ | ⟨ad, rfl, hc⟩
  · omega
  · have g : ∀ j, j < 9 → w.cell? (ad.add (i * 9 + j)) = (lvcell v)[j]? := fun j hj => by
      have e := flatMap_at (enc := lvcell) (k := 9) lvcell_len ls i j v hv hj
      have e2 : (lvcell v)[j]? = some ((lvcell v)[j]'(by rw [lvcell_len]; exact hj)) := by simp
      rw [e2]
      exact hc _ _ (by rw [e, e2])
    have g0 := g 0 (by omega)
    have g1 := g 1 (by omega)
    have g2 := g 2 (by omega)
    have g3 := g 3 (by omega)
    have g4 := g 4 (by omega)
    have g5 := g 5 (by omega)
    have g6 := g 6 (by omega)
    have g7 := g 7 (by omega)
    have g8 := g 8 (by omega)
    rw [Nat.add_zero] at g0
    rw [← Go.Deep.add_add] at g1 g2 g3 g4 g5 g6 g7 g8
    refine ⟨ad, rfl, ⟨g0, g1, g2, g3, g4, g5, g6, g7, g8⟩, ?_, h.2 v (List.mem_of_getElem? hv)⟩
    have := World.block_lt_of_cell? w _ g0
    rwa [add_block] at this
theorem le_sum {α : Type} (f : α → Nat) {l : List α} {x : α} (h : x ∈ l) : f x ≤ (l.map f).sum := by
  induction l with
  | nil => cases h
  | cons a l ih =>
    simp only [List.map_cons, List.sum_cons]
    rcases List.mem_cons.1 h with rfl | h
    · omega
    · have := ih h; omega
end Go.Proofs.YtbeblbgbngplhaaGreat

/- RefLC -/
namespace Go.Proofs.YtbeblbgbngplhaaGreat
open Go.RowKit
set_option linter.unusedVariables false
set_option linter.unusedSimpArgs false

end Go.Proofs.YtbeblbgbngplhaaGreat

/- MeanW -/
namespace Go.Proofs.YtbeblbgbngplhaaGreat
open Go.RowKit
set_option linter.unusedVariables false
set_option linter.unusedSimpArgs false

def nlt (a b : Nd) : Prop := ltS a.name b.name = true
def klt (a b : Lv) : Prop := a.l.k < b.l.k
/-- what is asked of one node -/
def OkN (f : Nat) (x : Nd) : Prop := NameP x.name ∧ (x.ls ≠ [] ∨ x.kids ≠ []) ∧ MayT f x.kids ∧ MayLs x.ls
theorem mayT_of {f : Nat} {T : List Nd} (h : ∀ x ∈ T, OkN f x) (k : upTo nlt T T.length) : MayT (f + 1) T :=
  ⟨upTo.all (lt := nlt) (fun {a b c} => ltS_trans) k (Nat.le_refl _), h⟩
theorem not_node {f : Nat} {T : List Nd} {q : Nat} {x : Nd} (hx : T[q]? = some x) (h : ¬ OkN f x) : ¬ MayT (f + 1) T := fun hm => h (hm.2 x (List.mem_of_getElem? hx))
theorem not_pair {f : Nat} {T : List Nd} {q : Nat} {x y : Nd} (hx : T[q]? = some x) (hy : T[q + 1]? = some y) (h : ltS x.name y.name = false) : ¬ MayT (f + 1) T := fun hm => by
  have := pairwise_next hm.1 hx hy
  rw [h] at this; cases this
theorem not_lpair {ls : List Lv} {q : Nat} {x y : Lv} (hx : ls[q]? = some x) (hy : ls[q + 1]? = some y) (h : ¬ x.l.k < y.l.k) : ¬ MayLs ls := fun hm => h (pairwise_next hm.2 hx hy)
/-- the round's box of a node -/
structure NbE (w wr W : World) (x : Nd) : Prop where
  b0 : W.heap[wr.heap.size]? = some (.cells (ndcell x).toArray 180 (0, 0))
  bel : Below wr.heap.size wr W
theorem NbE.step {w wr W W' : World} {x : Nd} (h : NbE w wr W x) (hb : Below W.heap.size W W') : NbE w wr W' x := ⟨(hb.block _ (heap_lt h.b0)).trans h.b0, below2 h.bel hb h.bel.size⟩
/-- what the first test of a node tells -/
def CutW (f : Nat) (w wr : World) (T : List Nd) (q : Nat) (x : Nd) (v : Value) (wx : World) : Prop :=
  (v = .bool true ∧ Hid (¬ MayT (f + 1) T) ∧ Hid (Below w.heap.size w wx)) ∨
  (v = .bool false ∧ Hid (NameP x.name ∧ (x.ls ≠ [] ∨ x.kids ≠ []) ∧ MayT f x.kids) ∧ Hid (upTo nlt T (q + 1)) ∧ Hid (NbE w wr wx x))
end Go.Proofs.YtbeblbgbngplhaaGreat
