/- What the law FuseMerges knows. Printed by genlaw06b.py. -/
import Derived.Test.YtmabjghjkgicgaaLawA
namespace Go.Proofs.Ytmabjghjkgicgaa
open Go.RowKit
set_option linter.unusedVariables false
set_option linter.unusedSimpArgs false

/-- a leaf, and where its items and tombs lie -/
structure Lv where
  l : Lf
  ia : Option Addr
  ic : Nat
  ta : Option Addr
  tc : Nat
def LvAt (w : World) (v : Lv) : Prop := LfAt w v.l v.ia v.ic v.ta v.tc
def LvBlk (w : World) (p : Nat) (v : Lv) : Prop := w.heap[p]? = some (.cells (lcells v.l v.ia v.ic v.ta v.tc) 40 (0, 0))
theorem LvBlk.lt {w : World} {p : Nat} {v : Lv} (h : LvBlk w p v) : p < w.heap.size := heap_lt h
theorem LvBlk.below {w w' : World} {p : Nat} {v : Lv} (h : LvBlk w p v) (hb : Below w.heap.size w w') : LvBlk w' p v := (hb.block _ (heap_lt h)).trans h
theorem LvAt.below {w w' : World} {v : Lv} (h : LvAt w v) (hb : Below w.heap.size w w') : LvAt w' v := LfAt.below h hb
theorem LvAt.chg {F : List Nat} {w w' : World} {v : Lv} (h : LvAt w v) (hc : Chg F w w') (h1 : ∀ k ∈ ob v.ia, k ∉ F) (h2 : ∀ k ∈ ob v.ta, k ∉ F) : LvAt w' v := ⟨Sl.chg h.its hc h1, Sl.chg h.tms hc h2, h.li, h.lt⟩
/-- in memory of its own, between two marks -/
def Fr (lo hi : Nat) (v : Lv) : Prop := (∀ k ∈ ob v.ia, lo ≤ k ∧ k < hi) ∧ (∀ k ∈ ob v.ta, lo ≤ k ∧ k < hi)
/-- the law's own copies of its arguments -/
structure E0 (w W : World) (L A B : Lv) : Prop where
  bl : LvBlk W w.heap.size L
  ba : LvBlk W (w.heap.size + 1) A
  bb : LvBlk W (w.heap.size + 2) B
  al : LvAt W L
  aa : LvAt W A
  ab : LvAt W B
  sz : w.heap.size + 3 ≤ W.heap.size
  bel : Below w.heap.size w W
theorem E0.step {w W W' : World} {L A B : Lv} (h : E0 w W L A B) (hb : Below W.heap.size W W') : E0 w W' L A B :=
  ⟨h.bl.below hb, h.ba.below hb, h.bb.below hb, h.al.below hb, h.aa.below hb, h.ab.below hb, by have := h.sz; have := hb.size; omega, below2 h.bel hb h.bel.size⟩
/-- and x, y -/
structure E1 (w W : World) (L A B X Y : Lv) (px py : Nat) : Prop where
  e : E0 w W L A B
  bx : LvBlk W px X
  bY : LvBlk W py Y
  ax : LvAt W X
  aY : LvAt W Y
  hx : X.l = A.l
  hy : Y.l = B.l
theorem E1.step {w W W' : World} {L A B X Y : Lv} {px py : Nat} (h : E1 w W L A B X Y px py) (hb : Below W.heap.size W W') : E1 w W' L A B X Y px py :=
  ⟨h.e.step hb, h.bx.below hb, h.bY.below hb, h.ax.below hb, h.aY.below hb, h.hx, h.hy⟩
def XyTo (w wx : World) (L A B : Lv) (vx vy : Value) : Prop := ∃ X Y px py, vx = .pointer (some ⟨px, 0, none⟩) ∧ vy = .pointer (some ⟨py, 0, none⟩) ∧ E1 w wx L A B X Y px py
def Zc (w : World) (p : Nat) : Prop := w.heap[p]? = some (.cells #[.int .u8 0, .int .i64 0, .int .u64 0, .int .u8 0, .int .u32 0, .int .u64 0, .string ⟨#[]⟩, .slice none 0 0, .slice none 0 0] 40 (0, 0))
theorem Zc.below {w w' : World} {p : Nat} (h : Zc w p) (hb : Below w.heap.size w w') : Zc w' p := (hb.block _ (heap_lt h)).trans h
theorem LfTo.lv {w w' : World} {l : Lf} {e : Ending} (h : LfTo w l e w') : ∃ X : Lv, e = .returned (.agg #[.int .u8 X.l.k, .int .i64 X.l.n, .int .u64 X.l.t, .int .u8 X.l.d.1.1, .int .u32 X.l.d.1.2, .int .u64 X.l.d.2, .string X.l.x, .slice X.ia X.l.items.length X.ic, .slice X.ta X.l.tombs.length X.tc]) ∧ X.l = l ∧ LvAt w' X ∧ Fr w.heap.size w'.heap.size X ∧ Below w.heap.size w w' := by
  obtain ⟨ia, ic, ta, tc, h1, h2, h4, h5, h3⟩ := h
  exact ⟨⟨l, ia, ic, ta, tc⟩, h1, rfl, h2, ⟨h4, h5⟩, h3⟩
theorem heap_set {w : World} {p : Nat} {C : Array Value} {t : TypeId} (h : w.heap[p]? = some (.cells C t (0, 0))) (j : Nat) (x : Value) : (w.setCell ⟨p, j, none⟩ x).heap[p]? = some (.cells (C.setIfInBounds j x) t (0, 0)) := Go.heap_setCell_same w p j _ _ x h
def nineL (W : World) (p : Nat) (X : Lv) : World := (((((((((W.setCell ⟨p, 0, none⟩ (.int .u8 X.l.k)).setCell ⟨p, 1, none⟩ (.int .i64 X.l.n)).setCell ⟨p, 2, none⟩ (.int .u64 X.l.t)).setCell ⟨p, 3, none⟩ (.int .u8 X.l.d.1.1)).setCell ⟨p, 4, none⟩ (.int .u32 X.l.d.1.2)).setCell ⟨p, 5, none⟩ (.int .u64 X.l.d.2)).setCell ⟨p, 6, none⟩ (.string X.l.x)).setCell ⟨p, 7, none⟩ (.slice X.ia X.l.items.length X.ic)).setCell ⟨p, 8, none⟩ (.slice X.ta X.l.tombs.length X.tc))
theorem put_lv {w : World} {p : Nat} (h : Zc w p) (X : Lv) : LvBlk (nineL w p X) p X := by
  unfold Zc at h
  have h0 := heap_set (heap_set (heap_set h 0 (.int .u8 X.l.k)) 1 (.int .i64 X.l.n)) 2 (.int .u64 X.l.t)
  simp only [List.setIfInBounds_toArray, List.set_cons_zero, List.set_cons_succ] at h0
  have h1 := heap_set (heap_set (heap_set h0 3 (.int .u8 X.l.d.1.1)) 4 (.int .u32 X.l.d.1.2)) 5 (.int .u64 X.l.d.2)
  simp only [List.setIfInBounds_toArray, List.set_cons_zero, List.set_cons_succ] at h1
  have h2 := heap_set (heap_set (heap_set h1 6 (.string X.l.x)) 7 (.slice X.ia X.l.items.length X.ic)) 8 (.slice X.ta X.l.tombs.length X.tc)
  simp only [List.setIfInBounds_toArray, List.set_cons_zero, List.set_cons_succ] at h2
  exact h2
theorem chg_lv (w : World) (p : Nat) (X : Lv) : Chg [p] w (nineL w p X) := chg_nine' p w _ _ _ _ _ _ _ _ _
theorem below_lv {b : Nat} {w0 w : World} {p : Nat} (h : Below b w0 w) (hp : b ≤ p) (X : Lv) : Below b w0 (nineL w p X) :=
  ((((((((h.setCell hp _).setCell hp _).setCell hp _).setCell hp _).setCell hp _).setCell hp _).setCell hp _).setCell hp _).setCell hp _
theorem size_lv (w : World) (p : Nat) (X : Lv) : (nineL w p X).heap.size = w.heap.size := by simp [nineL]
def aL (w : World) (X : Lv) : World := w.alloc (.cells (lcells X.l X.ia X.ic X.ta X.tc) 40)
/-- both new -/
theorem end_nn {w v W : World} {L A B X Y : Lv} (hE : E0 w v L A B) (hB : Below v.heap.size v W) (ax : LvAt W X) (aY : LvAt W Y) (hx : X.l = A.l) (hy : Y.l = B.l) :
    XyTo w (aL (aL W X) Y) L A B (.pointer (some ⟨W.heap.size, 0, none⟩)) (.pointer (some ⟨W.heap.size + 1, 0, none⟩)) := by
  have hb : Below W.heap.size W (aL (aL W X) Y) := ((Below.refl _ W).alloc (Nat.le_refl _) _).alloc (by simp) _
  have h1 : LvBlk (aL W X) W.heap.size X := heap_new _ _
  exact ⟨X, Y, _, _, rfl, rfl, hE.step (below2 hB hb hB.size), h1.below ((Below.refl _ _).alloc (Nat.le_refl _) _), heap_new2 _ _ _, ax.below hb, aY.below hb, hx, hy⟩
theorem end_nn' {w v W : World} {L A B X Y : Lv} (hE : E0 w v L A B) (hB : Below v.heap.size v W) (ax : LvAt W X) (aY : LvAt W Y) (hx : X.l = A.l) (hy : Y.l = B.l) :
    XyTo w (aL (aL W Y) X) L A B (.pointer (some ⟨W.heap.size + 1, 0, none⟩)) (.pointer (some ⟨W.heap.size, 0, none⟩)) := by
  have hb : Below W.heap.size W (aL (aL W Y) X) := ((Below.refl _ W).alloc (Nat.le_refl _) _).alloc (by simp) _
  have h1 : LvBlk (aL W Y) W.heap.size Y := heap_new _ _
  exact ⟨X, Y, _, _, rfl, rfl, hE.step (below2 hB hb hB.size), heap_new2 _ _ _, h1.below ((Below.refl _ _).alloc (Nat.le_refl _) _), ax.below hb, aY.below hb, hx, hy⟩
def Off (v : Lv) (p : Nat) : Prop := (∀ k ∈ ob v.ia, k ≠ p) ∧ (∀ k ∈ ob v.ta, k ≠ p)
theorem Fr.off {lo hi p : Nat} {v : Lv} (h : Fr lo hi v) (hp : p < lo ∨ hi ≤ p) : Off v p := ⟨fun k hk => by have := h.1 k hk; omega, fun k hk => by have := h.2 k hk; omega⟩
theorem LvAt.nine {w : World} {v : Lv} (h : LvAt w v) {p : Nat} (ho : Off v p) (X : Lv) : LvAt (nineL w p X) v := h.chg (chg_lv w p X) (fun k hk => by simpa using ho.1 k hk) (fun k hk => by simpa using ho.2 k hk)
/-- x's block old, y's new -/
theorem end_on {w v W : World} {L A B X Y : Lv} {px : Nat} (hE : E0 w v L A B) (hB : Below v.heap.size v W) (hz : Zc W px) (hp : v.heap.size ≤ px) (ox : Off X px) (oy : Off Y px) (ax : LvAt W X) (aY : LvAt W Y) (hx : X.l = A.l) (hy : Y.l = B.l) :
    XyTo w (aL (nineL W px X) Y) L A B (.pointer (some ⟨px, 0, none⟩)) (.pointer (some ⟨W.heap.size, 0, none⟩)) := by
  have hb := (Below.refl (nineL W px X).heap.size (nineL W px X)).alloc (Nat.le_refl _) (.cells (lcells Y.l Y.ia Y.ic Y.ta Y.tc) 40)
  have hn := heap_new (nineL W px X) (.cells (lcells Y.l Y.ia Y.ic Y.ta Y.tc) 40)
  rw [size_lv] at hn
  exact ⟨X, Y, _, _, rfl, rfl, hE.step ((below_lv hB hp X).alloc (by rw [size_lv]; exact hB.size) _), (put_lv hz X).below hb, hn, (ax.nine ox X).below hb, (aY.nine oy X).below hb, hx, hy⟩
/-- y's block old, x's new -/
theorem end_no {w v W : World} {L A B X Y : Lv} {py : Nat} (hE : E0 w v L A B) (hB : Below v.heap.size v W) (hz : Zc W py) (hp : v.heap.size ≤ py) (ox : Off X py) (oy : Off Y py) (ax : LvAt W X) (aY : LvAt W Y) (hx : X.l = A.l) (hy : Y.l = B.l) :
    XyTo w (aL (nineL W py Y) X) L A B (.pointer (some ⟨W.heap.size, 0, none⟩)) (.pointer (some ⟨py, 0, none⟩)) := by
  have hb := (Below.refl (nineL W py Y).heap.size (nineL W py Y)).alloc (Nat.le_refl _) (.cells (lcells X.l X.ia X.ic X.ta X.tc) 40)
  have hn := heap_new (nineL W py Y) (.cells (lcells X.l X.ia X.ic X.ta X.tc) 40)
  rw [size_lv] at hn
  exact ⟨X, Y, _, _, rfl, rfl, hE.step ((below_lv hB hp Y).alloc (by rw [size_lv]; exact hB.size) _), hn, (put_lv hz Y).below hb, (ax.nine ox Y).below hb, (aY.nine oy Y).below hb, hx, hy⟩
/-- both old -/
theorem end_oo {w v W : World} {L A B X Y : Lv} {px py : Nat} (hE : E0 w v L A B) (hB : Below v.heap.size v W) (hz : Zc W px) (hz' : Zc W py) (hp : v.heap.size ≤ px) (hp' : v.heap.size ≤ py) (hne : px ≠ py) (ox : Off X px) (oy : Off Y px) (ox' : Off X py) (oy' : Off Y py) (ax : LvAt W X) (aY : LvAt W Y) (hx : X.l = A.l) (hy : Y.l = B.l) :
    XyTo w (nineL (nineL W px X) py Y) L A B (.pointer (some ⟨px, 0, none⟩)) (.pointer (some ⟨py, 0, none⟩)) := by
  have h1 : Zc (nineL W px X) py := heap_chg hz' (chg_lv W px X) (by simp; omega)
  exact ⟨X, Y, _, _, rfl, rfl, hE.step (below_lv (below_lv hB hp X) hp' Y), heap_chg (put_lv hz X) (chg_lv _ py Y) (by simp; omega), put_lv h1 Y, (ax.nine ox X).nine ox' Y, (aY.nine oy X).nine oy' Y, hx, hy⟩
end Go.Proofs.Ytmabjghjkgicgaa
