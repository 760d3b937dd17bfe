/- A leaf, and where its items and tombs lie. -/
import Derived.Test.YtmabjghjkgicgaaGreatRefLA
namespace Go.Proofs.YtmabjghjkgicgaaGreat
open Go.RowKit
set_option linter.unusedVariables false
set_option linter.unusedSimpArgs false

/-- a leaf, and where its items and tombs lie -/
structure Lv where
  l : Lf
  ia : Option Addr
  ic : Nat
  ta : Option Addr
  tc : Nat
def LvAt (w : World) (v : Lv) : Prop := LfAt w v.l v.ia v.ic v.ta v.tc
def LvBlk (w : World) (p : Nat) (v : Lv) : Prop := w.heap[p]? = some (.cells (lcells v.l v.ia v.ic v.ta v.tc) 48 (0, 0))
theorem LvBlk.lt {w : World} {p : Nat} {v : Lv} (h : LvBlk w p v) : p < w.heap.size := heap_lt h
theorem LvBlk.below {w w' : World} {p : Nat} {v : Lv} (h : LvBlk w p v) (hb : Below w.heap.size w w') : LvBlk w' p v := (hb.block _ (heap_lt h)).trans h
theorem LvAt.below {w w' : World} {v : Lv} (h : LvAt w v) (hb : Below w.heap.size w w') : LvAt w' v := LfAt.below h hb
theorem LvAt.chg {F : List Nat} {w w' : World} {v : Lv} (h : LvAt w v) (hc : Chg F w w') (h1 : ∀ k ∈ ob v.ia, k ∉ F) (h2 : ∀ k ∈ ob v.ta, k ∉ F) : LvAt w' v := ⟨Sl.chg h.its hc h1, Sl.chg h.tms hc h2, h.li, h.lt⟩
def Zc (w : World) (p : Nat) : Prop := w.heap[p]? = some (.cells #[.int .u8 0, .int .i64 0, .int .u64 0, .int .u8 0, .int .u32 0, .int .u64 0, .string ⟨#[]⟩, .slice none 0 0, .slice none 0 0] 48 (0, 0))
theorem Zc.below {w w' : World} {p : Nat} (h : Zc w p) (hb : Below w.heap.size w w') : Zc w' p := (hb.block _ (heap_lt h)).trans h
theorem heap_set {w : World} {p : Nat} {C : Array Value} {t : TypeId} (h : w.heap[p]? = some (.cells C t (0, 0))) (j : Nat) (x : Value) : (w.setCell ⟨p, j, none⟩ x).heap[p]? = some (.cells (C.setIfInBounds j x) t (0, 0)) := Go.heap_setCell_same w p j _ _ x h
theorem Chg.set {F : List Nat} {w w' : World} (h : Chg F w w') (p : Addr) (x : Value) (hp : p.block ∈ F) : Chg F w (w'.setCell p x) :=
  h.trans (Chg.setCell w' p x) (fun k hk _ => by simp at hk; subst hk; exact hp)
def zcells1 : Array Value := #[.int .u8 0, .int .i64 0, .int .u64 0, .int .u8 0, .int .u32 0, .int .u64 0, .string ⟨#[]⟩, .slice none 0 0, .slice none 0 0]
theorem chg_nine' (s : Nat) (W : World) (x0 x1 x2 x3 x4 x5 x6 x7 x8 : Value) : Chg [s] W (((((((((W.setCell ⟨s, 0, none⟩ x0).setCell ⟨s, 1, none⟩ x1).setCell ⟨s, 2, none⟩ x2).setCell ⟨s, 3, none⟩ x3).setCell ⟨s, 4, none⟩ x4).setCell ⟨s, 5, none⟩ x5).setCell ⟨s, 6, none⟩ x6).setCell ⟨s, 7, none⟩ x7).setCell ⟨s, 8, none⟩ x8) := by
  have st : ∀ {A B : World} (j : Nat) (x : Value), Chg [s] A B → Chg [s] A (B.setCell ⟨s, j, none⟩ x) := fun {A B} j x h => h.trans (Chg.setCell B ⟨s, j, none⟩ x) (by simp)
  exact st _ _ (st _ _ (st _ _ (st _ _ (st _ _ (st _ _ (st _ _ (st _ _ (st _ _ (Chg.refl _ _)))))))))
end Go.Proofs.YtmabjghjkgicgaaGreat
