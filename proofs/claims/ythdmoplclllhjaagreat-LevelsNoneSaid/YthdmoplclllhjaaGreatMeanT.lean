/- What operations come to at a path, and that the few come to the same. No program in sight. | What a tree's leaves answer behind operations that are done by new dots: it hangs on what the operations come to. No program in sight. | The same for sets and logs; what is answered. No program in sight. | A leaf, and where its items and tombs lie. | Trees in plain words: which may be, what is found at a path, a leaf laid at a path. No program in sight. -/
import Derived.Test.YthdmoplclllhjaaGreatBatA
import Derived.Test.YthdmoplclllhjaaGreatRefLA
/- MeanP -/


/- MeanQ -/
namespace Go.Proofs.YthdmoplclllhjaaGreat
set_option linter.unusedVariables false
set_option linter.unusedSimpArgs false

/-! the order of names -/
def ltS (a b : ByteArray) : Bool := Op.bytesLess a.toList b.toList
theorem bl_irrefl : ∀ x : List UInt8, Op.bytesLess x x = false
  | [] => by simp [Op.bytesLess]
  | a :: x => by simp [Op.bytesLess, bl_irrefl x]
theorem ltS_irrefl (a : ByteArray) : ltS a a = false := bl_irrefl _
/-! leaves behind operations -/
end Go.Proofs.YthdmoplclllhjaaGreat

/- MeanR -/


/- LvA -/
namespace Go.Proofs.YthdmoplclllhjaaGreat
open Go.RowKit
set_option linter.unusedVariables false
set_option linter.unusedSimpArgs false

/-- a leaf, and where its items and tombs lie -/
structure Lv where
  l : Lf
  ia : Option Addr
  ic : Nat
  ta : Option Addr
  tc : Nat
def LvAt (w : World) (v : Lv) : Prop := LfAt w v.l v.ia v.ic v.ta v.tc
def LvBlk (w : World) (p : Nat) (v : Lv) : Prop := w.heap[p]? = some (.cells (lcells v.l v.ia v.ic v.ta v.tc) 157 (0, 0))
theorem LvBlk.lt {w : World} {p : Nat} {v : Lv} (h : LvBlk w p v) : p < w.heap.size := heap_lt h
theorem LvBlk.below {w w' : World} {p : Nat} {v : Lv} (h : LvBlk w p v) (hb : Below w.heap.size w w') : LvBlk w' p v := (hb.block _ (heap_lt h)).trans h
theorem LvAt.below {w w' : World} {v : Lv} (h : LvAt w v) (hb : Below w.heap.size w w') : LvAt w' v := LfAt.below h hb
theorem LvAt.chg {F : List Nat} {w w' : World} {v : Lv} (h : LvAt w v) (hc : Chg F w w') (h1 : ∀ k ∈ ob v.ia, k ∉ F) (h2 : ∀ k ∈ ob v.ta, k ∉ F) : LvAt w' v := ⟨Sl.chg h.its hc h1, Sl.chg h.tms hc h2, h.li, h.lt⟩
def Zc (w : World) (p : Nat) : Prop := w.heap[p]? = some (.cells #[.int .u8 0, .int .i64 0, .int .u64 0, .int .u8 0, .int .u32 0, .int .u64 0, .string ⟨#[]⟩, .slice none 0 0, .slice none 0 0] 157 (0, 0))
theorem Zc.below {w w' : World} {p : Nat} (h : Zc w p) (hb : Below w.heap.size w w') : Zc w' p := (hb.block _ (heap_lt h)).trans h
theorem heap_set {w : World} {p : Nat} {C : Array Value} {t : TypeId} (h : w.heap[p]? = some (.cells C t (0, 0))) (j : Nat) (x : Value) : (w.setCell ⟨p, j, none⟩ x).heap[p]? = some (.cells (C.setIfInBounds j x) t (0, 0)) := Go.heap_setCell_same w p j _ _ x h
theorem Chg.set {F : List Nat} {w w' : World} (h : Chg F w w') (p : Addr) (x : Value) (hp : p.block ∈ F) : Chg F w (w'.setCell p x) :=
  h.trans (Chg.setCell w' p x) (fun k hk _ => by simp at hk; subst hk; exact hp)
end Go.Proofs.YthdmoplclllhjaaGreat

/- MeanT -/
namespace Go.Proofs.YthdmoplclllhjaaGreat
set_option linter.unusedVariables false
set_option linter.unusedSimpArgs false

/-- a node, and where its leaves and what is below it lie -/
inductive Nd where
  | mk (name : ByteArray) (la : Option Addr) (lc : Nat) (ls : List Lv) (ba : Option Addr) (bc : Nat) (kids : List Nd) : Nd
def Nd.name : Nd → ByteArray | .mk x _ _ _ _ _ _ => x
def Nd.la : Nd → Option Addr | .mk _ x _ _ _ _ _ => x
def Nd.lc : Nd → Nat | .mk _ _ x _ _ _ _ => x
def Nd.ls : Nd → List Lv | .mk _ _ _ x _ _ _ => x
def Nd.ba : Nd → Option Addr | .mk _ _ _ _ x _ _ => x
def Nd.bc : Nd → Nat | .mk _ _ _ _ _ x _ => x
def Nd.kids : Nd → List Nd | .mk _ _ _ _ _ _ x => x
def noNd (s : ByteArray) : Nd := .mk s none 0 [] none 0 []
def MayLs (ls : List Lv) : Prop := (∀ v ∈ ls, MayLf v.l) ∧ ls.Pairwise (fun a b => a.l.k < b.l.k)
def risesN (T : List Nd) : Prop := T.Pairwise (fun a b => ltS a.name b.name = true)
/-- a tree that may be, at most so deep -/
def MayT : Nat → List Nd → Prop
  | 0, T => T = []
  | n + 1, T => risesN T ∧ ∀ x ∈ T, NameP x.name ∧ (x.ls ≠ [] ∨ x.kids ≠ []) ∧ MayT n x.kids ∧ MayLs x.ls
theorem MayT.nil (n : Nat) : MayT n [] := by
  cases n with
  | zero => rfl
  | succ n => exact ⟨List.Pairwise.nil, fun x hx => by cases hx⟩
def findN (T : List Nd) (s : ByteArray) : Option Nd := T.find? fun x => decide (x.name = s)
/-! a leaf laid at a path -/
theorem ltS_ne {a b : ByteArray} (h : ltS a b = true) : a ≠ b := fun e => by rw [e, ltS_irrefl] at h; cases h
/-- where a name stands, or is to stand -/
structure CutN (T A R : List Nd) (s : ByteArray) (old : Nd) : Prop where
  pre : ∀ x ∈ A, ltS x.name s = true
  suf : ∀ x ∈ R, ltS s x.name = true
  all : (T = A ++ old :: R ∧ old.name = s) ∨ (T = A ++ R ∧ old = noNd s)
theorem CutN.find {T A R : List Nd} {s : ByteArray} {old : Nd} (h : CutN T A R s old) (y : Nd) (hy : y.name = s) (u : ByteArray) (hu : u ≠ s) : findN (A ++ y :: R) u = findN T u := by
  have hyu : ¬ y.name = u := fun e => hu (by rw [← e, hy])
  rcases h.all with ⟨rfl, ho⟩ | ⟨rfl, ho⟩
  · have hou : ¬ old.name = u := fun e => hu (by rw [← e, ho])
    unfold findN
    rw [List.find?_append, List.find?_append, List.find?_cons_of_neg (by simpa using hyu), List.find?_cons_of_neg (by simpa using hou)]
  · unfold findN
    rw [List.find?_append, List.find?_append, List.find?_cons_of_neg (by simpa using hyu)]
theorem CutN.here {T A R : List Nd} {s : ByteArray} {old : Nd} (h : CutN T A R s old) (y : Nd) (hy : y.name = s) : findN (A ++ y :: R) s = some y := by
  have hA : A.find? (fun x => decide (x.name = s)) = none := by
    rw [List.find?_eq_none]
    intro x hx
    simpa using ltS_ne (h.pre x hx)
  unfold findN
  rw [List.find?_append, hA, List.find?_cons_of_pos (by simpa using hy)]
  rfl
theorem CutN.was {T A R : List Nd} {s : ByteArray} {old : Nd} (h : CutN T A R s old) : findN T s = some old ∨ (findN T s = none ∧ old = noNd s) := by
  have hA : A.find? (fun x => decide (x.name = s)) = none := by
    rw [List.find?_eq_none]
    intro x hx
    simpa using ltS_ne (h.pre x hx)
  rcases h.all with ⟨rfl, ho⟩ | ⟨rfl, ho⟩
  · left
    unfold findN
    rw [List.find?_append, hA, List.find?_cons_of_pos (by simpa using ho)]
    rfl
  · right
    refine ⟨?_, ho⟩
    unfold findN
    rw [List.find?_append, hA]
    rw [List.find?_eq_none.2 fun x hx => by simpa using (ltS_ne (h.suf x hx)).symm]
    rfl
theorem CutN.sub {T A R : List Nd} {s : ByteArray} {old : Nd} (h : CutN T A R s old) : ∀ x, x ∈ A ++ R → x ∈ T := by
  intro x hx
  rcases h.all with ⟨rfl, _⟩ | ⟨rfl, _⟩
  · rcases List.mem_append.1 hx with hx | hx
    · exact List.mem_append.2 (.inl hx)
    · exact List.mem_append.2 (.inr (.tail _ hx))
  · exact hx
end Go.Proofs.YthdmoplclllhjaaGreat
