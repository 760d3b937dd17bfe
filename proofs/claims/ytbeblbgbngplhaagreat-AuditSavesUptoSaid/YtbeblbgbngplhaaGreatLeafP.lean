/- Leaves in plain words: which may be, items at their place, tombs, what merges them. No program in sight. -/
import Derived.Test.YtbeblbgbngplhaaGreatDotP
namespace Go.Proofs.YtbeblbgbngplhaaGreat
set_option linter.unusedVariables false
set_option linter.unusedSimpArgs false

theorem lessD_iff (a b : Dt) : lessD a b = true ↔ (a.1.1 < b.1.1 ∨ a.1.1 = b.1.1 ∧ (a.1.2 < b.1.2 ∨ a.1.2 = b.1.2 ∧ a.2 < b.2)) := by simp [lessD]
theorem lessD_irrefl (a : Dt) : lessD a a = false := by
  cases h : lessD a a with
  | false => rfl
  | true => rw [lessD_iff] at h; omega
theorem lessD_trans {a b c : Dt} (h : lessD a b = true) (k : lessD b c = true) : lessD a c = true := by rw [lessD_iff] at *; omega
theorem lessD_total {a b : Dt} (h : a ≠ b) : lessD a b = true ∨ lessD b a = true := by
  obtain ⟨⟨r, i⟩, s⟩ := a
  obtain ⟨⟨r', i'⟩, s'⟩ := b
  rw [lessD_iff, lessD_iff]
  simp only [ne_eq, Prod.mk.injEq, not_and] at *
  omega

/-- an item: its time, its dot, its text -/
structure It where
  t : Int
  d : Dt
  x : ByteArray
/-- a leaf -/
structure Lf where
  k : Int
  n : Int
  t : Int
  d : Dt
  x : ByteArray
  items : List It
  tombs : List Dt

/-- which of two times and dots is ahead -/
def aheadT (t : Int) (d : Dt) (u : Int) (o : Dt) : Bool := decide (t < u) || (decide (t = u) && lessD d o)
theorem aheadT_iff (t : Int) (d : Dt) (u : Int) (o : Dt) : aheadT t d u o = true ↔ (t < u ∨ t = u ∧ lessD d o = true) := by simp [aheadT]
theorem aheadT_trans {t u v : Int} {d o p : Dt} (h : aheadT t d u o = true) (k : aheadT u o v p = true) : aheadT t d v p = true := by
  rw [aheadT_iff] at *
  rcases h with h | ⟨rfl, h⟩
  · rcases k with k | ⟨rfl, k⟩
    · exact .inl (by omega)
    · exact .inl h
  · rcases k with k | ⟨rfl, k⟩
    · exact .inl k
    · exact .inr ⟨rfl, lessD_trans h k⟩
def ltI (a b : It) : Prop := aheadT a.t a.d b.t b.d = true
theorem ltI_trans {a b c : It} (h : ltI a b) (k : ltI b c) : ltI a c := aheadT_trans h k
def ltD (a b : Dt) : Prop := lessD a b = true
theorem ltD_trans {a b c : Dt} (h : ltD a b) (k : ltD b c) : ltD a c := lessD_trans h k

/-- one behind the other: all of them -/
theorem chain_pairwise {α : Type} {lt : α → α → Prop} (ht : ∀ {a b c}, lt a b → lt b c → lt a c) {l : List α} (h : ∀ i x y, l[i]? = some x → l[i + 1]? = some y → lt x y) : l.Pairwise lt := by
  rw [List.pairwise_iff_getElem]
  intro i j hi hj hij
  obtain ⟨m, rfl⟩ : ∃ m, j = i + 1 + m := ⟨j - (i + 1), by omega⟩
  clear hij
  induction m with
  | zero => exact h i _ _ (List.getElem?_eq_getElem hi) (List.getElem?_eq_getElem hj)
  | succ m ih =>
    have h1 : i + 1 + m < l.length := by omega
    exact ht (ih h1) (h (i + 1 + m) _ _ (List.getElem?_eq_getElem h1) (List.getElem?_eq_getElem hj))
theorem pairwise_next {α : Type} {lt : α → α → Prop} {l : List α} (h : l.Pairwise lt) {i : Nat} {x y : α} (hx : l[i]? = some x) (hy : l[i + 1]? = some y) : lt x y := by
  obtain ⟨h1, rfl⟩ := List.getElem?_eq_some_iff.1 hx
  obtain ⟨h2, rfl⟩ := List.getElem?_eq_some_iff.1 hy
  exact List.pairwise_iff_getElem.1 h i (i + 1) h1 h2 (by omega)

/-- items that may be, of a set (no times) or of a log -/
def OkItem (timed : Bool) (x : It) : Prop := may x.d = true ∧ x.x.size ≤ 40 ∧ (timed = true → 1 ≤ x.t ∧ x.t ≤ 1099511627776) ∧ (timed = false → x.t = 0)
def dotsOf (l : List It) : List Dt := l.map (·.d)
def MayItems (timed : Bool) (l : List It) : Prop := (∀ x ∈ l, OkItem timed x) ∧ l.Pairwise ltI ∧ (dotsOf l).Nodup
def MayTombs (l : List Dt) (items : List It) : Prop := (∀ d ∈ l, may d = true) ∧ l.Pairwise ltD ∧ ∀ d ∈ l, d ∉ dotsOf items
def noDot : Dt := ((0, 0), 0)
/-- a register that may be -/
def MayReg (t : Int) (d : Dt) (x : ByteArray) : Prop := (t = 0 ∧ d = noDot ∧ x.size = 0) ∨ (t ≠ 0 ∧ t ≤ 1099511627776 ∧ may d = true ∧ x.size ≤ 40)
def NoReg (l : Lf) : Prop := l.t = 0 ∧ l.d = noDot ∧ l.x.size = 0
/-- a leaf that may be -/
def MayLf (l : Lf) : Prop :=
  (l.k = 1 ∧ NoReg l ∧ l.items = [] ∧ l.tombs = []) ∨
  (l.k = 2 ∧ l.n = 0 ∧ MayReg l.t l.d l.x ∧ l.items = [] ∧ l.tombs = []) ∨
  (l.k = 3 ∧ l.n = 0 ∧ NoReg l ∧ MayItems false l.items ∧ MayTombs l.tombs l.items) ∨
  (l.k = 4 ∧ l.n = 0 ∧ NoReg l ∧ MayItems true l.items ∧ l.tombs = [])
theorem MayLf.kind {l : Lf} (h : MayLf l) : l.k = 1 ∨ l.k = 2 ∨ l.k = 3 ∨ l.k = 4 := by
  rcases h with h | h | h | h
  · exact .inl h.1
  · exact .inr (.inl h.1)
  · exact .inr (.inr (.inl h.1))
  · exact .inr (.inr (.inr h.1))

/-! an item at its place, a tomb at its place, what is left -/
theorem mem_dotsOf {d : Dt} {l : List It} : d ∈ dotsOf l ↔ ∃ x ∈ l, x.d = d := by simp [dotsOf]
/-! the merge -/
def isU (x : Int) : Prop := 0 ≤ x ∧ x ≤ 18446744073709551615
end Go.Proofs.YtbeblbgbngplhaaGreat
