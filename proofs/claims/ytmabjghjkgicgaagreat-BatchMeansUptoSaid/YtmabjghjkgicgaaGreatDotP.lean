/- Vectors in plain words: numbers of actors, canonical forms, joins, meets; and the document's ways to them. No program in sight. -/
import Derived.Test.YtmabjghjkgicgaaGreatRows
namespace Go.Proofs.YtmabjghjkgicgaaGreat
set_option linter.unusedVariables false
set_option linter.unusedSimpArgs false

/-- an actor: its replica, its life; a dot: its actor, its number -/
abbrev Ac := Int × Int
abbrev Dt := Ac × Int
def okA (a : Ac) : Prop := (0 ≤ a.1 ∧ a.1 ≤ 255) ∧ 0 ≤ a.2 ∧ a.2 ≤ 4294967295
def okD (d : Dt) : Prop := okA d.1 ∧ 0 ≤ d.2 ∧ d.2 ≤ 18446744073709551615
def okV (v : List Dt) : Prop := ∀ d ∈ v, okD d
def mayA (a : Ac) : Bool := decide (a.1 < 16 ∧ 1 ≤ a.2 ∧ a.2 ≤ 4)
def may (d : Dt) : Bool := mayA d.1 && decide (1 ≤ d.2 ∧ d.2 ≤ 1048576)
theorem may_iff (d : Dt) : may d = true ↔ mayA d.1 = true ∧ 1 ≤ d.2 ∧ d.2 ≤ 1048576 := by simp [may]

/-- rising lists with the same members are the same -/
theorem rising_ext {α : Type} {lt : α → α → Prop} (hi : ∀ a, ¬ lt a a) (ht : ∀ {a b c}, lt a b → lt b c → lt a c) : ∀ {l₁ l₂ : List α}, l₁.Pairwise lt → l₂.Pairwise lt → (∀ a, a ∈ l₁ ↔ a ∈ l₂) → l₁ = l₂
  | [], [], _, _, _ => rfl
  | [], b :: l, _, _, h => absurd ((h b).2 (by simp)) (by simp)
  | a :: l, [], _, _, h => absurd ((h a).1 (by simp)) (by simp)
  | a :: l, b :: m, h1, h2, h => by
    obtain ⟨p1, p2⟩ := List.pairwise_cons.1 h1
    obtain ⟨q1, q2⟩ := List.pairwise_cons.1 h2
    have hab : a = b := by
      rcases List.mem_cons.1 ((h a).1 (by simp)) with e | e
      · exact e
      · rcases List.mem_cons.1 ((h b).2 (by simp)) with e' | e'
        · exact e'.symm
        · exact absurd (ht (q1 a e) (p1 b e')) (hi _)
    subst hab
    congr 1
    refine rising_ext hi ht p2 q2 fun x => ?_
    constructor
    · intro hx
      rcases List.mem_cons.1 ((h x).1 (List.mem_cons_of_mem _ hx)) with rfl | e
      · exact absurd (p1 _ hx) (hi _)
      · exact e
    · intro hx
      rcases List.mem_cons.1 ((h x).2 (List.mem_cons_of_mem _ hx)) with rfl | e
      · exact absurd (q1 _ hx) (hi _)
      · exact e

theorem snoc_rec {α : Type} {P : List α → Prop} (h0 : P []) (h1 : ∀ l a, P l → P (l ++ [a])) (l : List α) : P l := by
  have : ∀ n (l : List α), l.length = n → P l := by
    intro n
    induction n with
    | zero => intro l h; rw [List.eq_nil_of_length_eq_zero h]; exact h0
    | succ n ih =>
      intro l h
      have hne : l ≠ [] := by intro e; subst e; simp at h
      rw [← List.dropLast_concat_getLast hne]
      exact h1 _ _ (ih _ (by simp [h]))
  exact this _ l rfl
/-! the laws of DotOrder -/
/-! the document's ways to the same -/
def lessD (a b : Dt) : Bool := decide (a.1.1 < b.1.1 ∨ a.1.1 = b.1.1 ∧ (a.1.2 < b.1.2 ∨ a.1.2 = b.1.2 ∧ a.2 < b.2))
def cmpD (a b : Dt) : Int := if lessD a b = true then -1 else if lessD b a = true then 1 else 0
end Go.Proofs.YtmabjghjkgicgaaGreat
