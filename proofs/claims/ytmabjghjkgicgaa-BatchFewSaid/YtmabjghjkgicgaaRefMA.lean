/- The reference's merge in plain words: tombs buried one by one, items laid one by one. No program in sight. -/
import Derived.Test.YtmabjghjkgicgaaLeafP
namespace Go.Proofs.Ytmabjghjkgicgaa
set_option linter.unusedVariables false
set_option linter.unusedSimpArgs false

def buryAll (l m : List Dt) : List Dt := m.foldl buryP l
def layAll (l m : List It) : List It := m.foldl layP l
theorem buryAll_snoc (l m : List Dt) (d : Dt) : buryAll l (m ++ [d]) = buryP (buryAll l m) d := by simp [buryAll, List.foldl_append]
theorem layAll_snoc (l m : List It) (x : It) : layAll l (m ++ [x]) = layP (layAll l m) x := by simp [layAll, List.foldl_append]
theorem buryAll_up {l m : List Dt} (h : l.Pairwise ltD) : (buryAll l m).Pairwise ltD := by
  induction m using snoc_rec with
  | h0 => exact h
  | h1 m a ih => rw [buryAll_snoc]; exact buryP_pairwise ih
theorem mem_buryAll {l m : List Dt} {d : Dt} : d ∈ buryAll l m ↔ d ∈ l ∨ d ∈ m := by
  induction m using snoc_rec with
  | h0 => simp [buryAll]
  | h1 m a ih => rw [buryAll_snoc, mem_buryP, ih, List.mem_append, List.mem_singleton, or_assoc]
theorem layAll_up {l m : List It} (h : l.Pairwise ltI) : (layAll l m).Pairwise ltI := by
  induction m using snoc_rec with
  | h0 => exact h
  | h1 m a ih => rw [layAll_snoc]; exact layP_pairwise ih
theorem mem_layAll {l m : List It} (hm : (dotsOf m).Nodup) (x : It) : x ∈ layAll l m ↔ x ∈ l ∨ (x ∈ m ∧ x.d ∉ dotsOf l) := by
  induction m using snoc_rec generalizing x with
  | h0 => simp [layAll]
  | h1 m a ih =>
    have e1 : dotsOf (m ++ [a]) = dotsOf m ++ [a.d] := by simp [dotsOf]
    rw [e1, List.nodup_append] at hm
    have ih := ih hm.1
    have ha : a.d ∉ dotsOf m := fun h => hm.2.2 a.d h a.d (by simp) rfl
    have hd : a.d ∈ dotsOf (layAll l m) ↔ a.d ∈ dotsOf l := by
      rw [mem_dotsOf, mem_dotsOf]
      constructor
      · rintro ⟨y, hy, e⟩
        rcases (ih y).1 hy with h | ⟨h, _⟩
        · exact ⟨y, h, e⟩
        · exact absurd (mem_dotsOf.2 ⟨y, h, e⟩) ha
      · rintro ⟨y, hy, e⟩
        exact ⟨y, (ih y).2 (.inl hy), e⟩
    rw [layAll_snoc, mem_layP, ih, hd, List.mem_append, List.mem_singleton]
    constructor
    · rintro ((h | ⟨h1, h2⟩) | ⟨rfl, h⟩)
      · exact .inl h
      · exact .inr ⟨.inl h1, h2⟩
      · exact .inr ⟨.inr rfl, h⟩
    · rintro (h | ⟨h1 | rfl, h2⟩)
      · exact .inl (.inl h)
      · exact .inl (.inr ⟨h1, h2⟩)
      · exact .inr ⟨rfl, h2⟩
theorem buryP_len (l : List Dt) (d : Dt) : (buryP l d).length ≤ l.length + 1 := by
  unfold buryP
  split
  · omega
  · have := congrArg List.length (List.takeWhile_append_dropWhile (p := fun y => lessD y d) (l := l))
    rw [List.length_append] at this
    rw [List.length_append, List.length_cons]
    omega
theorem layP_len (l : List It) (x : It) : (layP l x).length ≤ l.length + 1 := by
  unfold layP
  split
  · omega
  · have := congrArg List.length (List.takeWhile_append_dropWhile (p := fun y => aheadT y.t y.d x.t x.d) (l := l))
    rw [List.length_append] at this
    rw [List.length_append, List.length_cons]
    omega
theorem buryAll_len (l m : List Dt) : (buryAll l m).length ≤ l.length + m.length := by
  induction m using snoc_rec with
  | h0 => simp [buryAll]
  | h1 m a ih => rw [buryAll_snoc]; have := buryP_len (buryAll l m) a; simp; omega
theorem layAll_len (l m : List It) : (layAll l m).length ≤ l.length + m.length := by
  induction m using snoc_rec with
  | h0 => simp [layAll]
  | h1 m a ih => rw [layAll_snoc]; have := layP_len (layAll l m) a; simp; omega
theorem ref_tombs (a b : List Dt) : TombsOf a b (buryAll (buryAll [] a) b) := ⟨buryAll_up (buryAll_up .nil), fun d => by rw [mem_buryAll, mem_buryAll]; simp⟩
theorem ref_items {a b : List It} {ts : List Dt} (ha : a.Pairwise ltI) (hb : (dotsOf b).Nodup) : ItemsOf a b ts (leftP (layAll a b) ts) :=
  ⟨(layAll_up ha).sublist (List.filter_sublist ..), fun x => by rw [mem_leftP, mem_layAll hb]⟩
end Go.Proofs.Ytmabjghjkgicgaa
