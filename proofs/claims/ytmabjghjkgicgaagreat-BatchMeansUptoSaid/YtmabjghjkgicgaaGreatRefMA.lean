/- The reference's merge in plain words: tombs buried one by one, items laid one by one. No program in sight. -/
import Derived.Test.YtmabjghjkgicgaaGreatLeafP
namespace Go.Proofs.YtmabjghjkgicgaaGreat
set_option linter.unusedVariables false
set_option linter.unusedSimpArgs false

def buryAll (l m : List Dt) : List Dt := m.foldl buryP l
theorem buryAll_snoc (l m : List Dt) (d : Dt) : buryAll l (m ++ [d]) = buryP (buryAll l m) d := by simp [buryAll, List.foldl_append]
theorem buryAll_up {l m : List Dt} (h : l.Pairwise ltD) : (buryAll l m).Pairwise ltD := by
  induction m using snoc_rec with
  | h0 => exact h
  | h1 m a ih => rw [buryAll_snoc]; exact buryP_pairwise ih
theorem mem_buryAll {l m : List Dt} {d : Dt} : d ∈ buryAll l m ↔ d ∈ l ∨ d ∈ m := by
  induction m using snoc_rec with
  | h0 => simp [buryAll]
  | h1 m a ih => rw [buryAll_snoc, mem_buryP, ih, List.mem_append, List.mem_singleton, or_assoc]
theorem buryP_len (l : List Dt) (d : Dt) : (buryP l d).length ≤ l.length + 1 := by
  unfold buryP
  split
  · omega
  · have := congrArg List.length (List.takeWhile_append_dropWhile (p := fun y => lessD y d) (l := l))
    rw [List.length_append] at this
    rw [List.length_append, List.length_cons]
    omega
theorem layP_len (l : List It) (x : It) : (layP l x).length ≤ l.length + 1 := by
  unfold layP
  split
  · omega
  · have := congrArg List.length (List.takeWhile_append_dropWhile (p := fun y => aheadT y.t y.d x.t x.d) (l := l))
    rw [List.length_append] at this
    rw [List.length_append, List.length_cons]
    omega
theorem buryAll_len (l m : List Dt) : (buryAll l m).length ≤ l.length + m.length := by
  induction m using snoc_rec with
  | h0 => simp [buryAll]
  | h1 m a ih => rw [buryAll_snoc]; have := buryP_len (buryAll l m) a; simp; omega
end Go.Proofs.YtmabjghjkgicgaaGreat
