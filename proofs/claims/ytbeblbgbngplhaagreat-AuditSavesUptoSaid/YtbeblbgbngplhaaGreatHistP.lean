/- What holds of all commits that were inserted, plainly. No program in sight. -/
import Derived.Test.YtbeblbgbngplhaaGreatGraQ
namespace Go.Proofs.YtbeblbgbngplhaaGreat
open Go.RowKit
set_option linter.unusedVariables false
set_option linter.unusedSimpArgs false

theorem insE_zero {F : List Dt} {fd : Fd} {n : Nat} {c : Cm} (h : insE F fd n c = 0) : CmP c ∧ hasG F fd c.d = false ∧ GapP F fd c ∧ ((∀ x, knN F fd c c.ps x ≤ getN c.vv x) ∧ FollowsP F fd c) ∧ n < 200 := by
  by_cases h1 : CmP c
  rotate_left
  · rw [insE_may h1] at h; cases h
  cases h2 : hasG F fd c.d with
  | true => rw [insE_twice h1 h2] at h; cases h
  | false =>
    by_cases h3 : GapP F fd c
    rotate_left
    · rw [insE_gap h1 h2 h3] at h; cases h
    by_cases h4 : (∀ x, knN F fd c c.ps x ≤ getN c.vv x) ∧ FollowsP F fd c
    rotate_left
    · rw [insE_form h1 h2 h3 h4] at h; cases h
    by_cases h5 : 200 ≤ n
    · rw [insE_full h1 h2 h3 h4 h5] at h; cases h
    exact ⟨h1, rfl, h3, h4, by omega⟩
end Go.Proofs.YtbeblbgbngplhaaGreat
