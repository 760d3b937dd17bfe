/- graph.Heads: contract. | graph.Time; a graph that is not there, or was not made. -/
import Derived.Test.YthdmoplclllhjaaGreatGraL
/- GraM -/
namespace Go.Proofs.YthdmoplclllhjaaGreat
open Go.RowKit
set_option linter.unusedVariables false
set_option linter.unusedSimpArgs false

theorem strict_of {l : List Dt} (h : l.Pairwise fun x y => lessD y x = false) (hn : l.Nodup) : l.Pairwise ltD := by
  refine (h.and hn).imp ?_
  rintro a b ⟨h1, h2⟩
  rcases lessD_total h2 with h3 | h3
  · exact h3
  · rw [h3] at h1; cases h1
end Go.Proofs.YthdmoplclllhjaaGreat

/- GraN -/
namespace Go.Proofs.YthdmoplclllhjaaGreat
open Go.RowKit
set_option linter.unusedVariables false
set_option linter.unusedSimpArgs false

/-- the greatest time -/
def TimeP (t0 : Int) (L : List Cm) (n : Int) : Prop := t0 ≤ n ∧ (∀ c ∈ L, c.t ≤ n) ∧ (n = t0 ∨ ∃ c ∈ L, c.t = n)
theorem TimeP.uniq {t0 : Int} {L : List Cm} {n k : Int} (h : TimeP t0 L n) (h' : TimeP t0 L k) : n = k := by
  obtain ⟨a1, a2, a3⟩ := h
  obtain ⟨b1, b2, b3⟩ := h'
  rcases a3 with rfl | ⟨c, hc, rfl⟩
  · rcases b3 with rfl | ⟨d, hd, rfl⟩
    · rfl
    · have := a2 d hd; omega
  · have h1 := b2 c hc
    rcases b3 with rfl | ⟨d, hd, rfl⟩
    · omega
    · have := a2 d hd; omega
end Go.Proofs.YthdmoplclllhjaaGreat
