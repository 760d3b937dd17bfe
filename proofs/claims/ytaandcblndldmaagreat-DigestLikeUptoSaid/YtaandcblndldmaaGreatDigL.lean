/- What holds of two histories of which one was put into the other's graph first. No program in sight. -/
import Derived.Test.YtaandcblndldmaaGreatLwV
import Derived.Test.YtaandcblndldmaaGreatDigB
namespace Go.Proofs.YtaandcblndldmaaGreat
open Go.RowKit
set_option linter.unusedVariables false
set_option linter.unusedSimpArgs false

theorem auF_grow (F : List Dt) (S : List Cm) : ∀ T : List Cm, ∀ c ∈ (auF F S).L, c ∈ (auF F (S ++ T)).L := by
  intro T
  induction T using snoc_rec with
  | h0 => rw [List.append_nil]; exact fun c hc => hc
  | h1 T x ih =>
    intro c hc
    rw [← List.append_assoc, auF_snoc]
    unfold auStep
    split
    · exact List.mem_append_left _ (ih c hc)
    · exact ih c hc
/-- what the document tells of a graph, and more behind it: all of it is there -/
theorem auF_has {F : List Dt} (hF : okV F) (hc : canonV F = F) {cs S T : List Cm} (h : ∀ c ∈ cs, okV c.vv) (hp : S.Perm (auF F cs).L) (hs : SortedC S) (hl : S.length ≤ 200) : ∀ c ∈ S, c ∈ (auF F (S ++ T)).L := by
  have h1 := (auF_sorted hF hc h hp hs hl).2
  intro c hc
  exact auF_grow F S T c (by rw [h1]; exact hc)
end Go.Proofs.YtaandcblndldmaaGreat
