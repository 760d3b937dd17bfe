/- audit.Salvage's closure: it keeps the places of what is gone. | audit.Salvage: the contract. varvelaw36.great once more. | varveref17.WithinIncs, SameIncs (as in EpoF, alone). | What is saved, and lost, plainly; audit.Lost; varveref23.SameSnap of alike snapshots. | varveref23.SameSnap of alike snapshots. -/
import Derived.Test.YtaandcblndldmaaGreatLwC
import Derived.Test.YtaandcblndldmaaGreatWitA
import Derived.Test.YtaandcblndldmaaGreatRgE
import Derived.Test.YtaandcblndldmaaGreatSamB
import Derived.Test.YtaandcblndldmaaGreatMatB
import Derived.Test.YtaandcblndldmaaGreatFilP
import Derived.Test.YtaandcblndldmaaGreatGraV
/- AudH -/
namespace Go.Proofs.YtaandcblndldmaaGreat
open Go.RowKit
set_option linter.unusedVariables false
set_option linter.unusedSimpArgs false

section
variable {w : World} {ops : Array Oper} {rest : List Oper} {o : Oper} {a : Act} {Q : Exit → Act → World → Prop}
end
end Go.Proofs.YtaandcblndldmaaGreat

/- AudI -/
namespace Go.Proofs.YtaandcblndldmaaGreat
open Go.RowKit
set_option linter.unusedVariables false
set_option linter.unnecessarySimpa false
set_option linter.unusedSimpArgs false

end Go.Proofs.YtaandcblndldmaaGreat

/- SamI -/
namespace Go.Proofs.YtaandcblndldmaaGreat
open Go.RowKit
set_option linter.unusedVariables false
set_option linter.unusedSimpArgs false

end Go.Proofs.YtaandcblndldmaaGreat

/- AudJ -/
namespace Go.Proofs.YtaandcblndldmaaGreat
open Go.RowKit
set_option linter.unusedVariables false
set_option linter.unusedSimpArgs false

theorem auF_hist {F : List Dt} (hF : okV F) (hc : canonV F = F) (cs : List Cm) (h : ∀ c ∈ cs, okV c.vv) : HistI F (auF F cs).L ∧ ∃ vv, okV vv ∧ HistP F (auF F cs).L vv := by
  induction cs using snoc_rec with
  | h0 => exact ⟨HistI.start F, F, hF, HistP.start hF hc⟩
  | h1 cs c ih =>
    obtain ⟨h1, vv, h2, h3⟩ := ih fun x hx => h x (List.mem_append_left _ hx)
    have hok := h c (by simp)
    rw [auF_snoc]
    unfold auStep
    split
    · rename_i hz
      exact ⟨h1.step hz, _, okV_joinV h2 hok, h3.step h2 hok hz⟩
    · exact ⟨h1, vv, h2, h3⟩
theorem auF_all {F : List Dt} {S : List Cm} (h : ∀ q c, S[q]? = some c → insE F (findC (S.take q)) q c = 0) : ∀ n, n ≤ S.length → (auF F (S.take n)).gone = [] ∧ (auF F (S.take n)).L = S.take n
  | 0, _ => ⟨rfl, rfl⟩
  | n + 1, hn => by
    obtain ⟨h1, h2⟩ := auF_all h n (by omega)
    obtain ⟨c, hc⟩ : ∃ c, S[n]? = some c := ⟨S[n]'(by omega), by simp⟩
    have hz := h n c hc
    have hl : (S.take n).length = n := by rw [List.length_take]; omega
    rw [auF_take F hc]
    unfold auStep
    rw [h2, hl, if_pos hz]
    exact ⟨h1, by rw [take_snoc' hc]⟩
/-- what was inserted goes in once more, in order -/
theorem auF_sorted {F : List Dt} (hF : okV F) (hc : canonV F = F) {cs S : List Cm} (h : ∀ c ∈ cs, okV c.vv) (hp : S.Perm (auF F cs).L) (hs : SortedC S) (hl : S.length ≤ 200) : (auF F S).gone = [] ∧ (auF F S).L = S := by
  obtain ⟨h1, vv, h2, h3⟩ := auF_hist hF hc cs h
  have hi := h1.perm hp.symm (auF_P F cs).nodup
  have hh := h3.perm hp.symm
  have := auF_all (F := F) (S := S) (fun q c hq => ins_prefix hi hh hs hq (by have := (List.getElem?_eq_some_iff.1 hq).1; omega)) S.length (Nat.le_refl _)
  rwa [List.take_length] at this
end Go.Proofs.YtaandcblndldmaaGreat

/- AudK -/
namespace Go.Proofs.YtaandcblndldmaaGreat
open Go.RowKit
set_option linter.unusedVariables false
set_option linter.unusedSimpArgs false

end Go.Proofs.YtaandcblndldmaaGreat
