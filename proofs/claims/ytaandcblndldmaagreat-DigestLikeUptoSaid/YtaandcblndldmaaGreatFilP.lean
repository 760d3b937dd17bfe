/- Lifted: the contracts of base.Lifted and varveref13.Lifted. | The plain law of BaseOf: what is within the meet of what both sides know, is an ancestor of both. No program in sight. | A graph filled in the document's order, plainly. No program in sight. -/
import Derived.Test.YtaandcblndldmaaGreatWitA
import Derived.Test.YtaandcblndldmaaGreatGraV
import Derived.Test.YtaandcblndldmaaGreatRgE
import Derived.Test.YtaandcblndldmaaGreatVec4
import Derived.Test.YtaandcblndldmaaGreatLwL
/- WitR -/
/- LifA -/
namespace Go.Proofs.YtaandcblndldmaaGreat
open Go.RowKit
set_option linter.unusedVariables false
set_option linter.unusedSimpArgs false

end Go.Proofs.YtaandcblndldmaaGreat

/- BofQ -/
namespace Go.Proofs.YtaandcblndldmaaGreat
open Go.RowKit
set_option linter.unusedVariables false
set_option linter.unusedSimpArgs false

end Go.Proofs.YtaandcblndldmaaGreat

/- FilP -/
namespace Go.Proofs.YtaandcblndldmaaGreat
open Go.RowKit
set_option linter.unusedVariables false
set_option linter.unusedSimpArgs false

theorem HistP.perm {F : List Dt} {L M : List Cm} {vv : List Dt} (h : HistP F L vv) (hp : L.Perm M) : HistP F M vv := by
  have e := findC_perm hp h.nodup
  refine ⟨h.okF, h.canon, (hp.map _).nodup_iff.1 h.nodup, fun c hc => h.may c (hp.mem_iff.2 hc), fun c hc => h.out c (hp.mem_iff.2 hc), h.base, fun c hc => h.up c (hp.mem_iff.2 hc), ?_, fun c hc p hpp => ?_, fun c hc y hy => h.anc c (hp.mem_iff.2 hc) y (hp.mem_iff.2 hy)⟩
  · rw [← e]; exact h.low
  · rcases h.par c (hp.mem_iff.2 hc) p hpp with h1 | ⟨y, hy, h1⟩
    · exact .inl h1
    · exact .inr ⟨y, hp.mem_iff.1 hy, h1⟩
/-- who is ahead stands ahead -/
theorem sorted_before {S : List Cm} (hs : SortedC S) {q : Nat} {c y : Cm} (hc : S[q]? = some c) (hy : y ∈ S) (hlt : ltC y c) : y ∈ S.take q := by
  obtain ⟨k, hk⟩ := List.getElem?_of_mem hy
  by_cases hkq : k < q
  · refine List.mem_of_getElem? (i := k) ?_
    rw [List.getElem?_take, if_pos hkq]
    exact hk
  · exfalso
    by_cases e : k = q
    · subst e
      rw [hc] at hk; cases hk
      exact ltC_irrefl _ hlt
    · obtain ⟨h1, rfl⟩ := List.getElem?_eq_some_iff.1 hk
      obtain ⟨h2, rfl⟩ := List.getElem?_eq_some_iff.1 hc
      have h3 := List.pairwise_iff_getElem.1 hs q k h2 h1 (by omega)
      exact ltC_irrefl _ (ltC_trans hlt h3)
/-- the next one in the document's order can be inserted -/
theorem ins_prefix {F : List Dt} {S : List Cm} {vv : List Dt} (hi : HistI F S) (h : HistP F S vv) (hs : SortedC S) {q : Nat} {c : Cm} (hc : S[q]? = some c) (hq : q < 200) : insE F (findC (S.take q)) q c = 0 := by
  have hcS := List.mem_of_getElem? hc
  have hnt : ((S.take q).map (·.d)).Nodup := h.nodup.sublist ((List.take_sublist _ _).map _)
  have hfn : findC (S.take q) c.d = none := by
    rw [findC_none]
    intro y hy e
    have h1 := h.eq_of (List.mem_of_mem_take hy) hcS e
    subst h1
    obtain ⟨k, hk⟩ := List.getElem?_of_mem hy
    rw [List.getElem?_take] at hk
    by_cases hkq : k < q
    · rw [if_pos hkq] at hk
      obtain ⟨h1, e1⟩ := List.getElem?_eq_some_iff.1 hk
      obtain ⟨h2, e2⟩ := List.getElem?_eq_some_iff.1 hc
      have h3 := List.pairwise_iff_getElem.1 hs k q h1 h2 hkq
      rw [e1, e2] at h3
      exact ltC_irrefl _ h3
    · rw [if_neg hkq] at hk; cases hk
  have he : ∀ p ∈ c.ps, findC S p = findC (S.take q) p := fun p hp => by
    rcases h.ahead (List.Perm.refl S) hs hc hp with ⟨h1, h2⟩ | ⟨y, hy, h1, h2, _⟩
    · rw [h2, findC_none]
      intro y hy e
      have h3 := h.out y hy
      rw [e, h1] at h3; cases h3
    · rw [h2, ← h1]
      exact findC_mem h.nodup (List.mem_of_mem_take hy)
  have ho : 1 < c.d.2 → hasG F (findC S) (aheadD c.d) = true → hasG F (findC (S.take q)) (aheadD c.d) = true := fun h1 h2 => by
    rcases hasG_cases h2 with ⟨y, hy, e, _⟩ | h3
    · have hym := (may_iff _).1 (h.may y hy).dot
      have hv : hasV c.vv y.d = true := by
        rw [hasV_iff]
        refine ⟨(h.may y hy).dot, ?_⟩
        rw [e]
        show c.d.2 - 1 ≤ getN c.vv c.d.1
        rw [(h.may c hcS).own]; omega
      have hne : y.d ≠ c.d := by
        rw [e]
        intro e2
        have : (aheadD c.d).2 = c.d.2 := by rw [e2]
        have h4 : c.d.2 - 1 = c.d.2 := this
        omega
      have h5 := (h.anc c hcS y hy hne hv).2
      have h6 := sorted_before hs hc hy ((ltC_b _ _).2 ((ltCb_or _ _).2 (.inl h5)))
      unfold hasG
      rw [← e, findC_mem hnt h6]; rfl
    · unfold hasG
      rw [h3]; simp
  have hI := (hi c hcS).congr he ho
  refine insE_ok (h.may c hcS) ?_ hI.gap ⟨hI.low, hI.fol⟩ hq
  unfold hasG
  rw [hfn, h.out c hcS]; rfl
end Go.Proofs.YtaandcblndldmaaGreat
