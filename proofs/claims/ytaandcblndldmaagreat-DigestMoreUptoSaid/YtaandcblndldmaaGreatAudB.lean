/- The program's op.Same, commit.Same, and slices.EqualFunc of commits by it: exact. | A snapshot's commits inserted one by one, plainly: what is flawed, what is gone. No program in sight. | Snapshots in memory, flaws in memory; audit.head and record.Graph: the contracts. -/
import Derived.Test.YtaandcblndldmaaGreatBatC
import Derived.Test.YtaandcblndldmaaGreatGraA
import Derived.Test.YtaandcblndldmaaGreatLwL
import Derived.Test.YtaandcblndldmaaGreatRgE
import Derived.Test.YtaandcblndldmaaGreatMatB
import Derived.Test.YtaandcblndldmaaGreatWitA
import Derived.Test.YtaandcblndldmaaGreatGraC
import Derived.Test.YtaandcblndldmaaGreatGraV
/- AudA -/
namespace Go.Proofs.YtaandcblndldmaaGreat
open Go.RowKit
set_option linter.unusedVariables false
set_option linter.unusedSimpArgs false

end Go.Proofs.YtaandcblndldmaaGreat

/- AudP -/
namespace Go.Proofs.YtaandcblndldmaaGreat
open Go.RowKit
set_option linter.unusedVariables false
set_option linter.unusedSimpArgs false

/-- what stands behind some commits: how many came, which were inserted, the last one of these, flaws, which are gone -/
structure Au where
  L : List Cm
  last : Option Cm
  fl : List (Nat × Int)
  gone : List Nat
def auBad (last : Option Cm) (c : Cm) : Bool := match last with | none => false | some x => ltCb c x
noncomputable def auStep (F : List Dt) (s : Au) (k : Nat) (c : Cm) : Au :=
  if insE F (findC s.L) s.L.length c = 0 then ⟨s.L ++ [c], some c, if auBad s.last c = true then s.fl ++ [(k, 16)] else s.fl, s.gone⟩
  else ⟨s.L, s.last, s.fl ++ [(k, insE F (findC s.L) s.L.length c)], s.gone ++ [k]⟩
noncomputable def auFrom (F : List Dt) : Nat → Au → List Cm → Au
  | _, s, [] => s
  | k, s, c :: r => auFrom F (k + 1) (auStep F s k c) r
noncomputable def auF (F : List Dt) (cs : List Cm) : Au := auFrom F 0 ⟨[], none, [], []⟩ cs
theorem auFrom_snoc (F : List Dt) (c : Cm) : ∀ (cs : List Cm) (k : Nat) (s : Au), auFrom F k s (cs ++ [c]) = auStep F (auFrom F k s cs) (k + cs.length) c
  | [], k, s => by simp [auFrom]
  | d :: r, k, s => by
    rw [List.cons_append, auFrom, auFrom_snoc F c r (k + 1), auFrom, List.length_cons]
    congr 1; omega
theorem auF_snoc (F : List Dt) (cs : List Cm) (c : Cm) : auF F (cs ++ [c]) = auStep F (auF F cs) cs.length c := by
  unfold auF
  rw [auFrom_snoc, Nat.zero_add]
theorem auF_nil (F : List Dt) : auF F [] = ⟨[], none, [], []⟩ := rfl
theorem auF_take (F : List Dt) {cs : List Cm} {k : Nat} {c : Cm} (h : cs[k]? = some c) : auF F (cs.take (k + 1)) = auStep F (auF F (cs.take k)) k c := by
  have hk := (List.getElem?_eq_some_iff.1 h).1
  rw [List.take_add_one, h]
  show auF F (cs.take k ++ [c]) = _
  rw [auF_snoc, List.length_take, Nat.min_eq_left (by omega)]
/-- what holds on the way -/
structure AuP (cs : List Cm) (s : Au) : Prop where
  nodup : (s.L.map (·.d)).Nodup
  sub : s.L.Sublist cs
  fg : s.fl = [] → s.gone = []
  all : s.gone = [] → s.L = cs
  last : s.last = s.L.getLast?
  sorted : s.fl = [] → s.L.Pairwise ltC
  clean : s.gone = [] → s.L.Pairwise ltC → s.fl = []
  len : s.L.length + s.gone.length = cs.length
  each : ∀ k ∈ s.gone, k < cs.length
  fle : ∀ x ∈ s.fl, x.1 < cs.length
theorem insE_new {F : List Dt} {L : List Cm} {n : Nat} {c : Cm} (h : insE F (findC L) n c = 0) : ∀ x ∈ L, x.d ≠ c.d := by
  obtain ⟨hM, hG0, _⟩ := insE_zero h
  have hfn : findC L c.d = none := by
    cases hf : findC L c.d with
    | none => rfl
    | some y => unfold hasG at hG0; rw [hf] at hG0; cases hG0
  exact findC_none.1 hfn
theorem pair_snoc {L : List Cm} {c : Cm} (h : (L ++ [c]).Pairwise ltC) : L.Pairwise ltC ∧ ∀ x ∈ L, ltC x c := by
  rw [List.pairwise_append] at h
  exact ⟨h.1, fun x hx => h.2.2 x hx c (by simp)⟩
theorem auF_P (F : List Dt) (cs : List Cm) : AuP cs (auF F cs) := by
  induction cs using snoc_rec with
  | h0 => exact ⟨by simp [auF_nil], List.Sublist.refl _, fun _ => rfl, fun _ => rfl, rfl, fun _ => List.Pairwise.nil, fun _ _ => rfl, rfl, fun k hk => (by cases hk), fun k hk => (by cases hk)⟩
  | h1 cs c ih =>
    rw [auF_snoc]
    generalize auF F cs = s at ih ⊢
    obtain ⟨L, last, fl, gone⟩ := s
    obtain ⟨h1, h2, h3, h4, h5, h6, h7, h8, h9, h10⟩ := ih
    dsimp only at *
    unfold auStep
    dsimp only
    by_cases hz : insE F (findC L) L.length c = 0
    · rw [if_pos hz]
      have hnew := insE_new hz
      have hbad : auBad last c = true ↔ ∃ x, L.getLast? = some x ∧ ltC c x := by
        rw [h5]
        unfold auBad
        cases hl : L.getLast? with
        | none => simp
        | some x => simp [ltCb_iff]
      refine ⟨?_, h2.append (List.Sublist.refl _), fun he => ?_, fun he => by rw [h4 he], by simp, fun he => ?_, fun he hp => ?_, by simp; omega, fun k hk => by have := h9 k hk; simp; omega, fun x hx => ?_⟩
      · rw [List.map_append, List.nodup_append]
        refine ⟨h1, by simp, fun a ha b hb => ?_⟩
        obtain ⟨x, hx, rfl⟩ := List.mem_map.1 ha
        simp at hb
        subst hb
        exact hnew x hx
      · dsimp only at he ⊢
        by_cases hb : auBad last c = true
        · rw [if_pos hb] at he; simp at he
        · rw [if_neg hb] at he; exact h3 he
      · dsimp only at he ⊢
        by_cases hb : auBad last c = true
        · rw [if_pos hb] at he; simp at he
        · rw [if_neg hb] at he
          have hs := h6 he
          rw [List.pairwise_append]
          refine ⟨hs, by simp, fun a ha b hb2 => ?_⟩
          simp at hb2
          subst hb2
          obtain ⟨x, hx⟩ : ∃ x, L.getLast? = some x := by
            cases hl : L.getLast? with
            | none => rw [List.getLast?_eq_none_iff] at hl; subst hl; cases ha
            | some x => exact ⟨x, rfl⟩
          have hxm : x ∈ L := List.mem_of_getLast? hx
          have hxc : ltC x b := by
            rcases ltC_total (hnew x hxm) with h | h
            · exact h
            · exact absurd (hbad.2 ⟨x, hx, h⟩) hb
          obtain ⟨ys, rfl⟩ : ∃ ys, L = ys ++ [x] := by
            have := List.getLast?_eq_some_iff.1 hx
            exact this
          rcases List.mem_append.1 ha with ha | ha
          · exact ltC_trans ((pair_snoc hs).2 a ha) hxc
          · simp at ha; subst ha; exact hxc
      · dsimp only at he hp ⊢
        obtain ⟨hp1, hp2⟩ := pair_snoc hp
        have hb : ¬ auBad last c = true := fun hb => by
          obtain ⟨x, hx, hlt⟩ := hbad.1 hb
          exact ltC_irrefl _ (ltC_trans hlt (hp2 x (List.mem_of_getLast? hx)))
        rw [if_neg hb]
        exact h7 he hp1
      · dsimp only at hx
        by_cases hb : auBad last c = true
        · rw [if_pos hb] at hx
          rcases List.mem_append.1 hx with hx | hx
          · have := h10 x hx; simp; omega
          · simp at hx; subst hx; simp
        · rw [if_neg hb] at hx; have := h10 x hx; simp; omega
    · rw [if_neg hz]
      refine ⟨h1, h2.trans (List.sublist_append_left _ _), fun he => by simp at he, fun he => by simp at he, h5, fun he => by simp at he, fun he => by simp at he, by simp; omega, fun k hk => ?_, fun x hx => ?_⟩
      · rcases List.mem_append.1 hk with hk | hk
        · have := h9 k hk; simp; omega
        · simp at hk; subst hk; simp
      · rcases List.mem_append.1 hx with hx | hx
        · have := h10 x hx; simp; omega
        · simp at hx; subst hx; simp
end Go.Proofs.YtaandcblndldmaaGreat

/- AudB -/
namespace Go.Proofs.YtaandcblndldmaaGreat
open Go.RowKit
set_option linter.unusedVariables false
set_option linter.unusedSimpArgs false

/-- a snapshot and where it lies: the replica's number k and life ip, incarnations, baseline, commits -/
structure Sw where
  k : Nat
  ip : Int
  ia : Option Addr
  ic : Nat
  incs : List Int
  b : Bw
  la : Option Addr
  lc : Nat
  l : List Cw
/-- flaws in memory of one's own -/
abbrev Fw := Int × Int
section
variable {w : World} {ops : Array Oper} {rest : List Oper} {o : Oper} {a : Act} {Q : Exit → Act → World → Prop}
end
end Go.Proofs.YtaandcblndldmaaGreat
