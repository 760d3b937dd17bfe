/- What holds of all commits that were inserted, plainly. No program in sight. -/
import Derived.Test.YtaandcblndldmaaGreatGraV
namespace Go.Proofs.YtaandcblndldmaaGreat
open Go.RowKit
set_option linter.unusedVariables false
set_option linter.unusedSimpArgs false

theorem CmP.vlen {c : Cm} (h : CmP c) : c.vv.length ≤ 64 := by
  have h1 : (canonV c.vv).length ≤ 64 := vecOf_length _
  rwa [h.canon] at h1
theorem hasV_iff {v : List Dt} {d : Dt} : hasV v d = true ↔ may d = true ∧ d.2 ≤ getN v d.1 := by unfold hasV; simp
theorem hasV_down {v : List Dt} {d e : Dt} (h : hasV v d = true) (h1 : e.1 = d.1) (h2 : 1 ≤ e.2) (h3 : e.2 ≤ d.2) : hasV v e = true := by
  rw [hasV_iff] at h ⊢
  have hm := (may_iff d).1 h.1
  refine ⟨(may_iff e).2 ⟨by rw [h1]; exact hm.1, h2, by omega⟩, ?_⟩
  rw [h1]; omega
theorem hasV_at {v : List Dt} {x : Ac} {n : Int} (h1 : 1 ≤ n) (h2 : n ≤ getN v x) : hasV v (x, n) = true := by
  rw [hasV_iff]
  have := (getN_bd v x).2
  exact ⟨(may_iff _).2 ⟨getN_may (v := v) (a := x) (by omega), h1, by show n ≤ 1048576; omega⟩, h2⟩
theorem le_kn {F : List Dt} {fd : Fd} {c : Cm} {x : Ac} {n : Int} : ∀ {ps : List Dt}, n ≤ knN F fd c ps x → n ≤ getN F x ∨ n ≤ getN (c.d :: c.ps) x ∨ ∃ p ∈ ps, n ≤ getN (vvOf (fd p)) x := by
  intro ps
  induction ps using snoc_rec with
  | h0 =>
    intro h
    have h : n ≤ max (min (getN c.vv x) (getN F x)) (getN (c.d :: c.ps) x) := h
    by_cases e : n ≤ getN (c.d :: c.ps) x
    · exact .inr (.inl e)
    · left; omega
  | h1 ps p ih =>
    intro h
    rw [knN_snoc] at h
    by_cases e : n ≤ getN (vvOf (fd p)) x
    · exact .inr (.inr ⟨p, by simp, e⟩)
    · rcases ih (by omega) with h | h | ⟨q, hq, h⟩
      · exact .inl h
      · exact .inr (.inl h)
      · exact .inr (.inr ⟨q, by simp [hq], h⟩)
theorem kn_own {F : List Dt} {fd : Fd} {c : Cm} {x : Ac} : ∀ {ps : List Dt}, getN (c.d :: c.ps) x ≤ knN F fd c ps x := by
  intro ps
  induction ps using snoc_rec with
  | h0 => show _ ≤ max (min (getN c.vv x) (getN F x)) (getN (c.d :: c.ps) x); omega
  | h1 ps p ih => rw [knN_snoc]; omega
theorem kn_par {F : List Dt} {fd : Fd} {c : Cm} {x : Ac} : ∀ {ps : List Dt} {p : Dt}, p ∈ ps → getN (vvOf (fd p)) x ≤ knN F fd c ps x := by
  intro ps
  induction ps using snoc_rec with
  | h0 => intro p hp; cases hp
  | h1 ps q ih =>
    intro p hp
    rw [knN_snoc]
    rcases List.mem_append.1 hp with hp | hp
    · have := ih hp; omega
    · rw [List.mem_singleton] at hp; subst hp; omega
theorem hasG_cases {F : List Dt} {L : List Cm} {d : Dt} (h : hasG F (findC L) d = true) : (∃ c ∈ L, c.d = d ∧ findC L d = some c) ∨ hasV F d = true := by
  unfold hasG at h
  rw [Bool.or_eq_true] at h
  rcases h with h | h
  · cases hf : findC L d with
    | none => rw [hf] at h; cases h
    | some c => exact .inl ⟨c, (findC_some hf).1, (findC_some hf).2, rfl⟩
  · exact .inr h
theorem hasG_base {F : List Dt} {fd : Fd} {d : Dt} (h : hasV F d = true) : hasG F fd d = true := by unfold hasG; rw [h, Bool.or_true]
theorem hasG_snoc {F : List Dt} {L : List Cm} {c : Cm} (hf : findC L c.d = none) {d : Dt} : hasG F (findC (L ++ [c])) d = true ↔ hasG F (findC L) d = true ∨ d = c.d := by
  unfold hasG
  rw [findC_snoc hf]
  by_cases e : d = c.d
  · simp [e]
  · rw [if_neg e]
    exact ⟨fun h => .inl h, fun h => h.resolve_right e⟩
/-- what holds of commits above a baseline, and of their vector -/
structure HistP (F : List Dt) (L : List Cm) (vv : List Dt) : Prop where
  okF : okV F
  canon : canonV vv = vv
  nodup : (L.map (·.d)).Nodup
  may : ∀ c ∈ L, CmP c
  out : ∀ c ∈ L, hasV F c.d = false
  base : ∀ x, getN F x ≤ getN vv x
  up : ∀ c ∈ L, ∀ x, getN c.vv x ≤ getN vv x
  low : ∀ x n, 1 ≤ n → n ≤ getN vv x → hasG F (findC L) (x, n) = true
  par : ∀ c ∈ L, ∀ p ∈ c.ps, hasV F p = true ∨ ∃ y ∈ L, y.d = p ∧ y.t < c.t ∧ ∀ x, getN y.vv x ≤ getN c.vv x
  anc : ∀ c ∈ L, ∀ y ∈ L, y.d ≠ c.d → hasV c.vv y.d = true → (∀ x, getN y.vv x ≤ getN c.vv x) ∧ y.t < c.t
theorem HistP.start {F : List Dt} (hF : okV F) (hc : canonV F = F) : HistP F [] F :=
  ⟨hF, hc, List.nodup_nil, fun c hc => (by cases hc), fun c hc => (by cases hc), fun x => Int.le_refl _, fun c hc => (by cases hc), fun x n h1 h2 => hasG_base (hasV_at h1 h2), fun c hc => (by cases hc), fun c hc => (by cases hc)⟩
theorem HistP.top {F : List Dt} {L : List Cm} {vv : List Dt} (h : HistP F L vv) {d : Dt} (hd : hasG F (findC L) d = true) : d.2 ≤ getN vv d.1 := by
  rcases hasG_cases hd with ⟨c, hc, rfl, _⟩ | h1
  · have := (h.may c hc).own; have := h.up c hc c.d.1; omega
  · have := (hasV_iff.1 h1).2; have := h.base d.1; omega
theorem HistP.self {F : List Dt} {L : List Cm} {vv : List Dt} (h : HistP F L vv) {c : Cm} (hc : c ∈ L) : hasV c.vv c.d = true := hasV_iff.2 ⟨(h.may c hc).dot, by rw [(h.may c hc).own]; exact Int.le_refl _⟩
theorem HistP.eq_of {F : List Dt} {L : List Cm} {vv : List Dt} (h : HistP F L vv) {c y : Cm} (hc : c ∈ L) (hy : y ∈ L) (e : c.d = y.d) : c = y := by
  have h1 := findC_mem h.nodup hc
  rw [e, findC_mem h.nodup hy] at h1
  exact (Option.some.inj h1).symm
/-- what is within a commit's vector is within it, whole -/
theorem HistP.within {F : List Dt} {L : List Cm} {vv : List Dt} (h : HistP F L vv) {c y : Cm} (hc : c ∈ L) (hy : y ∈ L) (hh : hasV c.vv y.d = true) : (∀ x, getN y.vv x ≤ getN c.vv x) ∧ y.t ≤ c.t := by
  by_cases e : y.d = c.d
  · have := h.eq_of hy hc e
    subst this
    exact ⟨fun x => Int.le_refl _, Int.le_refl _⟩
  · have := h.anc c hc y hy e hh
    exact ⟨this.1, Int.le_of_lt this.2⟩
theorem insE_zero {F : List Dt} {fd : Fd} {n : Nat} {c : Cm} (h : insE F fd n c = 0) : CmP c ∧ hasG F fd c.d = false ∧ GapP F fd c ∧ ((∀ x, knN F fd c c.ps x ≤ getN c.vv x) ∧ FollowsP F fd c) ∧ n < 200 := by
  by_cases h1 : CmP c
  rotate_left
  · rw [insE_may h1] at h; cases h
  cases h2 : hasG F fd c.d with
  | true => rw [insE_twice h1 h2] at h; cases h
  | false =>
    by_cases h3 : GapP F fd c
    rotate_left
    · rw [insE_gap h1 h2 h3] at h; cases h
    by_cases h4 : (∀ x, knN F fd c c.ps x ≤ getN c.vv x) ∧ FollowsP F fd c
    rotate_left
    · rw [insE_form h1 h2 h3 h4] at h; cases h
    by_cases h5 : 200 ≤ n
    · rw [insE_full h1 h2 h3 h4 h5] at h; cases h
    exact ⟨h1, rfl, h3, h4, by omega⟩
theorem HistP.step {F : List Dt} {L : List Cm} {vv : List Dt} {c : Cm} {n : Nat} (h : HistP F L vv) (okv : okV vv) (okc : okV c.vv) (hi : insE F (findC L) n c = 0) : HistP F (L ++ [c]) (joinV vv c.vv) := by
  obtain ⟨hM, hG0, hGap, ⟨hK, hFol⟩, _⟩ := insE_zero hi
  have hv : ∀ x, getN (joinV vv c.vv) x = max (getN vv x) (getN c.vv x) := fun x => getN_joinV okv okc x
  have hfn : findC L c.d = none := by
    cases hf : findC L c.d with
    | none => rfl
    | some y => unfold hasG at hG0; rw [hf] at hG0; cases hG0
  have hout : hasV F c.d = false := by unfold hasG at hG0; rw [Bool.or_eq_false_iff] at hG0; exact hG0.2
  have hdm := (may_iff _).1 hM.dot
  -- a parent that is there
  have hpar : ∀ p ∈ c.ps, ∀ y, findC L p = some y → y.t < c.t ∧ ∀ x, getN y.vv x ≤ getN c.vv x := fun p hp y hy => by
    refine ⟨(hFol.each p hp y hy).2, fun x => ?_⟩
    have h1 := kn_par (F := F) (fd := findC L) (c := c) (x := x) hp
    rw [hy] at h1
    exact Int.le_trans h1 (hK x)
  refine ⟨h.okF, canon_join okv okc, ?_, fun y hy => ?_, fun y hy => ?_, fun x => ?_, fun y hy x => ?_, fun x n h1 h2 => ?_, fun y hy p hp => ?_, fun y hy z hz hne hh => ?_⟩
  · rw [List.map_append, List.nodup_append]
    refine ⟨h.nodup, by simp, fun a ha b hb => ?_⟩
    simp at hb
    subst hb
    intro e
    obtain ⟨y, hy, rfl⟩ := List.mem_map.1 ha
    exact (findC_none.1 hfn) y hy e
  · rcases List.mem_append.1 hy with hy | hy
    · exact h.may y hy
    · rw [List.mem_singleton] at hy; subst hy; exact hM
  · rcases List.mem_append.1 hy with hy | hy
    · exact h.out y hy
    · rw [List.mem_singleton] at hy; subst hy; exact hout
  · rw [hv]; have := h.base x; omega
  · rw [hv]
    rcases List.mem_append.1 hy with hy | hy
    · have := h.up y hy x; omega
    · rw [List.mem_singleton] at hy; subst hy; omega
  · rw [hasG_snoc hfn]
    by_cases hold : n ≤ getN vv x
    · exact .inl (h.low x n h1 hold)
    rw [hv] at h2
    have h3 : n ≤ getN c.vv x := by omega
    rcases le_kn (Int.le_trans h3 (hGap.knows x)) with h4 | h4 | ⟨p, hp, h4⟩
    · have := h.base x; exact absurd (Int.le_trans h4 this) hold
    · obtain ⟨d, hd, hdm2, hdx, hdn⟩ := getN_mem (v := c.d :: c.ps) (a := x) (by omega)
      rcases List.mem_cons.1 hd with rfl | hd
      · by_cases e : n = c.d.2
        · right
          subst hdx e; rfl
        · have h5 := hGap.own (by omega)
          have h6 := h.top h5
          unfold aheadD at h6
          dsimp only at h6
          rw [hdx] at h6
          exact absurd (by omega) hold
      · have h6 := h.top (hGap.ps d hd)
        rw [hdx] at h6
        exact absurd (by omega) hold
    · cases hf : findC L p with
      | none => rw [hf] at h4; have : getN (vvOf none) x = 0 := rfl; omega
      | some y =>
        rw [hf] at h4
        have h5 : n ≤ getN y.vv x := h4
        have := h.up y (findC_some hf).1 x
        exact absurd (by omega) hold
  · rcases List.mem_append.1 hy with hy | hy
    · rcases h.par y hy p hp with h1 | ⟨z, hz, h1⟩
      · exact .inl h1
      · exact .inr ⟨z, List.mem_append_left _ hz, h1⟩
    · rw [List.mem_singleton] at hy
      subst hy
      rcases hasG_cases (hGap.ps p hp) with ⟨z, hz, hzd, hf⟩ | h1
      · exact .inr ⟨z, List.mem_append_left _ hz, hzd, hpar p hp z hf⟩
      · exact .inl h1
  · rcases List.mem_append.1 hy with hyL | hyc
    · rcases List.mem_append.1 hz with hzL | hzc
      · exact h.anc y hyL z hzL hne hh
      · rw [List.mem_singleton] at hzc
        subst hzc
        have h1 := h.low z.d.1 z.d.2 hdm.2.1 (Int.le_trans (hasV_iff.1 hh).2 (h.up y hyL z.d.1))
        rw [show (z.d.1, z.d.2) = z.d from rfl, hG0] at h1
        cases h1
    · rw [List.mem_singleton] at hyc
      subst hyc
      rcases List.mem_append.1 hz with hzL | hzc
      rotate_left
      · rw [List.mem_singleton] at hzc; subst hzc; exact absurd rfl hne
      have hzm := (may_iff _).1 (h.may z hzL).dot
      have hzo := h.out z hzL
      -- by a parent that has it
      have via : ∀ p ∈ y.ps, ∀ u, findC L p = some u → hasV u.vv z.d = true → (∀ x, getN z.vv x ≤ getN y.vv x) ∧ z.t < y.t := fun p hp u hu hhu => by
        have h1 := h.within (findC_some hu).1 hzL hhu
        have h2 := hpar p hp u hu
        exact ⟨fun x => Int.le_trans (h1.1 x) (h2.2 x), by omega⟩
      rcases le_kn (Int.le_trans (hasV_iff.1 hh).2 (hGap.knows _)) with h4 | h4 | ⟨p, hp, h4⟩
      · rw [hasV_iff.2 ⟨(h.may z hzL).dot, h4⟩] at hzo; cases hzo
      · obtain ⟨d, hd, hdm2, hdx, hdn⟩ := getN_mem (v := y.d :: y.ps) (a := z.d.1) (by omega)
        rcases List.mem_cons.1 hd with rfl | hd
        · have hlt : z.d.2 < y.d.2 := by
            rcases Int.lt_or_le z.d.2 y.d.2 with h5 | h5
            · exact h5
            · exact absurd (Prod.ext hdx.symm (show z.d.2 = y.d.2 by omega)) hne
          rcases hFol.known with h5 | h5 | ⟨p, hp, u, hu, h5⟩
          · omega
          · rw [hasV_down h5 (e := z.d) (by unfold aheadD; exact hdx.symm) hzm.2.1 (by unfold aheadD; dsimp only; omega)] at hzo; cases hzo
          · exact via p hp u hu (hasV_down h5 (by unfold aheadD; exact hdx.symm) hzm.2.1 (by unfold aheadD; dsimp only; omega))
        · rcases hasG_cases (hGap.ps d hd) with ⟨u, huL, hud, hu⟩ | h5
          · exact via d hd u hu (hasV_down (h.self huL) (by rw [hud]; exact hdx.symm) hzm.2.1 (by rw [hud]; omega))
          · rw [hasV_down h5 (e := z.d) hdx.symm hzm.2.1 (by omega)] at hzo; cases hzo
      · cases hf : findC L p with
        | none => rw [hf] at h4; have : getN (vvOf none) z.d.1 = 0 := rfl; omega
        | some u =>
          rw [hf] at h4
          exact via p hp u hf (hasV_iff.2 ⟨(h.may z hzL).dot, h4⟩)
/-- in their order, parents are ahead -/
theorem HistP.ahead {F : List Dt} {L : List Cm} {vv : List Dt} (h : HistP F L vv) {S : List Cm} (hp : S.Perm L) (hs : SortedC S) {q : Nat} {c : Cm} (hc : S[q]? = some c) {p : Dt} (hpp : p ∈ c.ps) :
    (hasV F p = true ∧ findC (S.take q) p = none) ∨ ∃ y ∈ S.take q, y.d = p ∧ findC (S.take q) p = some y ∧ ∀ x, getN y.vv x ≤ getN c.vv x := by
  have hcL : c ∈ L := hp.mem_iff.1 (List.mem_of_getElem? hc)
  have hn : (S.map (·.d)).Nodup := (hp.map _).nodup_iff.2 h.nodup
  have hnt : ((S.take q).map (·.d)).Nodup := hn.sublist ((List.take_sublist _ _).map _)
  rcases h.par c hcL p hpp with h1 | ⟨y, hy, hyd, hyt, hyv⟩
  · refine .inl ⟨h1, findC_none.2 fun y hy e => ?_⟩
    have hyL : y ∈ L := hp.mem_iff.1 (List.mem_of_mem_take hy)
    have := h.out y hyL
    rw [e, h1] at this; cases this
  · obtain ⟨i, hi⟩ := List.getElem?_of_mem (hp.mem_iff.2 hy)
    have hlt : i < q := by
      rcases Nat.lt_trichotomy i q with h2 | h2 | h2
      · exact h2
      · subst h2; rw [hi] at hc; cases hc; omega
      · obtain ⟨hq', rfl⟩ := List.getElem?_eq_some_iff.1 hc
        obtain ⟨hi', rfl⟩ := List.getElem?_eq_some_iff.1 hi
        have h3 := List.pairwise_iff_getElem.1 hs q i hq' hi' h2
        unfold ltC at h3
        omega
    have hyS : y ∈ S.take q := by
      rw [List.mem_iff_getElem?]
      exact ⟨i, by rw [List.getElem?_take, if_pos hlt, hi]⟩
    exact .inr ⟨y, hyS, hyd, by rw [← hyd]; exact findC_mem hnt hyS, hyv⟩
end Go.Proofs.YtaandcblndldmaaGreat
