/- The plain law of MatrixRises: rows grow, the stable frontier rises, or is lost for good. -/
import Derived.Test.YtblahapjdgncfaaMatG
namespace Go.Proofs.Ytblahapjdgncfaa
set_option linter.unusedVariables false
set_option linter.unusedSimpArgs false

/-- a row is not behind another one -/
def rowLe (x y : Option Ak) : Prop := ∀ a, x = some a → ∃ b, y = some b ∧ (a.i < b.i ∨ (a.i = b.i ∧ withinI a.incs b.incs = true ∧ withinV a.vv b.vv = true))
def leM (R R' : Mx) : Prop := ∀ k, rowLe (R k) (R' k)
theorem withinV_refl (v : List Dt) : withinV v v = true := by simp [withinV]
theorem withinV_trans {a b c : List Dt} (ha : okV a) (hb : okV b) (h : withinV a b = true) (g : withinV b c = true) : withinV a c = true := by
  rw [withinV_iff ha] at *
  rw [withinV_iff hb] at g
  exact fun x => Int.le_trans (h x) (g x)
theorem leM_refl (R : Mx) : leM R R := fun k a h => ⟨a, h, .inr ⟨rfl, withinI_refl _, withinV_refl _⟩⟩
theorem leM_trans {n : Nat} {A B C : Mx} (hA : okR n A) (hB : okR n B) (h : leM A B) (g : leM B C) : leM A C := by
  intro k a ha
  obtain ⟨b, hb, h1⟩ := h k a ha
  obtain ⟨c, hc, h2⟩ := g k b hb
  refine ⟨c, hc, ?_⟩
  rcases h1 with h1 | ⟨h1, h1i, h1v⟩
  · rcases h2 with h2 | ⟨h2, _⟩
    · exact .inl (by omega)
    · exact .inl (by omega)
  · rcases h2 with h2 | ⟨h2, h2i, h2v⟩
    · exact .inl (by omega)
    · exact .inr ⟨by omega, withinI_trans h1i h2i, withinV_trans (hA k a ha).2.2.2.1 (hB k b hb).2.2.2.1 h1v h2v⟩
theorem leM_next {n : Nat} {R : Mx} {a : Ak} (hR : okR n R) (ha : okAk a) : leM R (nextM n R a) := by
  unfold nextM
  split
  · rename_i h
    simp only [takesM, Bool.and_eq_true, Bool.not_eq_true'] at h
    intro k o ho
    unfold putM
    by_cases e : k = a.r.toNat
    · rw [if_pos e]
      subst e
      refine ⟨_, rfl, ?_⟩
      have hb := h.2
      rw [ho] at hb
      simp only [barsO, bars, Bool.or_eq_false_iff, decide_eq_false_iff_not, Bool.and_eq_false_iff, Bool.not_eq_false', Bool.and_eq_true] at hb
      rcases Int.lt_trichotomy o.i a.i with h1 | h1 | h1
      · exact .inl h1
      · rcases hb.2 with h2 | h2
        · exact absurd h1 h2
        · refine .inr ⟨h1, h2.1, ?_⟩
          have hok := (hR _ o ho).2.2.2.1
          rw [withinV_iff hok]
          intro x
          show _ ≤ getN (canonV a.vv) x
          rw [getN_canonV ha.2.2]
          exact (withinV_iff hok).1 h2.2 x
      · exact absurd h1 hb.1
    · rw [if_neg e]; exact ⟨o, ho, .inr ⟨rfl, withinI_refl _, withinV_refl _⟩⟩
  · exact leM_refl R

theorem stable_may' {n : Nat} {R : Mx} {incs : List Int} {v : List Dt} (h : stableM n R incs = some v) : mayIncs incs n = true ∧ (∀ k, k < n → fitsM R incs k = true) ∧ v = frontM R n := by
  unfold stableM at h
  split at h
  · rename_i hc
    rw [Bool.and_eq_true, List.all_eq_true] at hc
    refine ⟨hc.1, fun k hk => hc.2 k (by simpa using hk), ?_⟩
    simpa using h.symm
  · cases h
theorem fits_iff {R : Mx} {incs : List Int} {k : Nat} : fitsM R incs k = true ↔ ∃ a, R k = some a ∧ a.i = incs.getD k 0 ∧ a.incs = incs := by
  unfold fitsM
  cases h : R k with
  | none => simp
  | some a => simp
theorem front_mono {n : Nat} {A B : Mx} (hA : okR n A) (hB : okR n B) : ∀ m, (∀ k, k < m → withinV (vvM A k) (vvM B k) = true) → withinV (frontM A m) (frontM B m) = true := by
  have oA : ∀ k, okV (vvM A k) := fun k => by
    unfold vvM
    cases h : A k with
    | none => intro d hd; simp at hd
    | some a => exact (hA k a h).2.2.2.1
  have oB : ∀ k, okV (vvM B k) := fun k => by
    unfold vvM
    cases h : B k with
    | none => intro d hd; simp at hd
    | some a => exact (hB k a h).2.2.2.1
  have fA := frontM_ok (R := A) (fun k a h => (hA k a h).2.2.2.1)
  have fB := frontM_ok (R := B) (fun k a h => (hB k a h).2.2.2.1)
  intro m
  induction m with
  | zero => intro _; exact withinV_refl _
  | succ m ih =>
    intro h
    rw [withinV_iff (fA _)]
    intro x
    have h0 := (withinV_iff (oA m)).1 (h m (by omega)) x
    rcases Nat.eq_zero_or_pos m with rfl | hm
    · rw [frontM_one, frontM_one, getN_canonV (oA 0), getN_canonV (oB 0)]; exact h0
    · rw [frontM_succ hm, frontM_succ hm, getN_meetV (fA m) (oA m), getN_meetV (fB m) (oB m)]
      have := (withinV_iff (fA m)).1 (ih (fun k hk => h k (by omega))) x
      omega
theorem front_le {n : Nat} {R : Mx} (hR : okR n R) : ∀ m k, k < m → withinV (frontM R m) (vvM R k) = true := by
  have oR : ∀ k, okV (vvM R k) := fun k => by
    unfold vvM
    cases h : R k with
    | none => intro d hd; simp at hd
    | some a => exact (hR k a h).2.2.2.1
  have fR := frontM_ok (R := R) (fun k a h => (hR k a h).2.2.2.1)
  intro m
  induction m with
  | zero => intro k hk; omega
  | succ m ih =>
    intro k hk
    rw [withinV_iff (fR _)]
    intro x
    rcases Nat.eq_zero_or_pos m with rfl | hm
    · obtain rfl : k = 0 := by omega
      rw [frontM_one, getN_canonV (oR 0)]; exact Int.le_refl _
    · rw [frontM_succ hm, getN_meetV (fR m) (oR m)]
      rcases Nat.lt_or_ge k m with h | h
      · have := (withinV_iff (fR m)).1 (ih k h) x; omega
      · obtain rfl : k = m := by omega
        omega

/-- by the same incarnations the frontier rises -/
theorem stable_rises {n : Nat} {A B : Mx} {incs : List Int} {u v : List Dt} (hA : okR n A) (hB : okR n B) (hle : leM A B) (ha : stableM n A incs = some u) (hb : stableM n B incs = some v) : withinV u v = true := by
  obtain ⟨_, fa, rfl⟩ := stable_may' ha
  obtain ⟨_, fb, rfl⟩ := stable_may' hb
  refine front_mono hA hB n fun k hk => ?_
  obtain ⟨a, ha, ia, _⟩ := fits_iff.1 (fa k hk)
  obtain ⟨b, hb, ib, _⟩ := fits_iff.1 (fb k hk)
  obtain ⟨b', hb', h⟩ := hle k a ha
  rw [hb] at hb'
  cases hb'
  rcases h with h | ⟨_, _, h⟩
  · omega
  · simpa [vvM, ha, hb] using h
/-- once lost, it does not come again -/
theorem stable_lost {n : Nat} {A B C : Mx} {incs : List Int} {u : List Dt} (hle : leM A B) (hle' : leM B C) (ha : stableM n A incs = some u) (hb : stableM n B incs = none) : stableM n C incs = none := by
  cases hc : stableM n C incs with
  | none => rfl
  | some v =>
    obtain ⟨hm, fa, _⟩ := stable_may' ha
    obtain ⟨_, fc, _⟩ := stable_may' hc
    have : stableM n B incs = some (frontM B n) := stable_all hm fun k hk => by
      obtain ⟨a, ha, ia, ea⟩ := fits_iff.1 (fa k hk)
      obtain ⟨c, hc, ic, ec⟩ := fits_iff.1 (fc k hk)
      obtain ⟨b, hb, h1⟩ := hle k a ha
      obtain ⟨c', hc', h2⟩ := hle' k b hb
      rw [hc] at hc'
      cases hc'
      refine fits_iff.2 ⟨b, hb, ?_⟩
      rcases h1 with h1 | ⟨h1, h1i, _⟩
      · rcases h2 with h2 | ⟨h2, _⟩ <;> omega
      · rcases h2 with h2 | ⟨h2, h2i, _⟩
        · omega
        · refine ⟨by omega, ?_⟩
          rw [ea] at h1i
          rw [ec] at h2i
          exact withinI_anti h2i h1i
    rw [this] at hb; cases hb
theorem stable_row {n : Nat} {R : Mx} {incs : List Int} {v : List Dt} (hR : okR n R) (h : stableM n R incs = some v) {k : Nat} (hk : k < n) : ∃ a, R k = some a ∧ withinV v a.vv = true := by
  obtain ⟨_, fa, rfl⟩ := stable_may' h
  obtain ⟨a, ha, _, _⟩ := fits_iff.1 (fa k hk)
  exact ⟨a, ha, by simpa [vvM, ha] using front_le hR n k hk⟩
theorem stable_ok {n : Nat} {R : Mx} {incs : List Int} {v : List Dt} (hR : okR n R) (h : stableM n R incs = some v) : okV v ∧ v.length ≤ 64 := by
  obtain ⟨_, _, rfl⟩ := stable_may' h
  exact ⟨frontM_ok (fun k a h => (hR k a h).2.2.2.1) n, frontM_length R n⟩

/-- what the law knows behind each acknowledgement -/
structure Rises (n : Nat) (incs : List Int) (R : Mx) (last : List Dt) (was over : Bool) : Prop where
  ok : okV last
  len : last.length ≤ 64
  was : was = true → ∃ A, okR n A ∧ leM A R ∧ stableM n A incs = some last
  over : over = true → ∃ A B u, leM A B ∧ okR n B ∧ leM B R ∧ stableM n A incs = some u ∧ stableM n B incs = none
theorem Rises.start (n : Nat) (incs : List Int) (R : Mx) : Rises n incs R [] false false := ⟨by intro d hd; simp at hd, by simp, nofun, nofun⟩
theorem Rises.no {n : Nat} {incs : List Int} {R R' : Mx} {last : List Dt} {was over : Bool} (h : Rises n incs R last was over) (hR : okR n R) (hR' : okR n R') (hle : leM R R') (hn : stableM n R' incs = none) : Rises n incs R' last was (over || was) := by
  refine ⟨h.ok, h.len, fun hw => ?_, fun ho => ?_⟩
  · obtain ⟨A, h1, h2, h3⟩ := h.was hw
    exact ⟨A, h1, leM_trans h1 hR h2 hle, h3⟩
  · cases hov : over with
    | true =>
      obtain ⟨A, B, u, h1, h2, h3, h4, h5⟩ := h.over hov
      exact ⟨A, B, u, h1, h2, leM_trans h2 hR h3 hle, h4, h5⟩
    | false =>
      rw [hov] at ho
      obtain ⟨A, h1, h2, h3⟩ := h.was (by simpa using ho)
      exact ⟨A, R', last, leM_trans h1 hR h2 hle, hR', leM_refl _, h3, hn⟩
theorem Rises.yes {n : Nat} {incs : List Int} {R R' : Mx} {last v : List Dt} {was over : Bool} (h : Rises n incs R last was over) (hR : okR n R) (hR' : okR n R') (hle : leM R R') (hv : stableM n R' incs = some v) :
    over = false ∧ (was = true → withinV last v = true) ∧ Rises n incs R' v true false := by
  refine ⟨?_, fun hw => ?_, (stable_ok hR' hv).1, (stable_ok hR' hv).2, fun _ => ⟨R', hR', leM_refl _, hv⟩, nofun⟩
  · cases hov : over with
    | false => rfl
    | true =>
      obtain ⟨A, B, u, h1, h2, h3, h4, h5⟩ := h.over hov
      rw [stable_lost h1 (leM_trans h2 hR h3 hle) h4 h5] at hv; cases hv
  · obtain ⟨A, h1, h2, h3⟩ := h.was hw
    exact stable_rises h1 hR' (leM_trans h1 hR h2 hle) h3 hv
end Go.Proofs.Ytblahapjdgncfaa
