/- Ancestors, plainly: by parents, and by vectors. No program in sight. | base.ancestors, plainly. No program in sight. | The plain law of BaseAncestors. No program in sight. -/
import Derived.Test.YthdmoplclllhjaaGreatRgA
import Derived.Test.YthdmoplclllhjaaGreatGraC
import Derived.Test.YthdmoplclllhjaaGreatGraM
/- DagP -/
namespace Go.Proofs.YthdmoplclllhjaaGreat
open Go.RowKit
set_option linter.unusedVariables false
set_option linter.unusedSimpArgs false

/-- what is needed of commits here -/
structure DagP (S : List Cm) : Prop where
  nodup : (S.map (·.d)).Nodup
  pos : ∀ c ∈ S, 1 ≤ c.t
  top : ∀ c ∈ S, c.t ≤ 1099511627776
  self : ∀ c ∈ S, hasV c.vv c.d = true
  up : ∀ c ∈ S, ∀ p ∈ c.ps, ∀ z, findC S p = some z → z.t < c.t ∧ ∀ x, getN z.vv x ≤ getN c.vv x
  deep : ∀ c ∈ S, ∀ y ∈ S, y.d ≠ c.d → hasV c.vv y.d = true → ∃ p ∈ c.ps, ∃ z, findC S p = some z ∧ hasV z.vv y.d = true
  within : ∀ c ∈ S, ∀ y ∈ S, hasV c.vv y.d = true → ∀ x, getN y.vv x ≤ getN c.vv x
  anc : ∀ c ∈ S, ∀ y ∈ S, y.d ≠ c.d → hasV c.vv y.d = true → y.t < c.t
theorem DagP.of {F : List Dt} {L S : List Cm} {vv : List Dt} (hi : HistI F L) (h : HistP F L vv) (hp : S.Perm L) : DagP S := by
  have hn : (S.map (·.d)).Nodup := (hp.map _).nodup_iff.2 h.nodup
  have hf : findC S = findC L := findC_perm hp hn
  refine ⟨hn, fun c hc => (h.may c (hp.mem_iff.1 hc)).t1, fun c hc => (h.may c (hp.mem_iff.1 hc)).t2, fun c hc => h.self (hp.mem_iff.1 hc), fun c hc p hpp z hz => ?_, fun c hc y hy hne hh => ?_, fun c hc y hy hh => (h.within (hp.mem_iff.1 hc) (hp.mem_iff.1 hy) hh).1, fun c hc y hy hne hh => (h.anc c (hp.mem_iff.1 hc) y (hp.mem_iff.1 hy) hne hh).2⟩
  · rw [hf] at hz
    have := hi.up h (hp.mem_iff.1 hc) hpp hz
    exact ⟨this.2.2.1, this.2.2.2⟩
  · rw [hf]
    exact hi.deep h (hp.mem_iff.1 hc) (hp.mem_iff.1 hy) hne hh
theorem DagP.perm {S T : List Cm} (h : DagP S) (hp : T.Perm S) : DagP T := by
  have hn : (T.map (·.d)).Nodup := (hp.map _).nodup_iff.2 h.nodup
  have hf : findC T = findC S := findC_perm hp hn
  refine ⟨hn, fun c hc => h.pos c (hp.mem_iff.1 hc), fun c hc => h.top c (hp.mem_iff.1 hc), fun c hc => h.self c (hp.mem_iff.1 hc), fun c hc p hpp z hz => ?_, fun c hc y hy hne hh => ?_, fun c hc y hy hh => h.within c (hp.mem_iff.1 hc) y (hp.mem_iff.1 hy) hh, fun c hc y hy hne hh => h.anc c (hp.mem_iff.1 hc) y (hp.mem_iff.1 hy) hne hh⟩
  · rw [hf] at hz; exact h.up c (hp.mem_iff.1 hc) p hpp z hz
  · rw [hf]; exact h.deep c (hp.mem_iff.1 hc) y (hp.mem_iff.1 hy) hne hh
/-- what a walk by parents from d leaves of the dots that were seen -/
structure RchP (S : List Cm) (V : List Dt) (d : Dt) (V' : List Dt) : Prop where
  old : ∀ x ∈ V, x ∈ V'
  own : ∀ y, findC S d = some y → d ∈ V'
  new : ∀ x ∈ V', x ∉ V → (∃ y z, findC S d = some y ∧ findC S x = some z ∧ hasV y.vv x = true) ∧ ∀ z, findC S x = some z → ∀ p ∈ z.ps, ∀ u, findC S p = some u → p ∈ V'
theorem RchP.was {S : List Cm} {V : List Dt} {d : Dt} (h : d ∈ V) : RchP S V d V := ⟨fun x hx => hx, fun y hy => h, fun x hx hn => absurd hx hn⟩
/-- behind q parents of y -/
structure RchJ (S : List Cm) (V : List Dt) (y : Cm) (q : Nat) (V' : List Dt) : Prop where
  old : ∀ x ∈ V, x ∈ V'
  own : y.d ∈ V'
  par : ∀ p ∈ y.ps.take q, ∀ u, findC S p = some u → p ∈ V'
  new : ∀ x ∈ V', x ∉ V → x ≠ y.d → (∃ z, findC S x = some z ∧ hasV y.vv x = true) ∧ ∀ z, findC S x = some z → ∀ p ∈ z.ps, ∀ u, findC S p = some u → p ∈ V'
theorem RchJ.start {S : List Cm} {V : List Dt} {y : Cm} : RchJ S V y 0 (V ++ [y.d]) :=
  ⟨fun x hx => by simp [hx], by simp, fun p hp => by simp at hp, fun x hx h1 h2 => by
    rcases List.mem_append.1 hx with hx | hx
    · exact absurd hx h1
    · rw [List.mem_singleton] at hx; exact absurd hx h2⟩
theorem RchJ.next {S : List Cm} {V V' V'' : List Dt} {y : Cm} {q : Nat} {p : Dt} (hD : DagP S) (hy : y ∈ S) (h : RchJ S V y q V') (hp : y.ps[q]? = some p) (h2 : RchP S V' p V'') : RchJ S V y (q + 1) V'' := by
  refine ⟨fun x hx => h2.old x (h.old x hx), h2.old _ h.own, fun x hx u hu => ?_, fun x hx hn hne => ?_⟩
  · rw [take_snoc' hp] at hx
    rcases List.mem_append.1 hx with hx | hx
    · exact h2.old x (h.par x hx u hu)
    · rw [List.mem_singleton] at hx
      subst hx
      exact h2.own u hu
  · by_cases e : x ∈ V'
    · obtain ⟨h3, h4⟩ := h.new x e hn hne
      exact ⟨h3, fun z hz p2 hp2 u hu => h2.old _ (h4 z hz p2 hp2 u hu)⟩
    · obtain ⟨⟨z, v, hz, hv, hh⟩, h4⟩ := h2.new x hx e
      exact ⟨⟨v, hv, hasV_mono hh (hD.up y hy p (List.mem_of_getElem? hp) z hz).2⟩, h4⟩
theorem RchJ.done {S : List Cm} {V V' : List Dt} {y : Cm} (hD : DagP S) (hy : y ∈ S) (hn : y.d ∉ V) (h : RchJ S V y y.ps.length V') : RchP S V y.d V' := by
  have hfy := findC_mem hD.nodup hy
  have hp := h.par
  rw [List.take_length] at hp
  refine ⟨h.old, fun z hz => h.own, fun x hx h1 => ?_⟩
  by_cases e : x = y.d
  · subst e
    refine ⟨⟨y, y, hfy, hfy, hD.self y hy⟩, fun z hz p hpz u hu => ?_⟩
    rw [hfy] at hz
    cases hz
    exact hp p hpz u hu
  · obtain ⟨⟨z, hz, hh⟩, h4⟩ := h.new x hx h1 e
    exact ⟨⟨y, z, hfy, hz, hh⟩, h4⟩
/-- the dots that some dots' commits know -/
def downS (S : List Cm) (D : Dt → Prop) (x : Dt) : Prop := ∃ z, findC S x = some z ∧ ∃ d, D d ∧ ∃ y, findC S d = some y ∧ hasV y.vv x = true
/-- a set that has what its commits know -/
def downB (S : List Cm) (V : List Dt) (D : Dt → Prop) : Prop := ∀ x, x ∈ V ↔ downS S D x
theorem downB.nil (S : List Cm) : downB S [] (fun _ => False) := fun x => ⟨fun h => (by cases h), fun ⟨_, _, _, h, _⟩ => h.elim⟩
theorem downB.next {S : List Cm} {V V' : List Dt} {D : Dt → Prop} {d : Dt} (hD : DagP S) (h : downB S V D) (h2 : RchP S V d V') : downB S V' (fun x => D x ∨ x = d) := by
  -- all that an element of V' knows is in V'
  have key : ∀ (n : Nat) (x : Dt) (z : Cm), x ∈ V' → findC S x = some z → z.t ≤ n → ∀ c ∈ S, hasV z.vv c.d = true → c.d ∈ V' := by
    intro n
    induction n with
    | zero =>
      intro x z hx hz ht c hc hh
      have := hD.pos z (findC_some hz).1
      omega
    | succ n ih =>
      intro x z hx hz ht c hc hh
      obtain ⟨hzS, hzd⟩ := findC_some hz
      by_cases e : x ∈ V
      · obtain ⟨z2, hz2, d2, hd2, y2, hy2, hh2⟩ := (h x).1 e
        rw [hz] at hz2
        cases hz2
        refine h2.old _ ((h c.d).2 ⟨c, findC_mem hD.nodup hc, d2, hd2, y2, hy2, ?_⟩)
        rw [← hzd] at hh2
        exact hasV_mono hh (hD.within y2 (findC_some hy2).1 z hzS hh2)
      · by_cases e2 : c.d = z.d
        · rw [e2, hzd]; exact hx
        · obtain ⟨p, hp, u, hu, hh2⟩ := hD.deep z hzS c hc e2 hh
          have h3 := (h2.new x hx e).2 z hz p hp u hu
          have h4 := (hD.up z hzS p hp u hu).1
          exact ih p u h3 hu (by omega) c hc hh2
  intro x
  constructor
  · intro hx
    by_cases e : x ∈ V
    · obtain ⟨z, hz, d2, hd2, h3⟩ := (h x).1 e
      exact ⟨z, hz, d2, .inl hd2, h3⟩
    · obtain ⟨⟨y, z, hy, hz, hh⟩, _⟩ := h2.new x hx e
      exact ⟨z, hz, d, .inr rfl, y, hy, hh⟩
  · rintro ⟨z, hz, d2, hd2 | rfl, y, hy, hh⟩
    · exact h2.old x ((h x).2 ⟨z, hz, d2, hd2, y, hy, hh⟩)
    · have h3 := h2.own y hy
      obtain ⟨hzS, hzd⟩ := findC_some hz
      have := key y.t.toNat _ y h3 hy (by omega) z hzS (by rw [hzd]; exact hh)
      rwa [hzd] at this
theorem downS.congr {S : List Cm} {D D' : Dt → Prop} (h : ∀ x, D x ↔ D' x) (x : Dt) : downS S D x ↔ downS S D' x := by
  unfold downS
  exact exists_congr fun z => and_congr_right fun _ => exists_congr fun d => and_congr_left fun _ => h d
end Go.Proofs.YthdmoplclllhjaaGreat

/- AncP -/
namespace Go.Proofs.YthdmoplclllhjaaGreat
open Go.RowKit
set_option linter.unusedVariables false
set_option linter.unusedSimpArgs false

theorem len_of_sub {α : Type} : ∀ {a b : List α}, a.Nodup → (∀ x ∈ a, x ∈ b) → a.length ≤ b.length
  | [], b, _, _ => Nat.zero_le _
  | x :: a, b, hn, hs => by
    rw [List.nodup_cons] at hn
    obtain ⟨s, t, rfl⟩ := List.append_of_mem (hs x (by simp))
    have := len_of_sub (a := a) (b := s ++ t) hn.2 fun y hy => by
      have h1 := hs y (List.mem_cons_of_mem _ hy)
      rcases List.mem_append.1 h1 with h1 | h1
      · exact List.mem_append_left _ h1
      · rcases List.mem_cons.1 h1 with rfl | h1
        · exact absurd hy hn.1
        · exact List.mem_append_right _ h1
    simp at this ⊢
    omega
/-- the commits that some dots' commits know -/
structure AncP (L : List Cm) (dots : List Dt) (A : List Cw) : Prop where
  nodup : ((cms A).map (·.d)).Nodup
  mem : ∀ v ∈ A, v.c ∈ L
  down : ∀ x, (∃ v ∈ A, v.c.d = x) ↔ downS L (fun d => d ∈ dots) x
theorem AncP.len {L : List Cm} {dots : List Dt} {A : List Cw} (h : AncP L dots A) : A.length ≤ L.length := by
  have h1 : (cms A).Nodup := (List.pairwise_map.1 h.nodup).imp fun {a b} h e => h (by rw [e])
  have h2 : ∀ c ∈ cms A, c ∈ L := fun c hc => by
    obtain ⟨v, hv, rfl⟩ := List.mem_map.1 hc
    exact h.mem v hv
  have := len_of_sub h1 h2
  simpa [cms] using this
structure AncJ (L : List Cm) (dots : List Dt) (A : List Cw) (T : List Dt) : Prop where
  nodup : ((cms A).map (·.d)).Nodup
  mem : ∀ v ∈ A, v.c ∈ L
  sub : ∀ v ∈ A, downS L (fun d => d ∈ dots) v.c.d
  tds : ∀ x ∈ T, ∀ z, findC L x = some z → downS L (fun d => d ∈ dots) x
  par : ∀ v ∈ A, ∀ p ∈ v.c.ps, ∀ u, findC L p = some u → (∃ y ∈ A, y.c.d = p) ∨ p ∈ T
  src : ∀ d ∈ dots, ∀ y, findC L d = some y → (∃ v ∈ A, v.c.d = d) ∨ d ∈ T
  okT : okV T
  few : T.length ≤ dots.length + 64 * A.length
theorem AncJ.len {L : List Cm} {dots : List Dt} {A : List Cw} {T : List Dt} (h : AncJ L dots A T) (hn : (L.map (·.d)).Nodup) : A.length ≤ L.length := by
  have h1 : (cms A).Nodup := (List.pairwise_map.1 h.nodup).imp fun {a b} h e => h (by rw [e])
  have h2 : ∀ c ∈ cms A, c ∈ L := fun c hc => by
    obtain ⟨v, hv, rfl⟩ := List.mem_map.1 hc
    exact h.mem v hv
  have := len_of_sub h1 h2
  simpa [cms] using this
theorem AncJ.start {L : List Cm} {dots : List Dt} (hD : DagP L) (hok : okV dots) : AncJ L dots [] dots :=
  ⟨List.nodup_nil, fun v hv => (by cases hv), fun v hv => (by cases hv), fun x hx z hz => ⟨z, hz, x, hx, z, hz, by
    have h1 := findC_some hz
    have h2 := hD.self z h1.1
    rwa [h1.2] at h2⟩, fun v hv => (by cases hv), fun d hd y hy => .inr hd, hok, by simp⟩
theorem AncJ.less {L : List Cm} {dots : List Dt} {A : List Cw} {T U : List Dt} {x : Dt} (h : AncJ L dots A T) (hT : T = U ++ [x]) (hx : findC L x = none ∨ ∃ v ∈ A, v.c.d = x) : AncJ L dots A U := by
  subst hT
  have key : ∀ p, (∀ u, findC L p = some u → (∃ y ∈ A, y.c.d = p) ∨ p ∈ U ++ [x]) → ∀ u, findC L p = some u → (∃ y ∈ A, y.c.d = p) ∨ p ∈ U := fun p hp u hu => by
    rcases hp u hu with h1 | h1
    · exact .inl h1
    · rcases List.mem_append.1 h1 with h1 | h1
      · exact .inr h1
      · rw [List.mem_singleton] at h1
        subst h1
        rcases hx with hx | hx
        · rw [hx] at hu; cases hu
        · exact .inl hx
  exact ⟨h.nodup, h.mem, h.sub, fun y hy => h.tds y (List.mem_append_left _ hy), fun v hv p hp => key p (h.par v hv p hp), fun d hd => key d (h.src d hd), fun y hy => h.okT y (List.mem_append_left _ hy), by have := h.few; simp at this; omega⟩
theorem AncJ.add {L : List Cm} {dots : List Dt} {A : List Cw} {T U : List Dt} {x : Dt} {z : Cm} {u : Cw} (hD : DagP L) (h : AncJ L dots A T) (hT : T = U ++ [x]) (hz : findC L x = some z) (hx : ∀ v ∈ A, v.c.d ≠ x) (hu : u.c = z) (hps : z.ps.length ≤ 64) (hok : okV z.ps) : AncJ L dots (A ++ [u]) (U ++ z.ps) := by
  subst hT
  subst hu
  obtain ⟨hzL, hzd⟩ := findC_some hz
  have hdx := h.tds x (by simp) u.c hz
  refine ⟨?_, fun v hv => ?_, fun v hv => ?_, fun y hy w hw => ?_, fun v hv p hp w hw => ?_, fun d hd y hy => ?_, fun y hy => ?_, ?_⟩
  · rw [show cms (A ++ [u]) = cms A ++ [u.c] by simp [cms], List.map_append, List.nodup_append]
    refine ⟨h.nodup, by simp, fun a ha c hc e => ?_⟩
    simp at hc
    subst hc
    obtain ⟨y, hy, rfl⟩ := List.mem_map.1 ha
    obtain ⟨v, hv, rfl⟩ := List.mem_map.1 hy
    exact hx v hv (e.trans hzd)
  · rcases List.mem_append.1 hv with hv | hv
    · exact h.mem v hv
    · rw [List.mem_singleton] at hv; subst hv; exact hzL
  · rcases List.mem_append.1 hv with hv | hv
    · exact h.sub v hv
    · rw [List.mem_singleton] at hv; subst hv; rw [hzd]; exact hdx
  · rcases List.mem_append.1 hy with hy | hy
    · exact h.tds y (List.mem_append_left _ hy) w hw
    · obtain ⟨z2, hz2, d, hd, y2, hy2, hh⟩ := hdx
      have h1 := hD.up u.c hzL y hy w hw
      have h2 := findC_some hw
      have h3 : hasV w.vv y = true := by have := hD.self w h2.1; rwa [h2.2] at this
      refine ⟨w, hw, d, hd, y2, hy2, hasV_mono (hasV_mono h3 h1.2) (hD.within y2 (findC_some hy2).1 u.c hzL ?_)⟩
      rw [hzd]; exact hh
  · rcases List.mem_append.1 hv with hv | hv
    · rcases h.par v hv p hp w hw with ⟨y, hy, h1⟩ | h1
      · exact .inl ⟨y, List.mem_append_left _ hy, h1⟩
      · rcases List.mem_append.1 h1 with h1 | h1
        · exact .inr (List.mem_append_left _ h1)
        · rw [List.mem_singleton] at h1
          exact .inl ⟨u, by simp, by rw [hzd, h1]⟩
    · rw [List.mem_singleton] at hv; subst hv; exact .inr (List.mem_append_right _ hp)
  · rcases h.src d hd y hy with ⟨v, hv, h1⟩ | h1
    · exact .inl ⟨v, List.mem_append_left _ hv, h1⟩
    · rcases List.mem_append.1 h1 with h1 | h1
      · exact .inr (List.mem_append_left _ h1)
      · rw [List.mem_singleton] at h1
        exact .inl ⟨u, by simp, by rw [hzd, h1]⟩
  · rcases List.mem_append.1 hy with hy | hy
    · exact h.okT y (List.mem_append_left _ hy)
    · exact hok y hy
  · have := h.few
    simp at this ⊢
    omega
theorem AncJ.done {L : List Cm} {dots : List Dt} {A : List Cw} (hD : DagP L) (h : AncJ L dots A []) : AncP L dots A := by
  have key : ∀ (n : Nat) (v : Cw), v ∈ A → v.c.t ≤ n → ∀ c ∈ L, hasV v.c.vv c.d = true → ∃ u ∈ A, u.c.d = c.d := by
    intro n
    induction n with
    | zero =>
      intro v hv ht
      have := hD.pos v.c (h.mem v hv)
      omega
    | succ n ih =>
      intro v hv ht c hc hh
      by_cases e : c.d = v.c.d
      · exact ⟨v, hv, e.symm⟩
      · obtain ⟨p, hp, u, hu, hh2⟩ := hD.deep v.c (h.mem v hv) c hc e hh
        rcases h.par v hv p hp u hu with ⟨y, hy, h1⟩ | h1
        · have h2 := findC_mem hD.nodup (h.mem y hy)
          rw [h1, hu] at h2
          cases h2
          have h3 := (hD.up v.c (h.mem v hv) p hp y.c hu).1
          exact ih y hy (by omega) c hc hh2
        · cases h1
  refine ⟨h.nodup, h.mem, fun x => ⟨fun ⟨v, hv, e⟩ => by rw [← e]; exact h.sub v hv, fun ⟨z, hz, d, hd, y, hy, hh⟩ => ?_⟩⟩
  obtain ⟨hzL, hzd⟩ := findC_some hz
  rcases h.src d hd y hy with ⟨v, hv, h1⟩ | h1
  · have h2 := findC_mem hD.nodup (h.mem v hv)
    rw [h1, hy] at h2
    cases h2
    obtain ⟨u, hu, h3⟩ := key v.c.t.toNat v hv (by omega) z hzL (by rw [hzd]; exact hh)
    exact ⟨u, hu, h3.trans hzd⟩
  · cases h1
end Go.Proofs.YthdmoplclllhjaaGreat

/- AncQ -/
namespace Go.Proofs.YthdmoplclllhjaaGreat
open Go.RowKit
set_option linter.unusedVariables false
set_option linter.unusedSimpArgs false

/-- the greatest of those that both sides know -/
def BofP (L : List Cm) (dots : List Dt) (d : Dt) (v : List Dt) : Prop := ∃ B : List Cm, (∀ c, c ∈ B ↔ c ∈ L ∧ downS L (fun x => x ∈ dots) c.d ∧ downS L (fun x => x ∈ [d]) c.d) ∧ HeadsP [] B v
theorem downS_eq {S L : List Cm} (h : findC S = findC L) (D : Dt → Prop) (x : Dt) : downS S D x ↔ downS L D x := by unfold downS; rw [h]
theorem downB.one {S : List Cm} (hD : DagP S) {V' : List Dt} {d : Dt} (h2 : RchP S [] d V') : ∀ x, x ∈ V' ↔ downS S (fun y => y ∈ [d]) x := fun x =>
  ((downB.nil S).next hD h2 x).trans (downS.congr (fun y => by simp) x)
theorem downB.snoc {S : List Cm} (hD : DagP S) {V V' dots : List Dt} {d : Dt} (h : ∀ x, x ∈ V ↔ downS S (fun y => y ∈ dots) x) (h2 : RchP S V d V') : ∀ x, x ∈ V' ↔ downS S (fun y => y ∈ dots ++ [d]) x := fun x =>
  (downB.next (D := fun y => y ∈ dots) hD h h2 x).trans (downS.congr (fun y => by simp) x)
end Go.Proofs.YthdmoplclllhjaaGreat
