/- Regions that draw their order: each effect leaves blocks of its own. | A region that draws its order, where more than two effects are ready at once: the law for orders with many branches. -/
import Derived.Test.YtbeblbgbngplhaaGreatBase
/- RegO -/
namespace Go.Proofs.YtbeblbgbngplhaaGreat
open Go.RowKit
set_option linter.unusedVariables false
set_option linter.unusedSimpArgs false

section
variable {P : Program} {ops : Array Oper} {Q : Exit → Act → World → Prop} {md : Region.Mode} {B : Nat → Nat → Prop} {X : Nat → Bool}
/-- whatever order is picked from here on; behind what X names all blocks are there again -/
def wpAnyE (P : Program) (md : Region.Mode) (ops : Array Oper) (Q : Exit → Act → World → Prop) (B : Nat → Nat → Prop) (X : Nat → Bool) : Nat → Array Bool → Act → World → Prop
  | 0, listed, a, w => Region.ready md ops listed = [] ∧ Q .normal a w
  | fuel + 1, listed, a, w =>
    (Region.ready md ops listed = [] → Q .normal a w) ∧
    ∀ i ∈ Region.ready md ops listed, wpOp P ops Q i (fun a' w' => (X i = true → Held (B i) w w') ∧ wpAnyE P md ops Q B X fuel (listed.setIfInBounds i true) a' w') a w

theorem wpAny_of_E : ∀ (fuel : Nat) (listed : Array Bool) (a : Act) (w : World), wpAnyE P md ops Q B X fuel listed a w → wpAny P md ops Q fuel listed a w
  | 0, _, _, _, h => h
  | fuel + 1, _, _, _, h => ⟨h.1, fun i hi => wpOp_mono (fun a' w' h' => wpAny_of_E fuel _ a' w' h'.2) (h.2 i hi)⟩

theorem wpAnyE_first {i : Nat} {oi : Oper} {v : Value} {rd : Bool} {F : Nat} {Bi : Nat → Prop} (hi : ops[i]? = some oi) (hsel : ∀ (j : Nat) (o : Oper) cs b, ops[j]? = some o → o.op ≠ .select cs b)
    (hQ : ∀ c a w, Q (.panic c) (a.put oi.dst v) w → Q (.panic c) a w) :
    ∀ (fuel : Nat) (listed : Array Bool) (a : Act) (w : World), Down md ops listed →
      (∀ j oj, ops[j]? = some oj → j ≠ i → listed.getD j true = false → (∀ e ∈ oj.after, Region.binds md e = true → e.on ≠ i) → oi.apart ops oj = true) →
      (rd = true → ∀ j, listed.getD j true = false → j ≠ i → (X j = true ∧ ∀ k, Bi k → B j k) ∨ reach md ops F i j = true) →
      i ∈ Region.ready md ops listed → YieldsIf P ops (fun w2 => rd = true → Held Bi w w2) oi v a →
      wpAnyE P md ops Q B X fuel (listed.setIfInBounds i true) (a.put oi.dst v) w → wpAnyE P md ops Q B X (fuel + 1) listed a w := by
  intro fuel
  induction fuel with
  | zero =>
    intro listed a w _ _ _ hr hy H
    refine ⟨fun h => (by rw [h] at hr; cases hr), fun j hj => ?_⟩
    by_cases hji : j = i
    · subst hji; exact hy.wpOp hi (fun _ => Held.refl _ _) ⟨fun _ => Held.refl _ _, H⟩
    · have := ready_mono hj hji
      rw [H.1] at this
      cases this
  | succ fuel ih =>
    intro listed a w hd hfree hX hr hy H
    refine ⟨fun h => (by rw [h] at hr; cases hr), fun j hj => ?_⟩
    by_cases hji : j = i
    · subst hji; exact hy.wpOp hi (fun _ => Held.refl _ _) ⟨fun _ => Held.refl _ _, H⟩
    · have h1 := H.2 j (ready_mono hj hji)
      obtain ⟨hjun, oj, hoj, hall⟩ := mem_ready.1 hj
      have h0 := (mem_ready.1 hr).1
      have hi0 : ¬ listed.getD i false = true := by
        intro hh
        rcases Nat.lt_or_ge i listed.size with h' | h'
        · simp [h'] at h0 hh; rw [h0] at hh; cases hh
        · simp [Array.getElem?_eq_none h'] at hh
      have hnot : ∀ e ∈ oj.after, Region.binds md e = true → e.on ≠ i := fun e he hb heq => by
        have h1 := hall e he hb
        rw [heq] at h1
        exact hi0 h1
      have hXj : rd = true → X j = true ∧ ∀ k, Bi k → B j k := fun hrd => by
        rcases hX hrd j hjun hji with h | h
        · exact h
        · exact absurd (reach_listed hd i F j oj hoj hall h) hi0
      have h2 := wpOp_putIf hoj (hfree j oj hoj hji hjun hnot) (fun cs b => hsel i oi cs b hi) (fun cs b => hsel j oj cs b hoj) hQ hy h1
      have hfree' : ∀ k ok, ops[k]? = some ok → k ≠ i → (listed.setIfInBounds j true).getD k true = false →
          (∀ e ∈ ok.after, Region.binds md e = true → e.on ≠ i) → oi.apart ops ok = true := fun k ok hk hki hun hno => by
        refine hfree k ok hk hki ?_ hno
        by_cases hjk : j = k
        · subst hjk; exact hjun
        · rw [getD_set_ne true hjk] at hun; exact hun
      have hX' : rd = true → ∀ k, (listed.setIfInBounds j true).getD k true = false → k ≠ i → (X k = true ∧ ∀ q, Bi q → B k q) ∨ reach md ops F i k = true := fun hrd k hun hki => by
        refine hX hrd k ?_ hki
        by_cases hjk : j = k
        · subst hjk; exact hjun
        · rw [getD_set_ne true hjk] at hun; exact hun
      refine wpOp_mono (fun a' w' h3 => ⟨h3.2.1, ih (listed.setIfInBounds j true) a' w' (hd.set hj) hfree' hX' (ready_mono hr (Ne.symm hji)) (yields_mono h3.1 ?_) ?_⟩) h2
      · exact fun w2 hs hrd => ((h3.2.1 (hXj hrd).1).mono (hXj hrd).2).trans (hs hrd)
      · rw [Array.setIfInBounds_comm _ _ hji]
        exact h3.2.2

/-- the order; behind what Xo names it is asked that all blocks are there again -/
def wpCanE (P : Program) (ops : Array Oper) (Q : Exit → Act → World → Prop) (B : Nat → Nat → Prop) (Xo : Nat → Bool) : Tr → Act → World → Prop
  | .nil, a, w => Q .normal a w
  | .cons i rest, a, w => wpOp P ops Q i (fun a' w' => (Xo i = true → Held (B i) w w') ∧ wpCanE P ops Q B Xo rest a' w') a w
  | .fork s t, a, w => wpCanE P ops Q B Xo s a w ∧ wpCanE P ops Q B Xo t a w

theorem wpCanEE_get {Xo : Nat → Bool} : ∀ (l : Tr) (a : Act) (w : World), wpCanE P ops (Tame Q) B Xo l a w →
    ∃ a' w', Q .normal a' w' ∧ ∀ d, (∀ i ∈ l.all, (ops[i]?).bind (·.dst) ≠ some d) → a'.tmps.getD d undef = a.tmps.getD d undef
  | .nil, a, w, h => ⟨a, w, h, fun _ _ => rfl⟩
  | .cons i rest, a, w, h => by
    obtain ⟨a1, w1, ⟨_, h1⟩, hk⟩ := wpOp_get h
    obtain ⟨a2, w2, h2, hk2⟩ := wpCanEE_get rest a1 w1 h1
    exact ⟨a2, w2, h2, fun d hd => (hk2 d fun j hj => hd j (by simp [Tr.all, hj])).trans (hk d (hd i (by simp [Tr.all])))⟩
  | .fork s t, a, w, h => by
    obtain ⟨a2, w2, h2, hk2⟩ := wpCanEE_get s a w h.1
    exact ⟨a2, w2, h2, fun d hd => hk2 d fun j hj => hd j (by simp [Tr.all, hj])⟩

/-- what is read lies where no effect writes that may come ahead of it -/
def readsE (X : Nat → Bool) (md : Region.Mode) (F : Nat) (B : Nat → Nat → Prop) (ops : Array Oper) (a : Act) : Prop := ∀ i o, ops[i]? = some o → readsIn (fun k => ∀ j, X j = true → reach md ops F i j = false → B j k) a.eval o
theorem canE_effect {Xo : Nat → Bool} (hXo : ∀ i o, ops[i]? = some o → X i = true → 2 < opKind P o → Xo i = true) {j : Nat} {o : Oper} (ho : ops[j]? = some o) (hk : ¬ opKind P o ≤ 1) {rest : Tr} {K : Act → World → Prop} {a : Act} {w : World}
    (hnext : ∀ a' w', wpCanE P ops (Tame Q) B Xo rest a' w' → K a' w') (h : wpCanE P ops (Tame Q) B Xo (.cons j rest) a w) :
    wpOp P ops (Tame Q) j (fun a' w' => (X j = true → Held (B j) w w') ∧ K a' w') a w := by
  by_cases hk2 : opKind P o = 2
  · obtain ⟨s, hs1, hadds⟩ := adds_op (P := P) o a.eval hk2
    unfold wpCanE wpOp at h
    unfold wpOp
    simp only [ho] at h ⊢
    split at h
    · rename_i hwant
      rw [if_pos hwant]
      rcases h with h | ⟨_, h⟩
      case inr => exact (Tame.lets h).elim
      refine .inl ?_
      unfold Oper.wp at h ⊢
      rw [hs1] at h ⊢
      simp only [Sem.run_bind, Sem.run_pure] at h ⊢
      cases hrun : s.run P w with
      | ok v w' =>
        rw [hrun] at h
        simp only [Result.andThen_ok, Oper.upon] at h ⊢
        exact ⟨fun _ => .inl (hadds.agree w v w' hrun), hnext _ _ h.2⟩
      | halt x w' =>
        rw [hrun] at h
        simp only [Result.andThen] at h
        cases x <;> simp only [Oper.upon] at h <;> exact h.elim
    · rename_i hwant
      rw [if_neg hwant]
      exact ⟨fun _ => Held.refl _ _, hnext _ _ h.2⟩
  · exact wpOp_mono (fun a' w' h3 => ⟨fun hx => h3.1 (hXo j o ho hx (by omega)), hnext _ _ h3.2⟩) h

theorem wpAnyE_of_can (hs : Region.noSelect ops = true) (F : Nat) (Xo : Nat → Bool) (hXo : ∀ i o, ops[i]? = some o → X i = true → 2 < opKind P o → Xo i = true) :
    ∀ (n : Nat) (l : Tr) (listed : Array Bool) (a : Act) (w : World), okOrd P md ops F X n l listed = true → Down md ops listed →
      wpCanE P ops (Tame fun e a w => (fin ops a = true ∧ readsE X md F B ops a) ∧ Q e a w) B Xo l a w → wpAnyE P md ops (Tame fun e a w => (fin ops a = true ∧ readsE X md F B ops a) ∧ Q e a w) B X n listed a w
  | 0, .nil, listed, a, w, hok, hd, h => by
    simp only [okOrd, List.isEmpty_iff] at hok
    exact ⟨hok, h⟩
  | 0, .cons _ _, listed, a, w, hok, hd, h => by simp [okOrd] at hok
  | 0, .fork _ _, listed, a, w, hok, hd, h => by simp [okOrd] at hok
  | n + 1, .nil, listed, a, w, hok, hd, h => by simp [okOrd] at hok
  | n + 1, .fork .nil _, listed, a, w, hok, hd, h => by simp [okOrd] at hok
  | n + 1, .fork (.fork _ _) _, listed, a, w, hok, hd, h => by simp [okOrd] at hok
  | n + 1, .fork (.cons _ _) .nil, listed, a, w, hok, hd, h => by simp [okOrd] at hok
  | n + 1, .fork (.cons _ _) (.fork _ _), listed, a, w, hok, hd, h => by simp [okOrd] at hok
  | n + 1, .fork (.cons i s) (.cons j t), listed, a, w, hok, hd, h => by
    simp only [okOrd, Bool.and_eq_true, beq_iff_eq, decide_eq_true_eq] at hok
    obtain ⟨⟨⟨⟨hr, hki⟩, hkj⟩, hok1⟩, hok2⟩ := hok
    have hi' : i ∈ Region.ready md ops listed := by rw [hr]; simp
    have hj' : j ∈ Region.ready md ops listed := by rw [hr]; simp
    refine ⟨fun h0 => (by rw [hr] at h0; cases h0), fun k hk => ?_⟩
    rw [hr] at hk
    simp only [List.mem_cons, List.not_mem_nil, or_false] at hk
    rcases hk with rfl | rfl
    · obtain ⟨_, o, ho, _⟩ := mem_ready.1 hi'
      simp only [kindAt, ho] at hki
      exact canE_effect hXo ho (by omega) (fun a' w' hc => wpAnyE_of_can hs F Xo hXo n s _ _ _ hok1 (hd.set hi') hc) h.1
    · obtain ⟨_, o, ho, _⟩ := mem_ready.1 hj'
      simp only [kindAt, ho] at hkj
      exact canE_effect hXo ho (by omega) (fun a' w' hc => wpAnyE_of_can hs F Xo hXo n t _ _ _ hok2 (hd.set hj') hc) h.2
  | n + 1, .cons i rest, listed, a, w, hok, hd, h => by
    simp only [okOrd, Bool.and_eq_true] at hok
    obtain ⟨hok1, hok2⟩ := hok
    cases ho : ops[i]? with
    | none => simp [ho] at hok1
    | some o =>
      simp only [ho] at hok1
      split at hok1
      · rename_i hk
        simp only [Bool.and_eq_true, Bool.or_eq_true] at hok1
        obtain ⟨⟨⟨hr, hfree⟩, hX⟩, hsens⟩ := hok1
        have hr' : i ∈ Region.ready md ops listed := by simpa using hr
        obtain ⟨af, wf, ⟨⟨hfin, hrds⟩, _⟩, hkeep⟩ := wpCanEE_get (.cons i rest) a w h
        have hsame : ∀ x ∈ sens o, af.eval x = a.eval x := by
          intro x hx
          rw [List.all_eq_true] at hsens
          have := hsens x hx
          cases x with
          | tmp t =>
            simp only [List.all_eq_true] at this
            exact hkeep t fun j hj => by simpa using this j hj
          | const v => rfl
          | global g => rfl
          | func f => rfl
        have hofin : okFin a.eval o = true := by
          have h1 : okFin af.eval o = true := by
            unfold fin at hfin
            rw [List.all_eq_true] at hfin
            exact hfin o (by rw [Array.mem_toList_iff]; exact Array.mem_of_getElem? ho)
          rw [← okFin_congr (ρ := af.eval) (ρ' := a.eval) o hsame]
          exact h1
        have hord : readsIn (fun k => ∀ j, X j = true → reach md ops F i j = false → B j k) a.eval o := by
          rw [← readsIn_congr (ρ := af.eval) (ρ' := a.eval) o hsame]
          exact hrds i o ho
        obtain ⟨s, hs1, hcalm⟩ := calm_op (P := P) o a.eval (fun k => ∀ j, X j = true → reach md ops F i j = false → B j k) hk hofin (fun _ => hord)
        have hfirst : ∀ v, YieldsIf P ops (fun w2 => (opKind P o == 1) = true → Held (fun k => ∀ j, X j = true → reach md ops F i j = false → B j k) w w2) o v a →
            wpCanE P ops (Tame fun e a w => (fin ops a = true ∧ readsE X md F B ops a) ∧ Q e a w) B Xo rest (a.put o.dst v) w →
            wpAnyE P md ops (Tame fun e a w => (fin ops a = true ∧ readsE X md F B ops a) ∧ Q e a w) B X (n + 1) listed a w := by
          intro v hy hc
          refine wpAnyE_first (F := F) ho (Region.noSelect_spec hs) (fun c a w h => h) n listed a w hd (Region.free_spec ho hfree) ?_ hr' hy
            (wpAnyE_of_can hs F Xo hXo n rest _ _ _ hok2 (hd.set hr') hc)
          intro hrd j hun hji
          rcases hX with hX | hX
          · exfalso; simp at hrd hX; omega
          · rw [List.all_eq_true] at hX
            have hlt : j < listed.size := by
              rcases Nat.lt_or_ge j listed.size with h' | h'
              · exact h'
              · simp [Array.getElem?_eq_none h'] at hun
            have := hX j (List.mem_range.2 hlt)
            simp only [hun, Bool.or_eq_true, beq_iff_eq, hji] at this
            have this : X j = true ∨ reach md ops F i j = true := by simpa using this
            cases hre : reach md ops F i j with
            | true => exact .inr rfl
            | false =>
              rw [hre] at this
              have hx : X j = true := by simpa using this
              exact .inl ⟨hx, fun k hk => hk j hx hre⟩
        unfold wpCanE wpOp at h
        simp only [ho] at h
        split at h
        · rename_i hwant
          rcases h with h | ⟨_, h⟩
          case inr => exact (Tame.lets h).elim
          unfold Oper.wp at h
          rw [hs1] at h
          simp only [Sem.run_bind, Sem.run_pure] at h
          cases hrun : s.run P w with
          | ok v w' =>
            obtain ⟨rfl, hst⟩ := hcalm.stable w v w' hrun
            rw [hrun] at h
            simp only [Result.andThen_ok, Oper.upon] at h
            refine hfirst v (.inl ⟨hwant, fun w2 ha => ?_⟩) h.2
            have hh : Held (fun k => opKind P o = 1 ∧ (∀ j, X j = true → reach md ops F i j = false → B j k)) w' w2 := by
              by_cases hk1 : opKind P o = 1
              · exact (ha (by simp [hk1])).mono fun k h => h.2
              · exact .inr fun k o hm => absurd hm.1 hk1
            rw [hs1, Sem.run_bind, hst w2 hh]
            rfl
          | halt x w' =>
            rw [hrun] at h
            simp only [Result.andThen] at h
            cases x <;> simp only [Oper.upon] at h <;> exact h.elim
        · rename_i hwant
          exact hfirst undef (.inr ⟨by simpa using hwant, rfl⟩) h.2
      · rename_i hk
        have hr : Region.ready md ops listed = [i] := by simpa using hok1
        have hr' : i ∈ Region.ready md ops listed := by rw [hr]; simp
        refine ⟨fun h0 => (by rw [hr] at h0; cases h0), fun j hj => ?_⟩
        rw [hr] at hj
        obtain rfl : j = i := by simpa using hj
        exact canE_effect hXo ho hk (fun a' w' hc => wpAnyE_of_can hs F Xo hXo n rest _ _ _ hok2 (hd.set hr') hc) h
end
section
variable {P : Program} {ops : Array Oper} {Q : Exit → Act → World → Prop} {B : Nat → Nat → Prop} {R : Act → Prop}
/-- the pieces, one after the other; what is flagged leaves the blocks of B -/
def wpSgE (P : Program) (ops : Array Oper) (Q : Exit → Act → World → Prop) (B : Nat → Nat → Prop) (R : Act → Prop) : Sg → Act → World → Prop
  | .done, a, w => (fin ops a = true ∧ R a) ∧ Q .normal a w
  | .seg l true r, a, w => wpList P ops (Exit.then (fun a' w' => Held (B (l.getD 0 0)) w w' ∧ wpSgE P ops Q B R r a' w') shut) (l.map fun i => ops.toList.getD i default) a w
  | .seg l false r, a, w => wpList P ops (Exit.then (wpSgE P ops Q B R r) shut) (l.map fun i => ops.toList.getD i default) a w
  | .fork s t, a, w => wpSgE P ops Q B R s a w ∧ wpSgE P ops Q B R t a w
theorem canE_of_list {Xo : Nat → Bool} {K : Act → World → Prop} {more : Tr} (hK : ∀ a w, K a w → wpCanE P ops (Tame fun e a w => (fin ops a = true ∧ R a) ∧ Q e a w) B Xo more a w) :
    ∀ (l : List Nat) (a : Act) (w : World), (l.all fun i => !Xo i && decide (i < ops.size)) = true → wpList P ops (Exit.then K shut) (l.map fun i => ops.toList.getD i default) a w →
      wpCanE P ops (Tame fun e a w => (fin ops a = true ∧ R a) ∧ Q e a w) B Xo (addTr l more) a w
  | [], a, w, _, h => hK a w h
  | i :: l, a, w, hx, h => by
    simp only [List.all_cons, Bool.and_eq_true, decide_eq_true_eq] at hx
    have ho : ops[i]? = some ops[i] := Array.getElem?_eq_getElem hx.1.2
    rw [List.map_cons, show ops.toList.getD i default = ops[i] from by simp [List.getD_eq_getElem?_getD, hx.1.2]] at h
    simp only [addTr, wpCanE]
    have h1 := wpList_cons_op ho h
    have h2 := wpOp_monoQ (Q2 := Tame fun e a w => (fin ops a = true ∧ R a) ∧ Q e a w) (fun e a w hne hh => by cases e <;> first | exact absurd rfl hne | exact hh) h1
    refine wpOp_mono (fun a' w' h3 => ⟨fun hxi => ?_, canE_of_list hK l a' w' (by simpa using hx.2) h3⟩) h2
    rw [hxi] at hx; simp at hx

theorem canE_of_sg {Xo : Nat → Bool} : ∀ (s : Sg) (a : Act) (w : World), sgOk Xo ops.size s = true → wpSgE P ops Q B R s a w →
    wpCanE P ops (Tame fun e a w => (fin ops a = true ∧ R a) ∧ Q e a w) B Xo s.tr a w
  | .done, a, w, _, h => h
  | .fork s t, a, w, hs, h => by
    simp only [sgOk, Bool.and_eq_true] at hs
    exact ⟨canE_of_sg s a w hs.1 h.1, canE_of_sg t a w hs.2 h.2⟩
  | .seg l false r, a, w, hs, h => by
    simp only [sgOk, Bool.and_eq_true] at hs
    exact canE_of_list (fun a w hk => canE_of_sg r a w hs.2 hk) l a w hs.1 h
  | .seg l true r, a, w, hs, h => by
    simp only [sgOk, Bool.and_eq_true, beq_iff_eq] at hs
    obtain ⟨⟨h1, h2⟩, h3⟩ := hs
    match l, h1, h2, h with
    | [i], _, hi, h =>
      simp only [List.all_cons, List.all_nil, Bool.and_true, decide_eq_true_eq] at hi
      have ho : ops[i]? = some ops[i] := Array.getElem?_eq_getElem hi
      simp only [wpSgE] at h
      rw [List.map_cons, List.map_nil, show ops.toList.getD i default = ops[i] from by simp [List.getD_eq_getElem?_getD, hi]] at h
      have h1 := wpList_cons_op ho h
      have h2 := wpOp_monoQ (Q2 := Tame fun e a w => (fin ops a = true ∧ R a) ∧ Q e a w) (fun e a w hne hh => by cases e <;> first | exact absurd rfl hne | exact hh) h1
      simp only [Sg.tr, addTr, wpCanE]
      exact wpOp_mono (fun a' w' h4 => ⟨fun _ => h4.1, canE_of_sg r a' w' h3 h4.2⟩) h2

/-- THE LAW for a region in which each effect has blocks of its own that it leaves -/
theorem region_effects_at (B : Nat → Nat → Prop) (s : Sg) {id : Nat} {a : Act} {w : World} (hm : P.follows .mixedOrders = true) (hok : okRegion P ops s = true)
    (h : wpSgE P ops Q B (readsE (fun j => (mustKeep P ops [] s.tr).contains j) .any ops.size B ops) s a w.drew) : (Code.region id ops true).wp P Q a w := by
  unfold okRegion at hok
  simp only [Bool.and_eq_true, beq_iff_eq] at hok
  obtain ⟨⟨⟨h1, h2⟩, h3⟩, h4⟩ := hok
  refine Code.wp_mono Tame.imp ?_
  refine Code.wp_mono (Q := Tame fun e a w => (fin ops a = true ∧ readsE (fun j => (mustKeep P ops [] s.tr).contains j) .any ops.size B ops a) ∧ Q e a w) (fun e a w hh => by cases e <;> first | exact hh.2 | exact (hh : False).elim) ?_
  refine wp_region_any hm ?_
  refine wpAny_of_E (B := B) _ _ _ _ (wpAnyE_of_can h1 ops.size _ ?_ _ _ _ _ _ h3 ?_ (canE_of_sg s a _ h4 h))
  · intro i o ho hx hk
    simp only [ho, Bool.and_eq_true, decide_eq_true_eq]
    exact ⟨hx, hk⟩
  · intro j o ho hj
    exfalso
    rcases Nat.lt_or_ge j ops.size with h' | h' <;> simp [h'] at hj
/-- all that may come behind effect J is among lx -/
def lateOk (ops : Array Oper) (J : Nat) (lx : List Nat) : Bool := (List.range ops.size).all fun i => reach .any ops ops.size i J || lx.contains i
theorem readsIn_mono {m n : Nat → Prop} {ρ : Operand → Value} {o : Oper} (h : readsIn m ρ o) (hmn : ∀ k, m k → n k) : readsIn n ρ o := by
  unfold readsIn at h ⊢
  split at h <;> (try split at h) <;> first | exact hmn _ h | trivial | exact fun k => hmn k (h k)
theorem readsIn_all {n : Nat → Prop} {ρ : Operand → Value} {o : Oper} (h : ∀ k, n k) : readsIn n ρ o := by
  unfold readsIn
  split <;> (try split) <;> first | exact h _ | trivial | exact fun k => h k
theorem readsL_mem {m : Nat → Prop} {ρ : Operand → Value} {l : List Oper} {o : Oper} (h : readsL m ρ l) (ho : o ∈ l) : readsIn m ρ o := by
  induction l with
  | nil => cases ho
  | cons x l ih =>
    rcases List.mem_cons.1 ho with e | ho
    · rw [e]; exact h.1
    · exact ih h.2 ho
theorem wpSgE_imp {B : Nat → Nat → Prop} {R R' : Act → Prop} (hR : ∀ a, R a → R' a) : ∀ (s : Sg) (a : Act) (w : World), wpSgE P ops Q B R s a w → wpSgE P ops Q B R' s a w
  | .done, a, w, h => ⟨⟨h.1.1, hR a h.1.2⟩, h.2⟩
  | .fork s t, a, w, h => ⟨wpSgE_imp hR s a w h.1, wpSgE_imp hR t a w h.2⟩
  | .seg l true r, a, w, h => by
    refine wpList_monoQ ?_ _ a w h
    intro e a w hh
    cases e <;> first | exact ⟨hh.1, wpSgE_imp hR r _ _ hh.2⟩ | exact hh
  | .seg l false r, a, w, h => by
    refine wpList_monoQ ?_ _ a w h
    intro e a w hh
    cases e <;> first | exact wpSgE_imp hR r _ _ hh | exact hh
/-- the law where one effect, J, writes what was read ahead of it; lx: what may come behind it -/
theorem region_store_at (J : Nat) (m : Nat → Prop) (lx : List Nat) (s : Sg) {id : Nat} {a : Act} {w : World} (hm : P.follows .mixedOrders = true) (hok : okRegion P ops s = true) (hlx : lateOk ops J lx = true)
    (h : wpSgE P ops Q (fun j k => j = J → m k) (fun a => readsL m a.eval (lx.map fun i => ops.toList.getD i default)) s a w.drew) : (Code.region id ops true).wp P Q a w := by
  refine region_effects_at (fun j k => j = J → m k) s hm hok (wpSgE_imp (fun a h => ?_) s a _ h)
  intro i o ho
  cases hr : reach .any ops ops.size i J with
  | true => exact readsIn_all fun k j hx hre hj => by rw [hj, hr] at hre; cases hre
  | false =>
    have hi : i < ops.size := (Array.getElem?_eq_some_iff.1 ho).1
    refine readsIn_mono (readsL_mem h ?_) fun k hk j _ _ _ => hk
    unfold lateOk at hlx
    rw [List.all_eq_true] at hlx
    have h1 := hlx i (List.mem_range.2 hi)
    rw [hr, Bool.false_or] at h1
    refine List.mem_map.2 ⟨i, by simpa using h1, ?_⟩
    have h2 : ops[i] = o := (Array.getElem?_eq_some_iff.1 ho).2
    simp [List.getD_eq_getElem?_getD, hi, h2]
end
end Go.Proofs.YtbeblbgbngplhaaGreat

/- RegN -/
namespace Go.Proofs.YtbeblbgbngplhaaGreat
open Go.RowKit
set_option linter.unusedVariables false
set_option linter.unusedSimpArgs false

section
variable {P : Program} {ops : Array Oper} {Q : Exit → Act → World → Prop} {md : Region.Mode} {B : Nat → Prop} {X : Nat → Bool}
end
section
variable {P : Program} {ops : Array Oper} {Q : Exit → Act → World → Prop} {B : Nat → Prop}
end
end Go.Proofs.YtbeblbgbngplhaaGreat
