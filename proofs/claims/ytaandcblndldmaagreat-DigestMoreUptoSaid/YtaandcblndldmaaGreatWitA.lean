/- Regions that draw their order: each effect leaves blocks of its own. | A region that draws its order, where more than two effects are ready at once: the law for orders with many branches. | graph.ownTree: the contract. | graph.ownTree, ownBase, New: contracts. | graph.New: the contract. | A graph of the program's and the document's, with the same commits. | varvelaw13.both: the contract. (printed by wip/tools/genboth.py) | Ancestors, plainly: by parents, and by vectors. No program in sight. | base.ancestors, plainly. No program in sight. | The plain law of BaseAncestors. No program in sight. | Levels of commits, plainly. No program in sight. | Rows of rows of dots in memory of one's own. | slices.ContainsFunc of commits by any function; base.greatest: contracts. | varvelaw13.reach: the contract. | base.ancestors: the contract. (printed by wip/tools/genanca.py) | base.Of: the contract. (printed by wip/tools/genofa.py) | The page's example of bases, plainly: a fork, and one that shares nothing. No program in sight. | slices.DeleteFunc of commits in a row of their own, by any function: contract. (printed by wip/tools/gendelc.py) | Graph.Base, base.Within: the contracts. -/
import Derived.Test.YtaandcblndldmaaGreatBase
import Derived.Test.YtaandcblndldmaaGreatOwtB
import Derived.Test.YtaandcblndldmaaGreatGraC
import Derived.Test.YtaandcblndldmaaGreatRMbA
import Derived.Test.YtaandcblndldmaaGreatRgE
import Derived.Test.YtaandcblndldmaaGreatGraV
/- RegO -/
/- RegO -/
namespace Go.Proofs.YtaandcblndldmaaGreat
open Go.RowKit
set_option linter.unusedVariables false
set_option linter.unusedSimpArgs false

section
variable {P : Program} {ops : Array Oper} {Q : Exit → Act → World → Prop} {md : Region.Mode} {B : Nat → Nat → Prop} {X : Nat → Bool}
/-- whatever order is picked from here on; behind what X names all blocks are there again -/
def wpAnyE (P : Program) (md : Region.Mode) (ops : Array Oper) (Q : Exit → Act → World → Prop) (B : Nat → Nat → Prop) (X : Nat → Bool) : Nat → Array Bool → Act → World → Prop
  | 0, listed, a, w => Region.ready md ops listed = [] ∧ Q .normal a w
  | fuel + 1, listed, a, w =>
    (Region.ready md ops listed = [] → Q .normal a w) ∧
    ∀ i ∈ Region.ready md ops listed, wpOp P ops Q i (fun a' w' => (X i = true → Held (B i) w w') ∧ wpAnyE P md ops Q B X fuel (listed.setIfInBounds i true) a' w') a w

theorem wpAny_of_E : ∀ (fuel : Nat) (listed : Array Bool) (a : Act) (w : World), wpAnyE P md ops Q B X fuel listed a w → wpAny P md ops Q fuel listed a w
  | 0, _, _, _, h => h
  | fuel + 1, _, _, _, h => ⟨h.1, fun i hi => wpOp_mono (fun a' w' h' => wpAny_of_E fuel _ a' w' h'.2) (h.2 i hi)⟩

theorem wpAnyE_first {i : Nat} {oi : Oper} {v : Value} {rd : Bool} {F : Nat} {Bi : Nat → Prop} (hi : ops[i]? = some oi) (hsel : ∀ (j : Nat) (o : Oper) cs b, ops[j]? = some o → o.op ≠ .select cs b)
    (hQ : ∀ c a w, Q (.panic c) (a.put oi.dst v) w → Q (.panic c) a w) :
    ∀ (fuel : Nat) (listed : Array Bool) (a : Act) (w : World), Down md ops listed →
      (∀ j oj, ops[j]? = some oj → j ≠ i → listed.getD j true = false → (∀ e ∈ oj.after, Region.binds md e = true → e.on ≠ i) → oi.apart ops oj = true) →
      (rd = true → ∀ j, listed.getD j true = false → j ≠ i → (X j = true ∧ ∀ k, Bi k → B j k) ∨ reach md ops F i j = true) →
      i ∈ Region.ready md ops listed → YieldsIf P ops (fun w2 => rd = true → Held Bi w w2) oi v a →
      wpAnyE P md ops Q B X fuel (listed.setIfInBounds i true) (a.put oi.dst v) w → wpAnyE P md ops Q B X (fuel + 1) listed a w := by
  intro fuel
  induction fuel with
  | zero =>
    intro listed a w _ _ _ hr hy H
    refine ⟨fun h => (by rw [h] at hr; cases hr), fun j hj => ?_⟩
    by_cases hji : j = i
    · subst hji; exact hy.wpOp hi (fun _ => Held.refl _ _) ⟨fun _ => Held.refl _ _, H⟩
    · have := ready_mono hj hji
      rw [H.1] at this
      cases this
  | succ fuel ih =>
    intro listed a w hd hfree hX hr hy H
    refine ⟨fun h => (by rw [h] at hr; cases hr), fun j hj => ?_⟩
    by_cases hji : j = i
    · subst hji; exact hy.wpOp hi (fun _ => Held.refl _ _) ⟨fun _ => Held.refl _ _, H⟩
    · have h1 := H.2 j (ready_mono hj hji)
      obtain ⟨hjun, oj, hoj, hall⟩ := mem_ready.1 hj
      have h0 := (mem_ready.1 hr).1
      have hi0 : ¬ listed.getD i false = true := by
        intro hh
        rcases Nat.lt_or_ge i listed.size with h' | h'
        · simp [h'] at h0 hh; rw [h0] at hh; cases hh
        · simp [Array.getElem?_eq_none h'] at hh
      have hnot : ∀ e ∈ oj.after, Region.binds md e = true → e.on ≠ i := fun e he hb heq => by
        have h1 := hall e he hb
        rw [heq] at h1
        exact hi0 h1
      have hXj : rd = true → X j = true ∧ ∀ k, Bi k → B j k := fun hrd => by
        rcases hX hrd j hjun hji with h | h
        · exact h
        · exact absurd (reach_listed hd i F j oj hoj hall h) hi0
      have h2 := wpOp_putIf hoj (hfree j oj hoj hji hjun hnot) (fun cs b => hsel i oi cs b hi) (fun cs b => hsel j oj cs b hoj) hQ hy h1
      have hfree' : ∀ k ok, ops[k]? = some ok → k ≠ i → (listed.setIfInBounds j true).getD k true = false →
          (∀ e ∈ ok.after, Region.binds md e = true → e.on ≠ i) → oi.apart ops ok = true := fun k ok hk hki hun hno => by
        refine hfree k ok hk hki ?_ hno
        by_cases hjk : j = k
        · subst hjk; exact hjun
        · rw [getD_set_ne true hjk] at hun; exact hun
      have hX' : rd = true → ∀ k, (listed.setIfInBounds j true).getD k true = false → k ≠ i → (X k = true ∧ ∀ q, Bi q → B k q) ∨ reach md ops F i k = true := fun hrd k hun hki => by
        refine hX hrd k ?_ hki
        by_cases hjk : j = k
        · subst hjk; exact hjun
        · rw [getD_set_ne true hjk] at hun; exact hun
      refine wpOp_mono (fun a' w' h3 => ⟨h3.2.1, ih (listed.setIfInBounds j true) a' w' (hd.set hj) hfree' hX' (ready_mono hr (Ne.symm hji)) (yields_mono h3.1 ?_) ?_⟩) h2
      · exact fun w2 hs hrd => ((h3.2.1 (hXj hrd).1).mono (hXj hrd).2).trans (hs hrd)
      · rw [Array.setIfInBounds_comm _ _ hji]
        exact h3.2.2

/-- the order; behind what Xo names it is asked that all blocks are there again -/
def wpCanE (P : Program) (ops : Array Oper) (Q : Exit → Act → World → Prop) (B : Nat → Nat → Prop) (Xo : Nat → Bool) : Tr → Act → World → Prop
  | .nil, a, w => Q .normal a w
  | .cons i rest, a, w => wpOp P ops Q i (fun a' w' => (Xo i = true → Held (B i) w w') ∧ wpCanE P ops Q B Xo rest a' w') a w
  | .fork s t, a, w => wpCanE P ops Q B Xo s a w ∧ wpCanE P ops Q B Xo t a w

theorem wpCanEE_get {Xo : Nat → Bool} : ∀ (l : Tr) (a : Act) (w : World), wpCanE P ops (Tame Q) B Xo l a w →
    ∃ a' w', Q .normal a' w' ∧ ∀ d, (∀ i ∈ l.all, (ops[i]?).bind (·.dst) ≠ some d) → a'.tmps.getD d undef = a.tmps.getD d undef
  | .nil, a, w, h => ⟨a, w, h, fun _ _ => rfl⟩
  | .cons i rest, a, w, h => by
    obtain ⟨a1, w1, ⟨_, h1⟩, hk⟩ := wpOp_get h
    obtain ⟨a2, w2, h2, hk2⟩ := wpCanEE_get rest a1 w1 h1
    exact ⟨a2, w2, h2, fun d hd => (hk2 d fun j hj => hd j (by simp [Tr.all, hj])).trans (hk d (hd i (by simp [Tr.all])))⟩
  | .fork s t, a, w, h => by
    obtain ⟨a2, w2, h2, hk2⟩ := wpCanEE_get s a w h.1
    exact ⟨a2, w2, h2, fun d hd => hk2 d fun j hj => hd j (by simp [Tr.all, hj])⟩

/-- what is read lies where no effect writes that may come ahead of it -/
def readsE (X : Nat → Bool) (md : Region.Mode) (F : Nat) (B : Nat → Nat → Prop) (ops : Array Oper) (a : Act) : Prop := ∀ i o, ops[i]? = some o → readsIn (fun k => ∀ j, X j = true → reach md ops F i j = false → B j k) a.eval o
theorem canE_effect {Xo : Nat → Bool} (hXo : ∀ i o, ops[i]? = some o → X i = true → 2 < opKind P o → Xo i = true) {j : Nat} {o : Oper} (ho : ops[j]? = some o) (hk : ¬ opKind P o ≤ 1) {rest : Tr} {K : Act → World → Prop} {a : Act} {w : World}
    (hnext : ∀ a' w', wpCanE P ops (Tame Q) B Xo rest a' w' → K a' w') (h : wpCanE P ops (Tame Q) B Xo (.cons j rest) a w) :
    wpOp P ops (Tame Q) j (fun a' w' => (X j = true → Held (B j) w w') ∧ K a' w') a w := by
  by_cases hk2 : opKind P o = 2
  · obtain ⟨s, hs1, hadds⟩ := adds_op (P := P) o a.eval hk2
    unfold wpCanE wpOp at h
    unfold wpOp
    simp only [ho] at h ⊢
    split at h
    · rename_i hwant
      rw [if_pos hwant]
      rcases h with h | ⟨_, h⟩
      case inr => exact (Tame.lets h).elim
      refine .inl ?_
      unfold Oper.wp at h ⊢
      rw [hs1] at h ⊢
      simp only [Sem.run_bind, Sem.run_pure] at h ⊢
      cases hrun : s.run P w with
      | ok v w' =>
        rw [hrun] at h
        simp only [Result.andThen_ok, Oper.upon] at h ⊢
        exact ⟨fun _ => .inl (hadds.agree w v w' hrun), hnext _ _ h.2⟩
      | halt x w' =>
        rw [hrun] at h
        simp only [Result.andThen] at h
        cases x <;> simp only [Oper.upon] at h <;> exact h.elim
    · rename_i hwant
      rw [if_neg hwant]
      exact ⟨fun _ => Held.refl _ _, hnext _ _ h.2⟩
  · exact wpOp_mono (fun a' w' h3 => ⟨fun hx => h3.1 (hXo j o ho hx (by omega)), hnext _ _ h3.2⟩) h

theorem wpAnyE_of_can (hs : Region.noSelect ops = true) (F : Nat) (Xo : Nat → Bool) (hXo : ∀ i o, ops[i]? = some o → X i = true → 2 < opKind P o → Xo i = true) :
    ∀ (n : Nat) (l : Tr) (listed : Array Bool) (a : Act) (w : World), okOrd P md ops F X n l listed = true → Down md ops listed →
      wpCanE P ops (Tame fun e a w => (fin ops a = true ∧ readsE X md F B ops a) ∧ Q e a w) B Xo l a w → wpAnyE P md ops (Tame fun e a w => (fin ops a = true ∧ readsE X md F B ops a) ∧ Q e a w) B X n listed a w
  | 0, .nil, listed, a, w, hok, hd, h => by
    simp only [okOrd, List.isEmpty_iff] at hok
    exact ⟨hok, h⟩
  | 0, .cons _ _, listed, a, w, hok, hd, h => by simp [okOrd] at hok
  | 0, .fork _ _, listed, a, w, hok, hd, h => by simp [okOrd] at hok
  | n + 1, .nil, listed, a, w, hok, hd, h => by simp [okOrd] at hok
  | n + 1, .fork .nil _, listed, a, w, hok, hd, h => by simp [okOrd] at hok
  | n + 1, .fork (.fork _ _) _, listed, a, w, hok, hd, h => by simp [okOrd] at hok
  | n + 1, .fork (.cons _ _) .nil, listed, a, w, hok, hd, h => by simp [okOrd] at hok
  | n + 1, .fork (.cons _ _) (.fork _ _), listed, a, w, hok, hd, h => by simp [okOrd] at hok
  | n + 1, .fork (.cons i s) (.cons j t), listed, a, w, hok, hd, h => by
    simp only [okOrd, Bool.and_eq_true, beq_iff_eq, decide_eq_true_eq] at hok
    obtain ⟨⟨⟨⟨hr, hki⟩, hkj⟩, hok1⟩, hok2⟩ := hok
    have hi' : i ∈ Region.ready md ops listed := by rw [hr]; simp
    have hj' : j ∈ Region.ready md ops listed := by rw [hr]; simp
    refine ⟨fun h0 => (by rw [hr] at h0; cases h0), fun k hk => ?_⟩
    rw [hr] at hk
    simp only [List.mem_cons, List.not_mem_nil, or_false] at hk
    rcases hk with rfl | rfl
    · obtain ⟨_, o, ho, _⟩ := mem_ready.1 hi'
      simp only [kindAt, ho] at hki
      exact canE_effect hXo ho (by omega) (fun a' w' hc => wpAnyE_of_can hs F Xo hXo n s _ _ _ hok1 (hd.set hi') hc) h.1
    · obtain ⟨_, o, ho, _⟩ := mem_ready.1 hj'
      simp only [kindAt, ho] at hkj
      exact canE_effect hXo ho (by omega) (fun a' w' hc => wpAnyE_of_can hs F Xo hXo n t _ _ _ hok2 (hd.set hj') hc) h.2
  | n + 1, .cons i rest, listed, a, w, hok, hd, h => by
    simp only [okOrd, Bool.and_eq_true] at hok
    obtain ⟨hok1, hok2⟩ := hok
    cases ho : ops[i]? with
    | none => simp [ho] at hok1
    | some o =>
      simp only [ho] at hok1
      split at hok1
      · rename_i hk
        simp only [Bool.and_eq_true, Bool.or_eq_true] at hok1
        obtain ⟨⟨⟨hr, hfree⟩, hX⟩, hsens⟩ := hok1
        have hr' : i ∈ Region.ready md ops listed := by simpa using hr
        obtain ⟨af, wf, ⟨⟨hfin, hrds⟩, _⟩, hkeep⟩ := wpCanEE_get (.cons i rest) a w h
        have hsame : ∀ x ∈ sens o, af.eval x = a.eval x := by
          intro x hx
          rw [List.all_eq_true] at hsens
          have := hsens x hx
          cases x with
          | tmp t =>
            simp only [List.all_eq_true] at this
            exact hkeep t fun j hj => by simpa using this j hj
          | const v => rfl
          | global g => rfl
          | func f => rfl
        have hofin : okFin a.eval o = true := by
          have h1 : okFin af.eval o = true := by
            unfold fin at hfin
            rw [List.all_eq_true] at hfin
            exact hfin o (by rw [Array.mem_toList_iff]; exact Array.mem_of_getElem? ho)
          rw [← okFin_congr (ρ := af.eval) (ρ' := a.eval) o hsame]
          exact h1
        have hord : readsIn (fun k => ∀ j, X j = true → reach md ops F i j = false → B j k) a.eval o := by
          rw [← readsIn_congr (ρ := af.eval) (ρ' := a.eval) o hsame]
          exact hrds i o ho
        obtain ⟨s, hs1, hcalm⟩ := calm_op (P := P) o a.eval (fun k => ∀ j, X j = true → reach md ops F i j = false → B j k) hk hofin (fun _ => hord)
        have hfirst : ∀ v, YieldsIf P ops (fun w2 => (opKind P o == 1) = true → Held (fun k => ∀ j, X j = true → reach md ops F i j = false → B j k) w w2) o v a →
            wpCanE P ops (Tame fun e a w => (fin ops a = true ∧ readsE X md F B ops a) ∧ Q e a w) B Xo rest (a.put o.dst v) w →
            wpAnyE P md ops (Tame fun e a w => (fin ops a = true ∧ readsE X md F B ops a) ∧ Q e a w) B X (n + 1) listed a w := by
          intro v hy hc
          refine wpAnyE_first (F := F) ho (Region.noSelect_spec hs) (fun c a w h => h) n listed a w hd (Region.free_spec ho hfree) ?_ hr' hy
            (wpAnyE_of_can hs F Xo hXo n rest _ _ _ hok2 (hd.set hr') hc)
          intro hrd j hun hji
          rcases hX with hX | hX
          · exfalso; simp at hrd hX; omega
          · rw [List.all_eq_true] at hX
            have hlt : j < listed.size := by
              rcases Nat.lt_or_ge j listed.size with h' | h'
              · exact h'
              · simp [Array.getElem?_eq_none h'] at hun
            have := hX j (List.mem_range.2 hlt)
            simp only [hun, Bool.or_eq_true, beq_iff_eq, hji] at this
            have this : X j = true ∨ reach md ops F i j = true := by simpa using this
            cases hre : reach md ops F i j with
            | true => exact .inr rfl
            | false =>
              rw [hre] at this
              have hx : X j = true := by simpa using this
              exact .inl ⟨hx, fun k hk => hk j hx hre⟩
        unfold wpCanE wpOp at h
        simp only [ho] at h
        split at h
        · rename_i hwant
          rcases h with h | ⟨_, h⟩
          case inr => exact (Tame.lets h).elim
          unfold Oper.wp at h
          rw [hs1] at h
          simp only [Sem.run_bind, Sem.run_pure] at h
          cases hrun : s.run P w with
          | ok v w' =>
            obtain ⟨rfl, hst⟩ := hcalm.stable w v w' hrun
            rw [hrun] at h
            simp only [Result.andThen_ok, Oper.upon] at h
            refine hfirst v (.inl ⟨hwant, fun w2 ha => ?_⟩) h.2
            have hh : Held (fun k => opKind P o = 1 ∧ (∀ j, X j = true → reach md ops F i j = false → B j k)) w' w2 := by
              by_cases hk1 : opKind P o = 1
              · exact (ha (by simp [hk1])).mono fun k h => h.2
              · exact .inr fun k o hm => absurd hm.1 hk1
            rw [hs1, Sem.run_bind, hst w2 hh]
            rfl
          | halt x w' =>
            rw [hrun] at h
            simp only [Result.andThen] at h
            cases x <;> simp only [Oper.upon] at h <;> exact h.elim
        · rename_i hwant
          exact hfirst undef (.inr ⟨by simpa using hwant, rfl⟩) h.2
      · rename_i hk
        have hr : Region.ready md ops listed = [i] := by simpa using hok1
        have hr' : i ∈ Region.ready md ops listed := by rw [hr]; simp
        refine ⟨fun h0 => (by rw [hr] at h0; cases h0), fun j hj => ?_⟩
        rw [hr] at hj
        obtain rfl : j = i := by simpa using hj
        exact canE_effect hXo ho hk (fun a' w' hc => wpAnyE_of_can hs F Xo hXo n rest _ _ _ hok2 (hd.set hr') hc) h
end
section
variable {P : Program} {ops : Array Oper} {Q : Exit → Act → World → Prop} {B : Nat → Nat → Prop} {R : Act → Prop}
/-- the pieces, one after the other; what is flagged leaves the blocks of B -/
def wpSgE (P : Program) (ops : Array Oper) (Q : Exit → Act → World → Prop) (B : Nat → Nat → Prop) (R : Act → Prop) : Sg → Act → World → Prop
  | .done, a, w => (fin ops a = true ∧ R a) ∧ Q .normal a w
  | .seg l true r, a, w => wpList P ops (Exit.then (fun a' w' => Held (B (l.getD 0 0)) w w' ∧ wpSgE P ops Q B R r a' w') shut) (l.map fun i => ops.toList.getD i default) a w
  | .seg l false r, a, w => wpList P ops (Exit.then (wpSgE P ops Q B R r) shut) (l.map fun i => ops.toList.getD i default) a w
  | .fork s t, a, w => wpSgE P ops Q B R s a w ∧ wpSgE P ops Q B R t a w
theorem canE_of_list {Xo : Nat → Bool} {K : Act → World → Prop} {more : Tr} (hK : ∀ a w, K a w → wpCanE P ops (Tame fun e a w => (fin ops a = true ∧ R a) ∧ Q e a w) B Xo more a w) :
    ∀ (l : List Nat) (a : Act) (w : World), (l.all fun i => !Xo i && decide (i < ops.size)) = true → wpList P ops (Exit.then K shut) (l.map fun i => ops.toList.getD i default) a w →
      wpCanE P ops (Tame fun e a w => (fin ops a = true ∧ R a) ∧ Q e a w) B Xo (addTr l more) a w
  | [], a, w, _, h => hK a w h
  | i :: l, a, w, hx, h => by
    simp only [List.all_cons, Bool.and_eq_true, decide_eq_true_eq] at hx
    have ho : ops[i]? = some ops[i] := Array.getElem?_eq_getElem hx.1.2
    rw [List.map_cons, show ops.toList.getD i default = ops[i] from by simp [List.getD_eq_getElem?_getD, hx.1.2]] at h
    simp only [addTr, wpCanE]
    have h1 := wpList_cons_op ho h
    have h2 := wpOp_monoQ (Q2 := Tame fun e a w => (fin ops a = true ∧ R a) ∧ Q e a w) (fun e a w hne hh => by cases e <;> first | exact absurd rfl hne | exact hh) h1
    refine wpOp_mono (fun a' w' h3 => ⟨fun hxi => ?_, canE_of_list hK l a' w' (by simpa using hx.2) h3⟩) h2
    rw [hxi] at hx; simp at hx

theorem canE_of_sg {Xo : Nat → Bool} : ∀ (s : Sg) (a : Act) (w : World), sgOk Xo ops.size s = true → wpSgE P ops Q B R s a w →
    wpCanE P ops (Tame fun e a w => (fin ops a = true ∧ R a) ∧ Q e a w) B Xo s.tr a w
  | .done, a, w, _, h => h
  | .fork s t, a, w, hs, h => by
    simp only [sgOk, Bool.and_eq_true] at hs
    exact ⟨canE_of_sg s a w hs.1 h.1, canE_of_sg t a w hs.2 h.2⟩
  | .seg l false r, a, w, hs, h => by
    simp only [sgOk, Bool.and_eq_true] at hs
    exact canE_of_list (fun a w hk => canE_of_sg r a w hs.2 hk) l a w hs.1 h
  | .seg l true r, a, w, hs, h => by
    simp only [sgOk, Bool.and_eq_true, beq_iff_eq] at hs
    obtain ⟨⟨h1, h2⟩, h3⟩ := hs
    match l, h1, h2, h with
    | [i], _, hi, h =>
      simp only [List.all_cons, List.all_nil, Bool.and_true, decide_eq_true_eq] at hi
      have ho : ops[i]? = some ops[i] := Array.getElem?_eq_getElem hi
      simp only [wpSgE] at h
      rw [List.map_cons, List.map_nil, show ops.toList.getD i default = ops[i] from by simp [List.getD_eq_getElem?_getD, hi]] at h
      have h1 := wpList_cons_op ho h
      have h2 := wpOp_monoQ (Q2 := Tame fun e a w => (fin ops a = true ∧ R a) ∧ Q e a w) (fun e a w hne hh => by cases e <;> first | exact absurd rfl hne | exact hh) h1
      simp only [Sg.tr, addTr, wpCanE]
      exact wpOp_mono (fun a' w' h4 => ⟨fun _ => h4.1, canE_of_sg r a' w' h3 h4.2⟩) h2

/-- THE LAW for a region in which each effect has blocks of its own that it leaves -/
theorem region_effects_at (B : Nat → Nat → Prop) (s : Sg) {id : Nat} {a : Act} {w : World} (hm : P.follows .mixedOrders = true) (hok : okRegion P ops s = true)
    (h : wpSgE P ops Q B (readsE (fun j => (mustKeep P ops [] s.tr).contains j) .any ops.size B ops) s a w.drew) : (Code.region id ops true).wp P Q a w := by
  unfold okRegion at hok
  simp only [Bool.and_eq_true, beq_iff_eq] at hok
  obtain ⟨⟨⟨h1, h2⟩, h3⟩, h4⟩ := hok
  refine Code.wp_mono Tame.imp ?_
  refine Code.wp_mono (Q := Tame fun e a w => (fin ops a = true ∧ readsE (fun j => (mustKeep P ops [] s.tr).contains j) .any ops.size B ops a) ∧ Q e a w) (fun e a w hh => by cases e <;> first | exact hh.2 | exact (hh : False).elim) ?_
  refine wp_region_any hm ?_
  refine wpAny_of_E (B := B) _ _ _ _ (wpAnyE_of_can h1 ops.size _ ?_ _ _ _ _ _ h3 ?_ (canE_of_sg s a _ h4 h))
  · intro i o ho hx hk
    simp only [ho, Bool.and_eq_true, decide_eq_true_eq]
    exact ⟨hx, hk⟩
  · intro j o ho hj
    exfalso
    rcases Nat.lt_or_ge j ops.size with h' | h' <;> simp [h'] at hj
/-- all that may come behind effect J is among lx -/
def lateOk (ops : Array Oper) (J : Nat) (lx : List Nat) : Bool := (List.range ops.size).all fun i => reach .any ops ops.size i J || lx.contains i
theorem readsIn_mono {m n : Nat → Prop} {ρ : Operand → Value} {o : Oper} (h : readsIn m ρ o) (hmn : ∀ k, m k → n k) : readsIn n ρ o := by
  unfold readsIn at h ⊢
  split at h <;> (try split at h) <;> first | exact hmn _ h | trivial | exact fun k => hmn k (h k)
theorem readsIn_all {n : Nat → Prop} {ρ : Operand → Value} {o : Oper} (h : ∀ k, n k) : readsIn n ρ o := by
  unfold readsIn
  split <;> (try split) <;> first | exact h _ | trivial | exact fun k => h k
theorem readsL_mem {m : Nat → Prop} {ρ : Operand → Value} {l : List Oper} {o : Oper} (h : readsL m ρ l) (ho : o ∈ l) : readsIn m ρ o := by
  induction l with
  | nil => cases ho
  | cons x l ih =>
    rcases List.mem_cons.1 ho with e | ho
    · rw [e]; exact h.1
    · exact ih h.2 ho
theorem wpSgE_imp {B : Nat → Nat → Prop} {R R' : Act → Prop} (hR : ∀ a, R a → R' a) : ∀ (s : Sg) (a : Act) (w : World), wpSgE P ops Q B R s a w → wpSgE P ops Q B R' s a w
  | .done, a, w, h => ⟨⟨h.1.1, hR a h.1.2⟩, h.2⟩
  | .fork s t, a, w, h => ⟨wpSgE_imp hR s a w h.1, wpSgE_imp hR t a w h.2⟩
  | .seg l true r, a, w, h => by
    refine wpList_monoQ ?_ _ a w h
    intro e a w hh
    cases e <;> first | exact ⟨hh.1, wpSgE_imp hR r _ _ hh.2⟩ | exact hh
  | .seg l false r, a, w, h => by
    refine wpList_monoQ ?_ _ a w h
    intro e a w hh
    cases e <;> first | exact wpSgE_imp hR r _ _ hh | exact hh
/-- the law where one effect, J, writes what was read ahead of it; lx: what may come behind it -/
theorem region_store_at (J : Nat) (m : Nat → Prop) (lx : List Nat) (s : Sg) {id : Nat} {a : Act} {w : World} (hm : P.follows .mixedOrders = true) (hok : okRegion P ops s = true) (hlx : lateOk ops J lx = true)
    (h : wpSgE P ops Q (fun j k => j = J → m k) (fun a => readsL m a.eval (lx.map fun i => ops.toList.getD i default)) s a w.drew) : (Code.region id ops true).wp P Q a w := by
  refine region_effects_at (fun j k => j = J → m k) s hm hok (wpSgE_imp (fun a h => ?_) s a _ h)
  intro i o ho
  cases hr : reach .any ops ops.size i J with
  | true => exact readsIn_all fun k j hx hre hj => by rw [hj, hr] at hre; cases hre
  | false =>
    have hi : i < ops.size := (Array.getElem?_eq_some_iff.1 ho).1
    refine readsIn_mono (readsL_mem h ?_) fun k hk j _ _ _ => hk
    unfold lateOk at hlx
    rw [List.all_eq_true] at hlx
    have h1 := hlx i (List.mem_range.2 hi)
    rw [hr, Bool.false_or] at h1
    refine List.mem_map.2 ⟨i, by simpa using h1, ?_⟩
    have h2 : ops[i] = o := (Array.getElem?_eq_some_iff.1 ho).2
    simp [List.getD_eq_getElem?_getD, hi, h2]
end
end Go.Proofs.YtaandcblndldmaaGreat

/- RegN -/
namespace Go.Proofs.YtaandcblndldmaaGreat
open Go.RowKit
set_option linter.unusedVariables false
set_option linter.unusedSimpArgs false

section
variable {P : Program} {ops : Array Oper} {Q : Exit → Act → World → Prop} {md : Region.Mode} {B : Nat → Prop} {X : Nat → Bool}
end
section
variable {P : Program} {ops : Array Oper} {Q : Exit → Act → World → Prop} {B : Nat → Prop}
end
end Go.Proofs.YtaandcblndldmaaGreat

/- BasB -/
/- OwtC -/
namespace Go.Proofs.YtaandcblndldmaaGreat
open Go.RowKit
set_option linter.unusedVariables false
set_option linter.unusedSimpArgs false

abbrev fvT (bx : Nat) : Value := .func (.func 190) #[] #[.pointer (some ⟨bx, 0, none⟩)]
/-- a tree in rows of one's own is told -/
def OwtTo (w : World) (f : Nat) (T : List Nd) (e : Ending) (w' : World) : Prop := ∃ (a : Option Addr) (c : Nat) (U : List Nd), e = .returned (.slice a (List.length U) c) ∧ OwnT w' w.heap.size f a c U ∧ sameT f T U ∧ Below w.heap.size w w'
theorem OwnN.ptr {w : World} {base : Nat} {a : Option Addr} {c : Nat} {M : List Nd} (h : OwnN w base a c M) (h0 : 0 < M.length) : ∃ g, a = some ⟨g, 0, none⟩ := by
  rcases h.2 with ⟨h1, h2⟩ | ⟨g, cap, cur, h1, _⟩
  · simp at h1; omega
  · simp at h1; exact ⟨g, h1.1⟩
theorem OwnF.ptr {w : World} {base : Nat} {a : Option Addr} {c : Nat} {M : List Lv} (h : OwnF w base a c M) (h0 : 0 < M.length) : ∃ g, a = some ⟨g, 0, none⟩ := by
  rcases h.2 with ⟨h1, h2⟩ | ⟨g, cap, cur, h1, _⟩
  · simp at h1; omega
  · simp at h1; exact ⟨g, h1.1⟩
theorem OwnN.cell {w : World} {base g c q : Nat} {M : List Nd} {x : Nd} (h : OwnN w base (some ⟨g, 0, none⟩) c M) (hx : M[q]? = some x) :
    w.cell? ⟨g, q * 3, none⟩ = some (.string x.name) ∧ w.cell? ⟨g, q * 3 + 1, none⟩ = some (.slice x.la x.ls.length x.lc) ∧ w.cell? ⟨g, q * 3 + 2, none⟩ = some (.slice x.ba x.kids.length x.bc) := by
  have hq : q < M.length := (List.getElem?_eq_some_iff.1 hx).1
  have key : ∀ j, j < 3 → w.cell? ⟨g, q * 3 + j, none⟩ = (ndcell x)[j]? := fun j hj => by
    rw [World.ownsRow.cellAt h (q * 3 + j) (by omega)]
    exact flatMap_at (enc := ndcell) (k := 3) ndcell_len M q j x hx hj
  exact ⟨key 0 (by omega), key 1 (by omega), key 2 (by omega)⟩
theorem OwnF.cell {w : World} {base g c q : Nat} {M : List Lv} {v : Lv} (h : OwnF w base (some ⟨g, 0, none⟩) c M) (hv : M[q]? = some v) :
    w.cell? ⟨g, q * 9 + 7, none⟩ = some (.slice v.ia v.l.items.length v.ic) ∧ w.cell? ⟨g, q * 9 + 8, none⟩ = some (.slice v.ta v.l.tombs.length v.tc) := by
  have hq : q < M.length := (List.getElem?_eq_some_iff.1 hv).1
  have key : ∀ j, j < 9 → w.cell? ⟨g, q * 9 + j, none⟩ = (lvcell v)[j]? := fun j hj => by
    rw [World.ownsRow.cellAt h (q * 9 + j) (by omega)]
    exact flatMap_at (enc := lvcell) (k := 9) lvcell_len M q j v hv hj
  exact ⟨key 7 (by omega), key 8 (by omega)⟩
theorem held_cell {w : World} {b g j : Nat} {x : Value} {C : Array Value} {t : TypeId} {fr : Nat × Nat} (hb : w.heap[b]? = some (.cells C t fr)) (hne : b ≠ g) : Held (fun k => True → k = b) w (w.setCell ⟨g, j, none⟩ x) := .inr fun k o hk ho => by
  have hk := hk trivial
  subst hk
  rw [hb] at ho
  cases ho
  exact ⟨fun at_ u e => (by cases e), heap_chg hb (Chg.setCell w ⟨g, j, none⟩ x) (by simpa using hne)⟩
theorem OtE.round {b1 b5 b6 : Nat} {w wr w6 : World} {g c f : Nat} {T M : List Nd} {q : Nat} {x : Nd} {la ba : Option Addr} {lc bc : Nat} {N : List Lv} {U : List Nd} {C : Array Value} (h : OtE w.heap.size b1 wr (some ⟨g, 0, none⟩) c f T M q) (hx : T[q]? = some x)
    (B : BoxE 175 wr w6 C) (hb5 : b5 = wr.heap.size) (hb1 : b1 ≤ wr.heap.size) (hb6 : wr.heap.size + 1 ≤ b6) (hBw : Below w.heap.size w wr)
    (hl : OwnLs w6 (b5 + 1) la lc N) (hN : N.map (·.l) = x.ls.map (·.l)) (hk : OwnT w6 b6 f ba bc U) (hU : sameT f x.kids U) :
    OtE w.heap.size b1 ((((w6.setCell ⟨wr.heap.size, 2, none⟩ (.slice ba U.length bc)).setCell ⟨g, q * 3, none⟩ (.string x.name)).setCell ⟨g, q * 3 + 1, none⟩ (.slice la N.length lc)).setCell ⟨g, q * 3 + 2, none⟩ (.slice ba U.length bc)) (some ⟨g, 0, none⟩) c f T (M.set q (.mk x.name la lc N ba bc U)) (q + 1) ∧
      Below w.heap.size w ((((w6.setCell ⟨wr.heap.size, 2, none⟩ (.slice ba U.length bc)).setCell ⟨g, q * 3, none⟩ (.string x.name)).setCell ⟨g, q * 3 + 1, none⟩ (.slice la N.length lc)).setCell ⟨g, q * 3 + 2, none⟩ (.slice ba U.length bc)) ∧
      b1 ≤ ((((w6.setCell ⟨wr.heap.size, 2, none⟩ (.slice ba U.length bc)).setCell ⟨g, q * 3, none⟩ (.string x.name)).setCell ⟨g, q * 3 + 1, none⟩ (.slice la N.length lc)).setCell ⟨g, q * 3 + 2, none⟩ (.slice ba U.length bc)).heap.size := by
  have hC7 := Chg.setCell w6 ⟨wr.heap.size, 2, none⟩ (.slice ba U.length bc)
  have hB7 : Below wr.heap.size wr (w6.setCell ⟨wr.heap.size, 2, none⟩ (.slice ba U.length bc)) := B.bel.trans (hC7.below B.bel.size (by simp))
  have hl7 := (hl.chg hC7 (fun k hk => by simp at hk; omega)).base (b2 := b1) (by omega)
  have hk7 := OwnT.base (b2 := b1) (by omega) (OwnT.chg hC7 (fun k hk => by simp at hk; omega) hk)
  obtain ⟨S1, S2⟩ := (h.below hB7).step hx hl7 hN hk7 hU
  have hgb := (owns_lt h.row g (by simp [ob])).1
  have hws := hBw.size
  refine ⟨S1, (hBw.trans (hB7.mono hws)).trans (S2.below (Nat.le_trans hws hB7.size) (fun k hk => by rw [List.mem_singleton] at hk; omega)), ?_⟩
  exact Nat.le_trans (Nat.le_trans hb1 hB7.size) S2.size
set_option maxRecDepth 100000 in
set_option maxHeartbeats 8000000 in
theorem ownTree1_any (f : Nat) : ∀ (a : Option Addr) (c : Nat) (T : List Nd) (bx : Nat) (w : World), TrRd w f a c T → BdA 1100000 f T → w.cell? ⟨bx, 0, none⟩ = some (fvT bx) →
    Calls Tryz.prog 190 #[.slice a T.length c, .pointer (some ⟨bx, 0, none⟩)] w (OwtTo w f T) := by
  have he := enters_of Tryz.func190 (by kernel_rfl) rfl
  induction f with
  | zero =>
    intro a c T bx w hT _ hbx
    obtain ⟨rfl, hs⟩ := hT
    have Hs := Lib.hid hs
    clear hs hbx
    go_enter Tryz.func190, Tryz.ntmps190
    go_wp2_with fail
    refine (cloneN_any a c [] _ Hs.out (by simp)).mono ?_
    rintro e w1 ⟨a1, c1, v1, rfl, hv1, ho1, hb1⟩
    subst hv1
    have Ho := Lib.hid ho1
    have HB := Lib.hid hb1
    clear ho1 hb1
    go_wp2_with fail
    refine wp_loop_rounds 1 ?_
    rw [rounds_succ]
    go_wp2_with fail
    go_ret
    exact ⟨a1, c1, [], rfl, ⟨rfl, Ho.out⟩, ⟨rfl, rfl⟩, HB.out⟩
  | succ f ih =>
    intro a c T bx w hT hB hbx
    have HT := Lib.hid hT
    have HBd := Lib.hid hB
    have hbl : bx < w.heap.size := World.block_lt_of_cell? w _ hbx
    have hTl : T.length ≤ 1100000 := hB.1
    have Hbx := Lib.hid hbx
    have Ih := Lib.hid ih
    clear hT hB hbx ih
    go_enter Tryz.func190, Tryz.ntmps190
    go_wp2_with fail
    refine (cloneN_any a c T _ HT.out.sl (by omega)).mono ?_
    rintro e w1 ⟨a1, c1, v1, rfl, hv1, ho1, hb1⟩
    have e1 := hv1.symm
    clear hv1
    subst e1
    have E0 : Hid (OtE w.heap.size w1.heap.size w1 a1 c1 f T T 0) := Lib.hid (OtE.start ho1 (fun k hk => (owns_lt ho1 k hk).2))
    have HB1 := Lib.hid hb1
    have hw1 := hb1.size
    clear ho1 hb1
    go_wp2_with fail
    go_loopw [11] (fun j wr => ∃ (q : Nat) (M : List Nd), q ≤ T.length ∧ j = .int .i64 q ∧ Hid (OtE w.heap.size w1.heap.size wr a1 c1 f T M q) ∧ Hid (Below w.heap.size w wr) ∧ w1.heap.size ≤ wr.heap.size) (fun j _ => T.length - (intOf j).toNat)
    case atStart => exact ⟨0, T, Nat.zero_le _, rfl, E0, HB1, Nat.le_refl _⟩
    case round =>
      obtain ⟨q, M, hq, rfl, E, HBr, hwr⟩ := hrel
      clear E0 HB1
      by_cases hlt : q < T.length
      · obtain ⟨x, hx⟩ : ∃ x, T[q]? = some x := ⟨T[q], by simp [hlt]⟩
        obtain ⟨g, rfl⟩ := E.out.row.ptr (by rw [E.out.len]; omega)
        obtain ⟨c0, c1', c2'⟩ := E.out.row.cell (E.out.at_ hx)
        have hmem := List.mem_of_getElem? hx
        have Hm := Lib.hid (HT.out.2 x hmem)
        have Hb := Lib.hid (HBd.out.2 x hmem)
        have Hx := Lib.hid hx
        have hxl : x.ls.length ≤ 1100000 := (HBd.out.2 x hmem).1
        clear hx hmem
        go_wp2_with fail
        have hA : Below wr.heap.size wr (wr.alloc (.cells #[.string x.name, .slice x.la x.ls.length x.lc, .slice x.ba x.kids.length x.bc] 175)) := (Below.refl _ _).alloc (Nat.le_refl _) _
        have HA := Lib.hid hA
        clear hA c0 c1' c2'
        refine (cloneF_any x.la x.lc x.ls _ ((Hm.out.1.1.below HBr.out).below HA.out) (by omega)).mono ?_
        rintro e w2 ⟨a2, c2, v2, rfl, hv2, ho2, hb2⟩
        have e2 := hv2
        clear hv2
        have B2 : Hid (BoxE 175 wr w2 #[.string x.name, .slice x.la x.ls.length x.lc, .slice x.ba x.kids.length x.bc]) := Lib.hid (BoxE.of hb2)
        have Ho2 := Lib.hid (show OwnF w2 (wr.heap.size + 1) a2 c2 x.ls from owns_base (e2 ▸ ho2) (by simp))
        have e2l : v2.length = x.ls.length := by rw [e2]
        have d2 := cells_at B2.out.blk
        have f2 := free_at B2.out.blk
        have z2 := heap_lt B2.out.blk
        clear ho2 hb2 e2
        rw [e2l]
        clear e2l
        go_wp2_with fail
        have x3 : (w2.setCell ⟨wr.heap.size, 1, none⟩ (.slice a2 x.ls.length c2)).heap[wr.heap.size]? = some (.cells #[.string x.name, .slice a2 x.ls.length c2, .slice x.ba x.kids.length x.bc] 175 (0, 0)) := heap_setC B2.out.blk 1 _
        have hC3 := Chg.setCell w2 ⟨wr.heap.size, 1, none⟩ (.slice a2 x.ls.length c2)
        have hB3 : Below wr.heap.size wr (w2.setCell ⟨wr.heap.size, 1, none⟩ (.slice a2 x.ls.length c2)) := B2.out.bel.trans (hC3.below B2.out.bel.size (by simp))
        have ho3 : OwnF (w2.setCell ⟨wr.heap.size, 1, none⟩ (.slice a2 x.ls.length c2)) (wr.heap.size + 1) a2 c2 x.ls := owns_chg Ho2.out hC3 (fun k hk hm => by
          simp at hm
          subst hm
          obtain ⟨C, fr, hh⟩ := ob_row Ho2.out _ hk
          rw [B2.out.blk] at hh
          injection hh with hh
          injection hh with _ h2
          exact absurd h2 (by decide))
        generalize w2.setCell ⟨wr.heap.size, 1, none⟩ (.slice a2 x.ls.length c2) = w3 at *
        obtain ⟨b5, Hb5⟩ : ∃ b5, Hid (b5 = wr.heap.size) := ⟨_, Lib.hid rfl⟩
        have L3 : Hid (LsE (b5 + 1) w3 a2 c2 x.ls x.ls 0) := Lib.hid (LsE.start (by rw [Hb5.out]; exact ho3))
        have B3 : Hid (BoxE 175 wr w3 #[.string x.name, .slice a2 x.ls.length c2, .slice x.ba x.kids.length x.bc]) := Lib.hid ⟨x3, hB3⟩
        clear d2 f2 z2 x3 hC3 hB3 ho3 B2 Ho2
        go_loopw [23] (fun k wx => ∃ (r : Nat) (N : List Lv), r ≤ x.ls.length ∧ k = .int .i64 r ∧ Hid (LsE (b5 + 1) wx a2 c2 x.ls N r) ∧ Hid (BoxE 175 wr wx #[.string x.name, .slice a2 x.ls.length c2, .slice x.ba x.kids.length x.bc])) (fun k _ => x.ls.length - (intOf k).toNat)
        case atStart => exact ⟨0, x.ls, Nat.zero_le _, rfl, L3, B3⟩
        case round =>
          obtain ⟨r, N, hr, rfl, L, B⟩ := hrel
          clear L3 B3
          have d3 := cells_at B.out.blk
          have z3 := heap_lt B.out.blk
          by_cases hlt2 : r < x.ls.length
          · obtain ⟨v, hv⟩ : ∃ v, x.ls[r]? = some v := ⟨x.ls[r], by simp [hlt2]⟩
            obtain ⟨g2, rfl⟩ := L.out.row.ptr (by rw [L.out.len]; omega)
            obtain ⟨c7, c8⟩ := L.out.row.cell (L.out.at_ hv)
            have hmv := List.mem_of_getElem? hv
            have Hrv := Lib.hid (Hm.out.1.2 v hmv)
            have hbv := Hb.out.2.1 v hmv
            have Hv := Lib.hid hv
            clear hv hmv
            go_upto_region 9 with (fail)
            refine region_store_at 22 (fun k => k = b5) [3, 4, 5, 22, 23, 24, 25] (.seg [0, 1, 2, 3, 4, 5, 6, 7, 8, 9, 10, 11, 13, 14, 15, 16, 17, 18] false (.seg [12] true (.seg [19] true (.seg [20, 21] false (.seg [22] true (.seg [23, 24, 25] false .done)))))) mixed (by kernel_rfl) (by kernel_rfl) ?_
            simp only [wpSgE, List.map_cons, List.map_nil, List.getD_cons_succ, List.getD_cons_zero]
            go_wp2_with fail
            refine (cloneI_any v.ia v.ic v.l.items _ ((Hrv.out.1.its.below HBr.out).below B.out.bel.drew) (by omega)).mono ?_
            rintro e w4 ⟨ai, ci, v4, rfl, hv4, ho4, hb4⟩
            subst hv4
            have Hb4 := Lib.hid hb4
            have L4 := Lib.hid (L.out.below (((Below.refl _ _).drew).trans hb4))
            have B4 := Lib.hid (B.out.step (((Below.refl _ _).drew).trans hb4))
            have Ho4 := Lib.hid (show OwnI w4 (b5 + 1) ai ci v.l.items from owns_base ho4 (by have := Hb5.out; simp; omega))
            clear hb4 ho4 L B d3 z3 c7 c8
            go_wp2_with fail
            refine And.intro (.inl (Agree.of_below Hb4.out)) ?_
            go_wp2_with fail
            refine (cloneD_any v.ta v.tc v.l.tombs _ ((Hrv.out.1.tms.below HBr.out).below B4.out.bel) (by omega)).mono ?_
            rintro e w5 ⟨a5, c5, v5, rfl, hv5, ho5, hb5⟩
            subst hv5
            have Hbb := Lib.hid hb5
            have L5 := Lib.hid (L4.out.below hb5)
            have B5 := Lib.hid (B4.out.step hb5)
            have Ho5 := Lib.hid (show OwnD w5 (b5 + 1) a5 c5 v.l.tombs from owns_base ho5 (by have := Hb5.out; have := heap_lt B4.out.blk; omega))
            replace Ho4 := Lib.hid (Ho4.out.below hb5)
            obtain ⟨c7, c8⟩ := L5.out.row.cell (L5.out.at_ Hv.out)
            have fz := fun o => World.ownsRow.frozenAt L5.out.row o
            have hg2 := (owns_lt L5.out.row g2 (by simp [ob]))
            have Hk5 := Lib.hid (show w5.heap[b5]? = some (.cells #[.string x.name, .slice (some ⟨g2, 0, none⟩) x.ls.length c2, .slice x.ba x.kids.length x.bc] 175 (0, 0)) by rw [Hb5.out]; exact B5.out.blk)
            have LS := Lib.hid (LsE.step L5.out Hv.out Ho4.out Ho5.out Hrv.out.1.ok Hrv.out.2)
            clear hb5 ho5 L4 B4 Hb4
            go_wp2_with fail
            refine And.intro (.inl (Agree.of_below Hbb.out)) ?_
            go_wp2_with fail
            refine And.intro (held_cell Hk5.out (by omega)) ?_
            go_wp2_with fail
            refine And.intro (And.intro (by kernel_rfl) ?rds) ?_
            case rds => exact ⟨trivial, Hb5.out.symm, trivial, trivial, trivial, trivial, trivial, trivial⟩
            have B7 : Hid (BoxE 175 _ _ _) := Lib.hid ⟨heap_chg B5.out.blk LS.out.2 (by have := Hb5.out; simp; omega), B5.out.bel.trans (LS.out.2.below B5.out.bel.size (by have := Hb5.out; simp; omega))⟩
            clear c7 c8 fz
            go_wp2_with fail
            go_roundw
            case rel => exact ⟨r + 1, N.set r ⟨v.l, ai, ci, a5, c5⟩, by omega, by go_num, Lib.hid LS.out.1, B7⟩
            case measure => simp [intOf]; omega
          · have hre : r = x.ls.length := by omega
            subst hre
            have LF := Lib.hid L.out.fin
            have Hnl := Lib.hid L.out.len
            have hbx' : wr.cell? ⟨bx, 0, none⟩ = some (fvT bx) := ((bcell (below2 HBr.out B.out.bel HBr.out.size)).1 _ _ hbl).trans Hbx.out
            have HBx := Lib.hid hbx'
            go_wp2_with fail
            refine (Ih.out x.ba x.bc x.kids bx _ ((Hm.out.2.below HBr.out).below B.out.bel) Hb.out.2.2 HBx.out).mono ?_
            rintro e w6 ⟨a6, c6, U, rfl, hoU, hsU, hb6⟩
            have B6 := Lib.hid (B.out.step hb6)
            have HoU := Lib.hid hoU
            have HsU := Lib.hid hsU
            have LF6 := Lib.hid (LF.out.1.below hb6)
            have E6 := Lib.hid (E.out.below B6.out.bel)
            have hz6 := hb6.size
            clear hbx' hoU hsU hb6 d3 z3
            have d6 := cells_at B6.out.blk
            have f6 := free_at B6.out.blk
            have z6 := heap_lt B6.out.blk
            obtain ⟨c0, c1', c2'⟩ := E6.out.row.cell (E6.out.at_ Hx.out)
            have fz := fun o => World.ownsRow.frozenAt E6.out.row o
            have hgl := owns_lt E6.out.row g (by simp [ob])
            have hlow := E.out.low g (by simp [ob])
            have R := OtE.round E.out Hx.out B6.out Hb5.out hwr (by have := heap_lt B.out.blk; omega) HBr.out LF6.out LF.out.2 HoU.out HsU.out
            rw [Hnl.out] at R
            have HR := Lib.hid R
            clear R
            go_wp2_with fail
            go_roundw
            case rel => exact ⟨q + 1, _, by omega, by go_num, Lib.hid HR.out.1, Lib.hid HR.out.2.1, HR.out.2.2⟩
            case measure => simp [intOf]; omega
      · have hqe : q = T.length := by omega
        subst hqe
        have F := Lib.hid (E.out.fin (by omega))
        have Hl := Lib.hid E.out.len
        go_wp2_with fail
        go_ret
        exact ⟨a1, c1, M, (by rw [Hl.out]; rfl), F.out.1, F.out.2, HBr.out⟩
end Go.Proofs.YtaandcblndldmaaGreat

/- BasB -/
namespace Go.Proofs.YtaandcblndldmaaGreat
open Go.RowKit
set_option linter.unusedVariables false
set_option linter.unusedSimpArgs false

set_option maxRecDepth 100000 in
theorem ownTree_any (f : Nat) (a : Option Addr) (c : Nat) (T : List Nd) (w : World) (hT : TrRd w f a c T) (hB : BdA 1100000 f T) : Calls Tryz.prog 144 #[.slice a T.length c] w (OwtTo w f T) := by
  have he := enters_of Tryz.func190 (by kernel_rfl) rfl
  have HT := Lib.hid hT
  have HBd := Lib.hid hB
  have HA := Lib.hid (show Below w.heap.size w (w.alloc (.cells #[fvT w.heap.size] 184)) from (Below.refl _ _).alloc (Nat.le_refl _) _)
  have hc := Lib.hid (show (w.alloc (.cells #[fvT w.heap.size] 184)).cell? ⟨w.heap.size, 0, none⟩ = some (fvT w.heap.size) from by rw [cells_at (heap_new _ _)]; rfl)
  clear hT hB
  go_enter Tryz.func144, Tryz.ntmps144
  go_wp2_with fail
  refine (ownTree1_any f a c T w.heap.size _ (HT.out.below HA.out) HBd.out hc.out).mono ?_
  rintro e w1 ⟨a1, c1, U, rfl, ho, hs, hb⟩
  have Ho := Lib.hid ho
  have Hs := Lib.hid hs
  have HB := Lib.hid (below2 HA.out hb HA.out.size)
  clear ho hs hb
  go_wp2_with fail
  go_ret
  exact ⟨a1, c1, U, rfl, Ho.out.base (by simp), Hs.out, HB.out⟩
/-- a baseline in rows of one's own -/
structure OwnB (w : World) (base : Nat) (v : Bw) : Prop where
  f : OwnD w base v.fa v.fc v.b.f
  tips : OwnD w base v.ta v.tc v.b.tips
  tr : OwnT w base 3 v.ra v.rc v.b.tr
/-- the same baseline -/
structure SameBw (u v : Bs) : Prop where
  num : v.num = u.num
  f : v.f = u.f
  tips : v.tips = u.tips
  t : v.t = u.t
  tr : sameT 3 u.tr v.tr
def OwnBTo (w : World) (u : Bs) (e : Ending) (w' : World) : Prop := ∃ v : Bw, e = .returned (.agg (bwcells v)) ∧ SameBw u v.b ∧ OwnB w' w.heap.size v ∧ Below w.heap.size w w'
set_option maxRecDepth 100000 in
set_option maxHeartbeats 8000000 in
theorem ownBase_any (v : Bw) (w : World) (h : BwAt w 3 v) (hf : v.b.f.length ≤ 1100000) (ht : v.b.tips.length ≤ 1100000) (hB : BdA 1100000 3 v.b.tr) : Calls Tryz.prog 95 #[.agg (bwcells v)] w (OwnBTo w v.b) := by
  obtain ⟨⟨num, F, tips, t, tr⟩, fa, fc, ta, tc, ra, rc⟩ := v
  have H := Lib.hid h
  have HBd := Lib.hid hB
  dsimp only at hf ht
  clear h hB
  simp only [bwcells]
  go_enter Tryz.func95, Tryz.ntmps95
  go_wp2_with fail
  refine region_text [([0, 1, 3, 4, 6, 7], false), ([2], true), ([9], false), ([5], true), ([8, 10, 11, 12, 13, 14], false)] mixed (by kernel_rfl) ?_
  simp only [wpSegs, List.map_cons, List.map_nil, List.getD_cons_succ, List.getD_cons_zero]
  go_wp2_with fail
  refine (cloneV_any fa fc F _ (H.out.f.below ?bf) hf).mono ?_
  case bf => exact (((Below.refl _ _).alloc (Nat.le_refl _) _).alloc (by simp) _).drew
  rintro e w1 ⟨a1, c1, v1, rfl, hv1, ho1, hb1⟩
  have e1 := hv1.symm
  clear hv1
  subst e1
  obtain ⟨x0, y0, hz1, hB1⟩ := new2 (((Below.refl _ _).drew).trans hb1)
  have Ho1 := Lib.hid (OwnD.base (base' := w.heap.size + 2) ho1 (by simp))
  have X1 := Lib.hid x0
  have Y1 := Lib.hid y0
  have HB1 := Lib.hid hB1
  have Hb1 := Lib.hid hb1
  clear hb1 ho1 x0 y0 hB1
  go_wp2_with fail
  refine And.intro (Agree.of_below Hb1.out) ?_
  go_wp2_with fail
  refine (cloneD_any ta tc tips _ (H.out.tips.below HB1.out) ht).mono ?_
  rintro e w2 ⟨a2, c2, v2, rfl, hv2, ho2, hb2⟩
  have e2 := hv2.symm
  clear hv2
  subst e2
  replace Ho1 := Lib.hid (Ho1.out.below hb2)
  have Ho2 := Lib.hid (OwnD.base (base' := w.heap.size + 2) ho2 hz1)
  have HB2 := Lib.hid (below2 HB1.out hb2 HB1.out.size)
  replace X1 := Lib.hid ((hb2.block _ (heap_lt X1.out)).trans X1.out)
  replace Y1 := Lib.hid ((hb2.block _ (heap_lt Y1.out)).trans Y1.out)
  have hz2 : w.heap.size + 2 ≤ w2.heap.size := by have := hb2.size; omega
  have Hb2 := Lib.hid hb2
  clear ho2 hb2 HB1 Hb1
  go_wp2_with fail
  refine And.intro (Agree.of_below Hb2.out) ?_
  go_wp2_with fail
  refine (ownTree_any 3 ra rc tr _ (H.out.tr.below HB2.out) HBd.out).mono ?_
  rintro e w3 ⟨a3, c3, U, rfl, ho3, hs3, hb3⟩
  replace Ho1 := Lib.hid (Ho1.out.below hb3)
  replace Ho2 := Lib.hid (Ho2.out.below hb3)
  have Ho3 := Lib.hid (OwnT.base (b2 := w.heap.size + 2) hz2 ho3)
  have Hs3 := Lib.hid hs3
  replace X1 := Lib.hid ((hb3.block _ (heap_lt X1.out)).trans X1.out)
  replace Y1 := Lib.hid ((hb3.block _ (heap_lt Y1.out)).trans Y1.out)
  have HB3 := Lib.hid (below2 HB2.out hb3 HB2.out.size)
  have hz3 : w.heap.size + 2 ≤ w3.heap.size := by have := hb3.size; omega
  have d0 := cells_at X1.out
  have e0 := cells_at Y1.out
  have f0 := free_at X1.out
  have g0 := free_at Y1.out
  simp only [basecells] at d0
  clear hb3 Hb2 HB2 ho3 hs3
  go_wp2_with fail
  refine And.intro (by kernel_rfl) ?_
  go_wp2_with fail
  have hC : Chg [w.heap.size, w.heap.size + 1] w3 ((((((((w3.setCell ⟨w.heap.size, 1, none⟩ (.slice a1 F.length c1)).setCell ⟨w.heap.size, 2, none⟩ (.slice a2 tips.length c2)).setCell ⟨w.heap.size, 4, none⟩ (.slice a3 U.length c3)).setCell ⟨w.heap.size + 1, 0, none⟩ (.int .u64 num)).setCell ⟨w.heap.size + 1, 1, none⟩ (.slice a1 F.length c1)).setCell ⟨w.heap.size + 1, 2, none⟩ (.slice a2 tips.length c2)).setCell ⟨w.heap.size + 1, 3, none⟩ (.int .u64 t)).setCell ⟨w.heap.size + 1, 4, none⟩ (.slice a3 U.length c3)) :=
    ((((((((Chg.refl _ _).put _ _ (by simp)).put _ _ (by simp)).put _ _ (by simp)).put _ _ (by simp)).put _ _ (by simp)).put _ _ (by simp)).put _ _ (by simp)).put _ _ (by simp)
  have dis : ∀ k, w.heap.size + 2 ≤ k → k ∉ [w.heap.size, w.heap.size + 1] := fun k hk hm => by simp at hm; omega
  refine bodyPost_ret (v := .agg (basecells num a1 F.length c1 a2 tips.length c2 t a3 U.length c3)) (by simp [results, Tryz.results95, go_sem, d0, e0]; try rfl) rfl ⟨⟨⟨num, F, tips, t, U⟩, a1, c1, a2, c2, a3, c3⟩, rfl, ⟨rfl, rfl, rfl, rfl, Hs3.out⟩, ⟨?_, ?_, ?_⟩, ?_⟩
  · exact OwnD.base (owns_chg Ho1.out hC (fun k hk => dis k (owns_lt Ho1.out k hk).1)) (by omega)
  · exact OwnD.base (owns_chg Ho2.out hC (fun k hk => dis k (owns_lt Ho2.out k hk).1)) (by omega)
  · exact OwnT.base (by omega) (Ho3.out.chg hC (fun k hk => by simp at hk; omega))
  · exact HB3.out.trans (hC.below HB3.out.size (by simp))
end Go.Proofs.YtaandcblndldmaaGreat

/- BasC -/
namespace Go.Proofs.YtaandcblndldmaaGreat
open Go.RowKit
set_option linter.unusedVariables false
set_option linter.unusedSimpArgs false

theorem SameBw.base {u v : Bs} (h : SameBw u v) (hu : BaseP u) : BaseP v := by
  obtain ⟨num, f, tips, t, tr⟩ := v
  obtain ⟨h1, h2, h3, h4, h5⟩ := h
  dsimp only at h1 h2 h3 h4 h5
  subst h1 h2 h3 h4
  exact ⟨hu.canon, hu.few, hu.rise, hu.within, hu.time, hu.some1, hu.some2, hu.tree.same h5⟩
/-- a new graph above a baseline, or none -/
def NewTo (w : World) (u : Bs) (e : Ending) (w' : World) : Prop :=
  (BaseP u ∧ ∃ (pg mb : Nat) (w0 : World) (b : Bw) (va : Option Addr) (vc : Nat), e = .returned (.tuple #[.pointer (some ⟨pg, 0, none⟩), .int .i64 0]) ∧ SameBw u b.b ∧ GrAt w' pg mb w0 3 b [] va vc b.b.f ∧ Below w.heap.size w w' ∧ w.heap.size ≤ w0.heap.size) ∨
  (¬ BaseP u ∧ e = .returned (.tuple #[.pointer none, .int .i64 4]) ∧ Below w.heap.size w w')
theorem canonF_len {b : Bs} (h : BaseP b) : b.f.length ≤ 64 := by rw [← h.canon]; exact vecOf_length _
set_option maxRecDepth 100000 in
set_option maxHeartbeats 8000000 in
theorem new_any (v : Bw) (m : Nat) (w : World) (h : BwAt w m v) (hf : v.b.f.length ≤ 1100000) (ht : v.b.tips.length ≤ 1100000) (hB : BdA 1100000 3 v.b.tr) :
    Calls Tryz.prog 54 #[.agg (bwcells v)] w (NewTo w v.b) := by
  have hmm := @run_makeMap Tryz.prog
  obtain ⟨⟨num, F, tips, t, tr⟩, fa, fc, ta, tc, ra, rc⟩ := v
  have H := Lib.hid h
  have HBd := Lib.hid hB
  dsimp only at hf ht
  have HA := Lib.hid (show Below w.heap.size w (w.alloc (.cells (basecells num fa F.length fc ta tips.length tc t ra tr.length rc) 32)) from (Below.refl _ _).alloc (Nat.le_refl _) _)
  clear h hB
  simp only [bwcells]
  go_enter Tryz.func54, Tryz.ntmps54
  go_wp2_with fail
  refine (mayBase_any ⟨⟨num, F, tips, t, tr⟩, fa, fc, ta, tc, ra, rc⟩ m _ (H.out.below HA.out) hf ht HBd.out).mono ?_
  intro e w1 hto
  obtain ⟨z, rfl, hz, hb1⟩ := hto
  have E : Hid (BoxE 32 w w1 (basecells num fa F.length fc ta tips.length tc t ra tr.length rc)) := Lib.hid (BoxE.of hb1)
  have Hz := Lib.hid hz
  have d0 := cells_at E.out.blk
  simp only [basecells] at d0
  have hz1 := heap_lt E.out.blk
  clear hb1 hz
  cases z with
  | false =>
    have Hn := Lib.hid (show ¬ BaseP ⟨num, F, tips, t, tr⟩ from fun h => by have := Hz.out.2 h; cases this)
    go_wp2_with fail
    go_ret2
    exact .inr ⟨Hn.out, rfl, E.out.bel⟩
  | true =>
    have HP := Lib.hid (Hz.out.1 rfl)
    have H3 : Hid (BwAt w 3 ⟨⟨num, F, tips, t, tr⟩, fa, fc, ta, tc, ra, rc⟩) := Lib.hid ⟨H.out.f, H.out.tips, H.out.tr.may HP.out.tree, H.out.okf, H.out.okt, H.out.num, H.out.t⟩
    have hfl : F.length ≤ 64 := canonF_len HP.out
    have htl : tips.length ≤ 64 := HP.out.few
    clear Hz
    go_wp2_with fail
    refine (ownBase_any ⟨⟨num, F, tips, t, tr⟩, fa, fc, ta, tc, ra, rc⟩ _ (H3.out.below E.out.bel) hf ht HBd.out).mono ?_
    rintro e w2 ⟨⟨⟨num', F', tips', t', U⟩, a1, c1, a2, c2, a3, c3⟩, rfl, hs, ho, hb2⟩
    obtain ⟨e1, e2, e3, e4, hs5⟩ := hs
    dsimp only at e1 e2 e3 e4 hs5
    subst e1 e2 e3 e4
    replace E := Lib.hid (E.out.step hb2)
    have Ho := Lib.hid ho
    have Hs := Lib.hid hs5
    have hz := E.out.bel.size
    have hz2 := hb2.size
    clear ho hb2 hs5 d0
    have d0 := cells_at E.out.blk
    have f0 := free_at E.out.blk
    simp only [basecells] at d0
    have z0 := heap_lt E.out.blk
    simp only [bwcells]
    have HPb := Lib.hid (SameBw.base (u := ⟨num', F', tips', t', tr⟩) (v := ⟨num', F', tips', t', U⟩) ⟨rfl, rfl, rfl, rfl, Hs.out⟩ HP.out)
    go_wp2_with fail
    have hC : Chg [w.heap.size] w2 (((((w2.setCell ⟨w.heap.size, 0, none⟩ (.int .u64 num')).setCell ⟨w.heap.size, 1, none⟩ (.slice a1 F'.length c1)).setCell ⟨w.heap.size, 2, none⟩ (.slice a2 tips'.length c2)).setCell ⟨w.heap.size, 3, none⟩ (.int .u64 t')).setCell ⟨w.heap.size, 4, none⟩ (.slice a3 U.length c3)) := (((((Chg.refl _ _).put _ _ (by simp)).put _ _ (by simp)).put _ _ (by simp)).put _ _ (by simp)).put _ _ (by simp)
    have hs4 : (((((w2.setCell ⟨w.heap.size, 0, none⟩ (.int .u64 num')).setCell ⟨w.heap.size, 1, none⟩ (.slice a1 F'.length c1)).setCell ⟨w.heap.size, 2, none⟩ (.slice a2 tips'.length c2)).setCell ⟨w.heap.size, 3, none⟩ (.int .u64 t')).setCell ⟨w.heap.size, 4, none⟩ (.slice a3 U.length c3)).heap.size = w2.heap.size := by simp
    have hs4' := Lib.hid hs4
    clear hs4
    generalize (((((w2.setCell ⟨w.heap.size, 0, none⟩ (.int .u64 num')).setCell ⟨w.heap.size, 1, none⟩ (.slice a1 F'.length c1)).setCell ⟨w.heap.size, 2, none⟩ (.slice a2 tips'.length c2)).setCell ⟨w.heap.size, 3, none⟩ (.int .u64 t')).setCell ⟨w.heap.size, 4, none⟩ (.slice a3 U.length c3)) = w4 at *
    have hF : ∀ k ∈ [w.heap.size], k < w1.heap.size := fun k hk => by rw [List.mem_singleton] at hk; subst hk; exact hz1
    have o1 := owns_chg Ho.out.f hC (fun k hk hm => by have := (owns_lt Ho.out.f k hk).1; simp at hm; omega)
    have o2 := owns_chg Ho.out.tips hC (fun k hk hm => by have := (owns_lt Ho.out.tips k hk).1; simp at hm; omega)
    have o3 := OwnT.chg hC hF Ho.out.tr
    have hB4 : Below w.heap.size w w4 := E.out.bel.trans (hC.below hz (by simp))
    have hw4 : Below w4.heap.size w4 ((w4.alloc (.map #[] 0)).alloc (.cells (gcells num' a1 F'.length c1 a2 tips'.length c2 t' a3 U.length c3 w4.heap.size a1 F'.length c1) 118)) := ((Below.refl _ _).alloc (Nat.le_refl _) _).alloc (by simp) _
    have hG : GrAt ((w4.alloc (.map #[] 0)).alloc (.cells (gcells num' a1 F'.length c1 a2 tips'.length c2 t' a3 U.length c3 w4.heap.size a1 F'.length c1) 118)) (w4.heap.size + 1) w4.heap.size w4 3 ⟨⟨num', F', tips', t', U⟩, a1, c1, a2, c2, a3, c3⟩ [] a1 c1 F' :=
      ⟨heap_new2 _ _ _, (MapN.made w4).below ((Below.refl _ _).alloc (Nat.le_refl _) _), ⟨by omega, by omega⟩, hw4, ⟨vec_of o1, vec_of o2, OwnT.rd o3, H.out.okf, H.out.okt, H.out.num, H.out.t⟩, fun v hv => (by cases hv), OwnD.base (OwnD.below o1 hw4) (Nat.zero_le _), H.out.okf, List.nodup_nil, fun v hv => (by cases hv), by decide, by dsimp only; omega, by dsimp only; omega, by omega, HPb.out, fun v hv => (by cases hv)⟩
    have HG := Lib.hid hG
    have HBF := Lib.hid (hB4.trans (hw4.mono hB4.size))
    have hsz4 := hB4.size
    clear hC o1 o2 o3 hB4 hw4 hG hF
    have hG2 := HG.out
    have hB2 := HBF.out
    rw [hs4'.out] at hG2 hB2
    exact bodyPost_ret (v := .tuple #[.pointer (some ⟨w2.heap.size + 1, 0, none⟩), .int .i64 0]) (by simp [results, Tryz.results54, go_sem]; try rfl) rfl (.inl ⟨HP.out, w2.heap.size + 1, w2.heap.size, w4, ⟨⟨num', F', tips', t', U⟩, a1, c1, a2, c2, a3, c3⟩, a1, c1, rfl, ⟨rfl, rfl, rfl, rfl, Hs.out⟩, hG2, hB2, hsz4⟩)
end Go.Proofs.YtaandcblndldmaaGreat

/- BothA -/
/- BothA -/
namespace Go.Proofs.YtaandcblndldmaaGreat
open Go.RowKit
set_option linter.unusedVariables false
set_option linter.unusedSimpArgs false

/-- a graph at pg, and the document's at pw, with the same commits: L as they were inserted, S in order -/
structure PairE (w wr : World) (v : Bw) (m : Nat) (pg mb : Nat) (w0 : World) (b : Bw) (L : List Cw) (va : Option Addr) (vc : Nat) (vv : List Dt) (pw : Nat) (S : List Cw) (la : Option Addr) (lc : Nat) : Prop where
  gr : GrAt wr pg mb w0 3 b L va vc vv
  rg : RgAt wr pw w m v S la lc
  same : b.b.f = v.b.f
  tips : b.b.tips = v.b.tips
  tr : sameT 3 v.b.tr b.b.tr
  perm : (cms S).Perm (cms L)
  hist : HistP v.b.f (cms L) vv
  ins : HistI v.b.f (cms L)
  old : w.heap.size ≤ w0.heap.size
  pwl : w0.heap.size ≤ pw
  bel : Below w.heap.size w wr
theorem PairE.below {w wr w' : World} {v : Bw} {m pg mb : Nat} {w0 : World} {b : Bw} {L : List Cw} {va : Option Addr} {vc : Nat} {vv : List Dt} {pw : Nat} {S : List Cw} {la : Option Addr} {lc : Nat} (h : PairE w wr v m pg mb w0 b L va vc vv pw S la lc) (hb : Below wr.heap.size wr w') : PairE w w' v m pg mb w0 b L va vc vv pw S la lc :=
  ⟨h.gr.below hb, h.rg.below hb, h.same, h.tips, h.tr, h.perm, h.hist, h.ins, h.old, h.pwl, below2 h.bel hb h.bel.size⟩
theorem noRow_ref {w : World} {pw : Nat} {C : Array Value} {fr : Nat × Nat} (h : w.heap[pw]? = some (.cells C 61 fr)) : NoRow w [pw] := fun k hk C' t fr' hh => by
  rw [List.mem_singleton] at hk
  subst hk
  rw [h] at hh
  injection hh with hh
  injection hh with _ h2 _
  subst h2
  exact ⟨by decide, by decide⟩
theorem PairE.nd {w wr : World} {v : Bw} {m pg mb : Nat} {w0 : World} {b : Bw} {L : List Cw} {va : Option Addr} {vc : Nat} {vv : List Dt} {pw : Nat} {S : List Cw} {la : Option Addr} {lc : Nat} (h : PairE w wr v m pg mb w0 b L va vc vv pw S la lc) : findC (cms S) = findC (cms L) := findC_perm h.perm h.rg.nodup
theorem PairE.len {w wr : World} {v : Bw} {m pg mb : Nat} {w0 : World} {b : Bw} {L : List Cw} {va : Option Addr} {vc : Nat} {vv : List Dt} {pw : Nat} {S : List Cw} {la : Option Addr} {lc : Nat} (h : PairE w wr v m pg mb w0 b L va vc vv pw S la lc) : S.length = L.length := by
  have := h.perm.length_eq
  simpa [cms] using this
theorem PairE.ne {w wr : World} {v : Bw} {m pg mb : Nat} {w0 : World} {b : Bw} {L : List Cw} {va : Option Addr} {vc : Nat} {vv : List Dt} {pw : Nat} {S : List Cw} {la : Option Addr} {lc : Nat} (h : PairE w wr v m pg mb w0 b L va vc vv pw S la lc) : pw ≠ pg ∧ pw ≠ mb ∧ ∀ k ∈ ob la, k ≠ pg ∧ k ≠ mb := by
  obtain ⟨es, clock, hm⟩ := h.gr.map.block
  refine ⟨fun e => ?_, fun e => ?_, fun k hk => ⟨fun e => ?_, fun e => ?_⟩⟩
  · have h1 := h.rg.blk
    rw [e, h.gr.blk] at h1
    injection h1 with h1
    injection h1 with _ h2 _
    exact absurd h2 (by decide)
  · have h1 := h.rg.blk
    rw [e, hm] at h1
    cases h1
  · obtain ⟨C, fr, hh⟩ := ob_row h.rg.row k hk
    rw [e, h.gr.blk] at hh
    injection hh with hh
    injection hh with _ h2 _
    exact absurd h2 (by decide)
  · obtain ⟨C, fr, hh⟩ := ob_row h.rg.row k hk
    rw [e, hm] at hh
    cases hh
/-- one commit more: into the graph, then into the document's -/
theorem PairE.ins_ {w wr w1 : World} {v : Bw} {m pg mb : Nat} {w0 : World} {b : Bw} {L : List Cw} {va : Option Addr} {vc : Nat} {vv : List Dt} {pw : Nat} {S : List Cw} {la : Option Addr} {lc : Nat} {c : Cw} {e : Ending} (h : PairE w wr v m pg mb w0 b L va vc vv pw S la lc) (okc : okV c.c.vv) (hi : InsTo wr pg mb w0 3 b L vv c.c e w1) :
    ∃ x : Int, e = .returned (.int .i64 x) ∧ RgAt w1 pw w m v S la lc ∧ Below w.heap.size w w1 ∧ ∀ (e2 : Ending) (w2 : World), RInsTo w1 pw w m v S c e2 w2 → e2 = .returned (.int .i64 x) ∧
      ((x ≠ 0 ∧ PairE w w2 v m pg mb w0 b L va vc vv pw S la lc) ∨ (x = 0 ∧ ∃ (u : Cw) (va' : Option Addr) (vc' : Nat) (la' : Option Addr) (lc' : Nat), u.c = c.c ∧ PairE w w2 v m pg mb w0 b (L ++ [u]) va' vc' (joinV vv c.c.vv) pw (putC S c) la' lc')) := by
  have hs := h.same
  have hnd := h.nd
  have hlen := h.len
  have hne := h.ne
  have o1 := h.gr.old
  have o2 := h.old
  obtain ⟨rfl, hi⟩ := hi
  refine ⟨_, rfl, ?_⟩
  rw [hs] at hi ⊢
  rcases hi with ⟨hz, hb⟩ | ⟨hz, u, va', vc', hu, hG, hc⟩
  · refine ⟨h.rg.below hb, below2 h.bel hb h.bel.size, fun e2 w2 h2 => ?_⟩
    obtain ⟨h2, h3⟩ := h2
    rw [hnd, hlen] at h2 h3
    refine ⟨h2, .inl ⟨hz, ?_⟩⟩
    rcases h3 with ⟨_, hb2⟩ | ⟨hz2, _⟩
    · exact (h.below hb).below hb2
    · exact absurd hz2 hz
  · have hR : RgAt w1 pw w m v S la lc := h.rg.chg hc (by simp; exact ⟨hne.1, hne.2.1⟩) (fun k hk => by simp; exact hne.2.2 k hk) (fun k hk => by simp at hk; rcases hk with rfl | rfl <;> omega)
    refine ⟨hR, h.bel.trans (hc.below h.bel.size (fun k hk => by simp at hk; rcases hk with rfl | rfl <;> omega)), fun e2 w2 h2 => ?_⟩
    obtain ⟨h2, h3⟩ := h2
    rw [hnd, hlen] at h2 h3
    refine ⟨h2, .inr ⟨hz, u, va', vc', ?_⟩⟩
    rcases h3 with ⟨hz2, _⟩ | ⟨_, la', lc', hR2, hc2⟩
    · exact absurd hz hz2
    have hcs : cms (L ++ [u]) = cms L ++ [c.c] := by simp [cms, hu]
    have hG2 : GrAt w2 pg mb w0 3 b (L ++ [u]) va' vc' (joinV vv c.c.vv) := hG.chg hc2 (by simpa using fun e => hne.1 e.symm) (by simpa using fun e => hne.2.1 e.symm) (noRow_ref hR.blk) (by simpa using h.pwl)
    refine ⟨la', lc', hu, hG2, hR2, hs, h.tips, h.tr, ?_, ?_, ?_, o2, h.pwl, ?_⟩
    · rw [hcs]
      exact (putC_perm S c).trans (h.perm.append_right _)
    · rw [hcs]
      have := h.gr.okv
      exact h.hist.step this okc hz
    · rw [hcs]
      exact h.ins.step hz
    · refine (h.bel.trans (hc.below h.bel.size (fun k hk => by simp at hk; rcases hk with rfl | rfl <;> omega))).trans (hc2.below (Nat.le_trans h.bel.size hc.size) (fun k hk => by simp at hk; subst hk; have := h.pwl; omega))
theorem InsTo.keep {w w' : World} {pg mb : Nat} {w0 : World} {m : Nat} {b : Bw} {L : List Cw} {vv : List Dt} {c : Cm} {e : Ending} (h : InsTo w pg mb w0 m b L vv c e w') {k : Nat} {o : Obj} (hk : w.heap[k]? = some o) (h1 : k ≠ pg) (h2 : k ≠ mb) : w'.heap[k]? = some o := by
  obtain ⟨_, ⟨_, hb⟩ | ⟨_, u, va', vc', _, _, hc⟩⟩ := h
  · exact (hb.block _ (heap_lt hk)).trans hk
  · exact (hc.block _ (heap_lt hk) (by simp; exact ⟨h1, h2⟩)).trans hk
end Go.Proofs.YtaandcblndldmaaGreat

/- Bo13 -/
namespace Go.Proofs.YtaandcblndldmaaGreat
open Go.RowKit
set_option linter.unusedVariables false
set_option linter.unusedSimpArgs false

end Go.Proofs.YtaandcblndldmaaGreat

/- WitA -/
/- DagP -/
/- DagP -/
namespace Go.Proofs.YtaandcblndldmaaGreat
open Go.RowKit
set_option linter.unusedVariables false
set_option linter.unusedSimpArgs false

end Go.Proofs.YtaandcblndldmaaGreat

/- AncP -/
namespace Go.Proofs.YtaandcblndldmaaGreat
open Go.RowKit
set_option linter.unusedVariables false
set_option linter.unusedSimpArgs false

end Go.Proofs.YtaandcblndldmaaGreat

/- AncQ -/
namespace Go.Proofs.YtaandcblndldmaaGreat
open Go.RowKit
set_option linter.unusedVariables false
set_option linter.unusedSimpArgs false

end Go.Proofs.YtaandcblndldmaaGreat

/- GreA -/
/- LevA -/
/- LevP -/
namespace Go.Proofs.YtaandcblndldmaaGreat
open Go.RowKit
set_option linter.unusedVariables false
set_option linter.unusedSimpArgs false

end Go.Proofs.YtaandcblndldmaaGreat

/- LevA -/
namespace Go.Proofs.YtaandcblndldmaaGreat
open Go.RowKit
set_option linter.unusedVariables false
set_option linter.unusedSimpArgs false

section
variable {w : World} {ops : Array Oper} {rest : List Oper} {o : Oper} {a : Act} {Q : Exit → Act → World → Prop}
end
end Go.Proofs.YtaandcblndldmaaGreat

/- GreA -/
namespace Go.Proofs.YtaandcblndldmaaGreat
open Go.RowKit
set_option linter.unusedVariables false
set_option linter.unusedSimpArgs false

end Go.Proofs.YtaandcblndldmaaGreat

/- OfA -/
/- RchA -/
namespace Go.Proofs.YtaandcblndldmaaGreat
open Go.RowKit
set_option linter.unusedVariables false
set_option linter.unusedSimpArgs false

end Go.Proofs.YtaandcblndldmaaGreat

/- AncA -/
namespace Go.Proofs.YtaandcblndldmaaGreat
open Go.RowKit
set_option linter.unusedVariables false
set_option linter.unusedSimpArgs false

end Go.Proofs.YtaandcblndldmaaGreat

/- OfA -/
namespace Go.Proofs.YtaandcblndldmaaGreat
open Go.RowKit
set_option linter.unusedVariables false
set_option linter.unusedSimpArgs false

end Go.Proofs.YtaandcblndldmaaGreat

/- WitA -/
/- KnoP -/
namespace Go.Proofs.YtaandcblndldmaaGreat
open Go.RowKit
set_option linter.unusedVariables false
set_option linter.unusedSimpArgs false

def kD2 : Dt := ((2, 1), 1)
def kD3 : Dt := ((3, 1), 1)
def kY : Cm := ⟨kD2, [kD], [kD, kD2], 2, kO⟩
def kZ : Cm := ⟨kD3, [], [kD3], 1, kO⟩
def k4 : List Cm := [kC, kL, kY, kZ]
end Go.Proofs.YtaandcblndldmaaGreat

/- DelC -/
namespace Go.Proofs.YtaandcblndldmaaGreat
open Go.RowKit
set_option linter.unusedVariables false
set_option linter.unusedSimpArgs false

end Go.Proofs.YtaandcblndldmaaGreat

/- WitA -/
namespace Go.Proofs.YtaandcblndldmaaGreat
open Go.RowKit
set_option linter.unusedVariables false
set_option linter.unusedSimpArgs false

@[go_sem] theorem field_bf (a b c d e : Value) (w : World) : (Instr.field 32 (.agg #[a, b, c, d, e]) 1).run Tryz.prog w = .ok b w := by kernel_rfl
end Go.Proofs.YtaandcblndldmaaGreat
