/- A region that draws its order, walked in ONE order: readings first, whatever adds or writes in its one order. No program in sight. -/
import Derived.Test.YtblahapjdgncfaaRegB
import Derived.OrdersHeld
namespace Go.Proofs.Ytblahapjdgncfaa
open Go.RowKit
set_option linter.unusedVariables false
set_option linter.unusedSimpArgs false

/-- no way out but the normal one -/
def Tame (Q : Exit → Act → World → Prop) : Exit → Act → World → Prop
  | .normal, a, w => Q .normal a w
  | _, _, _ => False
theorem Tame.imp {Q : Exit → Act → World → Prop} : ∀ (e : Exit) (a : Act) (w : World), Tame Q e a w → Q e a w := fun e a w h => by
  cases e <;> first | exact h | exact (h : False).elim
theorem Tame.lets {Q : Exit → Act → World → Prop} (h : LetsOut (Tame Q)) : False := by
  obtain ⟨_, _, h⟩ := h; exact h

section
variable {P : Program} {ops : Array Oper} {Q : Exit → Act → World → Prop} {md : Region.Mode} {B : Nat → Prop} {X : Nat → Bool}

/-- i comes before j in every order -/
def reach (md : Region.Mode) (ops : Array Oper) : Nat → Nat → Nat → Bool
  | 0, _, _ => false
  | f + 1, i, j => match ops[j]? with
    | none => false
    | some o => o.after.toList.any fun e => Region.binds md e && (e.on == i || reach md ops f i e.on)

/-- what is listed has all that it waits for listed -/
def Down (md : Region.Mode) (ops : Array Oper) (listed : Array Bool) : Prop :=
  ∀ (j : Nat) (o : Oper), ops[j]? = some o → listed.getD j false = true → ∀ e ∈ o.after, Region.binds md e = true → listed.getD e.on false = true

theorem reach_listed {listed : Array Bool} (hd : Down md ops listed) (i : Nat) : ∀ (f j : Nat) (o : Oper), ops[j]? = some o → (∀ e ∈ o.after, Region.binds md e = true → listed.getD e.on false = true) → reach md ops f i j = true → listed.getD i false = true
  | 0, j, o, _, _, h => by simp [reach] at h
  | f + 1, j, o, ho, hall, h => by
    simp only [reach, ho] at h
    rw [List.any_eq_true] at h
    obtain ⟨e, he, hh⟩ := h
    simp only [Bool.and_eq_true, Bool.or_eq_true, beq_iff_eq] at hh
    have he' : e ∈ o.after := by simpa using he
    have hl := hall e he' hh.1
    rcases hh.2 with rfl | hr
    · exact hl
    · cases hoe : ops[e.on]? with
      | none => exfalso; cases f <;> simp [reach, hoe] at hr
      | some oe => exact reach_listed hd i f e.on oe hoe (hd e.on oe hoe hl) hr

theorem Down.set {listed : Array Bool} (hd : Down md ops listed) {i : Nat} (hr : i ∈ Region.ready md ops listed) : Down md ops (listed.setIfInBounds i true) := by
  intro j o ho hj e he hb
  obtain ⟨h1, o', ho', hall⟩ := mem_ready.1 hr
  by_cases hij : i = j
  · subst hij
    obtain rfl : o' = o := by rw [ho'] at ho; simpa using ho
    exact getD_set_true (hall e he hb)
  · rw [getD_set_ne false hij] at hj
    exact getD_set_true (hd j o ho hj e he hb)

/-- whatever order is picked from here on; behind what X names all blocks are there again -/
def wpAnyB (P : Program) (md : Region.Mode) (ops : Array Oper) (Q : Exit → Act → World → Prop) (B : Nat → Prop) (X : Nat → Bool) : Nat → Array Bool → Act → World → Prop
  | 0, listed, a, w => Region.ready md ops listed = [] ∧ Q .normal a w
  | fuel + 1, listed, a, w =>
    (Region.ready md ops listed = [] → Q .normal a w) ∧
    ∀ i ∈ Region.ready md ops listed, wpOp P ops Q i (fun a' w' => (X i = true → Held B w w') ∧ wpAnyB P md ops Q B X fuel (listed.setIfInBounds i true) a' w') a w

theorem wpAny_of_B : ∀ (fuel : Nat) (listed : Array Bool) (a : Act) (w : World), wpAnyB P md ops Q B X fuel listed a w → wpAny P md ops Q fuel listed a w
  | 0, _, _, _, h => h
  | fuel + 1, _, _, _, h => ⟨h.1, fun i hi => wpOp_mono (fun a' w' h' => wpAny_of_B fuel _ a' w' h'.2) (h.2 i hi)⟩

theorem yields_mono {S S' : World → Prop} {o : Oper} {v : Value} {a : Act} (h : YieldsIf P ops S o v a) (hs : ∀ w, S' w → S w) : YieldsIf P ops S' o v a :=
  h.imp (fun ⟨hw, hv⟩ => ⟨hw, fun w hS => hv w (hs w hS)⟩) id

theorem wpAnyB_first {i : Nat} {oi : Oper} {v : Value} {rd : Bool} {F : Nat} (hi : ops[i]? = some oi) (hsel : ∀ (j : Nat) (o : Oper) cs b, ops[j]? = some o → o.op ≠ .select cs b)
    (hQ : ∀ c a w, Q (.panic c) (a.put oi.dst v) w → Q (.panic c) a w) :
    ∀ (fuel : Nat) (listed : Array Bool) (a : Act) (w : World), Down md ops listed →
      (∀ j oj, ops[j]? = some oj → j ≠ i → listed.getD j true = false → (∀ e ∈ oj.after, Region.binds md e = true → e.on ≠ i) → oi.apart ops oj = true) →
      (rd = true → ∀ j, listed.getD j true = false → j ≠ i → X j = true ∨ reach md ops F i j = true) →
      i ∈ Region.ready md ops listed → YieldsIf P ops (fun w2 => rd = true → Held B w w2) oi v a →
      wpAnyB P md ops Q B X fuel (listed.setIfInBounds i true) (a.put oi.dst v) w → wpAnyB P md ops Q B X (fuel + 1) listed a w := by
  intro fuel
  induction fuel with
  | zero =>
    intro listed a w _ _ _ hr hy H
    refine ⟨fun h => (by rw [h] at hr; cases hr), fun j hj => ?_⟩
    by_cases hji : j = i
    · subst hji; exact hy.wpOp hi (fun _ => Held.refl _ _) ⟨fun _ => Held.refl _ _, H⟩
    · have := ready_mono hj hji
      rw [H.1] at this
      cases this
  | succ fuel ih =>
    intro listed a w hd hfree hX hr hy H
    refine ⟨fun h => (by rw [h] at hr; cases hr), fun j hj => ?_⟩
    by_cases hji : j = i
    · subst hji; exact hy.wpOp hi (fun _ => Held.refl _ _) ⟨fun _ => Held.refl _ _, H⟩
    · have h1 := H.2 j (ready_mono hj hji)
      obtain ⟨hjun, oj, hoj, hall⟩ := mem_ready.1 hj
      have h0 := (mem_ready.1 hr).1
      have hi0 : ¬ listed.getD i false = true := by
        intro hh
        rcases Nat.lt_or_ge i listed.size with h' | h'
        · simp [h'] at h0 hh; rw [h0] at hh; cases hh
        · simp [Array.getElem?_eq_none h'] at hh
      have hnot : ∀ e ∈ oj.after, Region.binds md e = true → e.on ≠ i := fun e he hb heq => by
        have h1 := hall e he hb
        rw [heq] at h1
        exact hi0 h1
      have hXj : rd = true → X j = true := fun hrd => by
        rcases hX hrd j hjun hji with h | h
        · exact h
        · exact absurd (reach_listed hd i F j oj hoj hall h) hi0
      have h2 := wpOp_putIf hoj (hfree j oj hoj hji hjun hnot) (fun cs b => hsel i oi cs b hi) (fun cs b => hsel j oj cs b hoj) hQ hy h1
      have hfree' : ∀ k ok, ops[k]? = some ok → k ≠ i → (listed.setIfInBounds j true).getD k true = false →
          (∀ e ∈ ok.after, Region.binds md e = true → e.on ≠ i) → oi.apart ops ok = true := fun k ok hk hki hun hno => by
        refine hfree k ok hk hki ?_ hno
        by_cases hjk : j = k
        · subst hjk; exact hjun
        · rw [getD_set_ne true hjk] at hun; exact hun
      have hX' : rd = true → ∀ k, (listed.setIfInBounds j true).getD k true = false → k ≠ i → X k = true ∨ reach md ops F i k = true := fun hrd k hun hki => by
        refine hX hrd k ?_ hki
        by_cases hjk : j = k
        · subst hjk; exact hjun
        · rw [getD_set_ne true hjk] at hun; exact hun
      refine wpOp_mono (fun a' w' h3 => ⟨h3.2.1, ih (listed.setIfInBounds j true) a' w' (hd.set hj) hfree' hX' (ready_mono hr (Ne.symm hji)) (yields_mono h3.1 ?_) ?_⟩) h2
      · exact fun w2 hs hrd => (h3.2.1 (hXj hrd)).trans (hs hrd)
      · rw [Array.setIfInBounds_comm _ _ hji]
        exact h3.2.2

theorem put_getD (a : Act) (dst : Option Tmp) (v : Value) (d : Tmp) (h : dst ≠ some d) : (a.put dst v).tmps.getD d undef = a.tmps.getD d undef := by
  cases dst with
  | none => rfl
  | some x =>
    have hx : x ≠ d := fun e => h (by rw [e])
    simp only [Act.put, Array.getD_eq_getD_getElem?]
    rw [Array.getElem?_setIfInBounds_ne hx]

theorem wpOp_get {i : Nat} {K : Act → World → Prop} {a : Act} {w : World} (h : wpOp P ops (Tame Q) i K a w) :
    ∃ a' w', K a' w' ∧ ∀ d, (ops[i]?).bind (·.dst) ≠ some d → a'.tmps.getD d undef = a.tmps.getD d undef := by
  unfold wpOp at h
  cases ho : ops[i]? with
  | none => simp only [ho] at h; exact ⟨a, w, h, fun _ _ => rfl⟩
  | some o =>
    simp only [ho] at h
    split at h
    · rcases h with h | ⟨_, h⟩
      case inr => exact (Tame.lets h).elim
      unfold Oper.wp at h
      generalize (execOp a.eval o).run P w = r at h
      cases r with
      | ok n w' =>
        cases n <;> simp only [Oper.upon] at h <;> try exact h.elim
        case value v => exact ⟨_, _, h, fun d hd => put_getD _ _ _ _ hd⟩
        case skip => exact ⟨_, _, h, fun d hd => put_getD _ _ _ _ hd⟩
        case defer x => exact ⟨_, _, h, fun d hd => put_getD { a with defers := x :: a.defers } _ _ _ hd⟩
        case enter f args =>
          obtain ⟨e, w'', fr, hR, _⟩ := h []
          cases e with
          | returned v => exact ⟨_, _, hR, fun d hd => put_getD _ _ _ _ hd⟩
          | panicked c => exact hR.elim
          | outgrown => exact (Tame.lets hR).elim
        case row row args =>
          obtain ⟨v, w'', hR, _⟩ := h default []
          exact ⟨_, _, hR, fun d hd => put_getD _ _ _ _ hd⟩
      | halt x w' =>
        cases x <;> simp only [Oper.upon] at h <;> exact h.elim
    · exact ⟨_, _, h, fun d hd => put_getD _ _ _ _ hd⟩

/-- orders: one after the other; or one of two effects first, whichever comes up -/
inductive Tr where
  | nil
  | cons (i : Nat) (t : Tr)
  | fork (s t : Tr)
def Tr.all : Tr → List Nat
  | .nil => []
  | .cons i t => i :: t.all
  | .fork s t => s.all ++ t.all

/-- the order; behind what Xo names it is asked that all blocks are there again -/
def wpCan (P : Program) (ops : Array Oper) (Q : Exit → Act → World → Prop) (B : Nat → Prop) (Xo : Nat → Bool) : Tr → Act → World → Prop
  | .nil, a, w => Q .normal a w
  | .cons i rest, a, w => wpOp P ops Q i (fun a' w' => (Xo i = true → Held B w w') ∧ wpCan P ops Q B Xo rest a' w') a w
  | .fork s t, a, w => wpCan P ops Q B Xo s a w ∧ wpCan P ops Q B Xo t a w

theorem wpCan_get {Xo : Nat → Bool} : ∀ (l : Tr) (a : Act) (w : World), wpCan P ops (Tame Q) B Xo l a w →
    ∃ a' w', Q .normal a' w' ∧ ∀ d, (∀ i ∈ l.all, (ops[i]?).bind (·.dst) ≠ some d) → a'.tmps.getD d undef = a.tmps.getD d undef
  | .nil, a, w, h => ⟨a, w, h, fun _ _ => rfl⟩
  | .cons i rest, a, w, h => by
    obtain ⟨a1, w1, ⟨_, h1⟩, hk⟩ := wpOp_get h
    obtain ⟨a2, w2, h2, hk2⟩ := wpCan_get rest a1 w1 h1
    exact ⟨a2, w2, h2, fun d hd => (hk2 d fun j hj => hd j (by simp [Tr.all, hj])).trans (hk d (hd i (by simp [Tr.all])))⟩
  | .fork s t, a, w, h => by
    obtain ⟨a2, w2, h2, hk2⟩ := wpCan_get s a w h.1
    exact ⟨a2, w2, h2, fun d hd => hk2 d fun j hj => hd j (by simp [Tr.all, hj])⟩

/-- what is asked at the region's end -/
def fin (ops : Array Oper) (a : Act) : Bool := ops.toList.all fun o => okFin a.eval o

/-- what is read lies in B -/
def reads (B : Nat → Prop) (ops : Array Oper) (a : Act) : Prop := ∀ o ∈ ops.toList, readsIn B a.eval o

def kindAt (P : Program) (ops : Array Oper) (i : Nat) : Nat := match ops[i]? with
  | some o => opKind P o
  | none => 0

def okOrd (P : Program) (md : Region.Mode) (ops : Array Oper) (F : Nat) (X : Nat → Bool) : Nat → Tr → Array Bool → Bool
  | 0, .nil, listed => (Region.ready md ops listed).isEmpty
  | n + 1, .cons i rest, listed =>
    (match ops[i]? with
     | none => false
     | some o =>
       if opKind P o ≤ 1 then
         (Region.ready md ops listed).contains i && Region.free md ops listed i
         && (opKind P o == 0 || (List.range listed.size).all fun j => listed.getD j true || j == i || X j || reach md ops F i j)
         && (sens o).all fun x => match x with
           | .tmp t => (i :: rest.all).all fun j => (ops[j]?).bind (·.dst) != some t
           | _ => true
       else Region.ready md ops listed == [i]) && okOrd P md ops F X n rest (listed.setIfInBounds i true)
  | n + 1, .fork (.cons i s) (.cons j t), listed =>
    (Region.ready md ops listed == [i, j]) && decide (1 < kindAt P ops i) && decide (1 < kindAt P ops j)
    && okOrd P md ops F X n s (listed.setIfInBounds i true) && okOrd P md ops F X n t (listed.setIfInBounds j true)
  | _, _, _ => false

theorem can_effect {Xo : Nat → Bool} (hXo : ∀ i o, ops[i]? = some o → X i = true → 2 < opKind P o → Xo i = true) {j : Nat} {o : Oper} (ho : ops[j]? = some o) (hk : ¬ opKind P o ≤ 1) {rest : Tr} {K : Act → World → Prop} {a : Act} {w : World}
    (hnext : ∀ a' w', wpCan P ops (Tame Q) B Xo rest a' w' → K a' w') (h : wpCan P ops (Tame Q) B Xo (.cons j rest) a w) :
    wpOp P ops (Tame Q) j (fun a' w' => (X j = true → Held B w w') ∧ K a' w') a w := by
  by_cases hk2 : opKind P o = 2
  · obtain ⟨s, hs1, hadds⟩ := adds_op (P := P) o a.eval hk2
    unfold wpCan wpOp at h
    unfold wpOp
    simp only [ho] at h ⊢
    split at h
    · rename_i hwant
      rw [if_pos hwant]
      rcases h with h | ⟨_, h⟩
      case inr => exact (Tame.lets h).elim
      refine .inl ?_
      unfold Oper.wp at h ⊢
      rw [hs1] at h ⊢
      simp only [Sem.run_bind, Sem.run_pure] at h ⊢
      cases hrun : s.run P w with
      | ok v w' =>
        rw [hrun] at h
        simp only [Result.andThen_ok, Oper.upon] at h ⊢
        exact ⟨fun _ => .inl (hadds.agree w v w' hrun), hnext _ _ h.2⟩
      | halt x w' =>
        rw [hrun] at h
        simp only [Result.andThen] at h
        cases x <;> simp only [Oper.upon] at h <;> exact h.elim
    · rename_i hwant
      rw [if_neg hwant]
      exact ⟨fun _ => Held.refl _ _, hnext _ _ h.2⟩
  · exact wpOp_mono (fun a' w' h3 => ⟨fun hx => h3.1 (hXo j o ho hx (by omega)), hnext _ _ h3.2⟩) h

theorem wpAnyB_of_can (hs : Region.noSelect ops = true) (F : Nat) (Xo : Nat → Bool) (hXo : ∀ i o, ops[i]? = some o → X i = true → 2 < opKind P o → Xo i = true) :
    ∀ (n : Nat) (l : Tr) (listed : Array Bool) (a : Act) (w : World), okOrd P md ops F X n l listed = true → Down md ops listed →
      wpCan P ops (Tame fun e a w => (fin ops a = true ∧ reads B ops a) ∧ Q e a w) B Xo l a w → wpAnyB P md ops (Tame fun e a w => (fin ops a = true ∧ reads B ops a) ∧ Q e a w) B X n listed a w
  | 0, .nil, listed, a, w, hok, hd, h => by
    simp only [okOrd, List.isEmpty_iff] at hok
    exact ⟨hok, h⟩
  | 0, .cons _ _, listed, a, w, hok, hd, h => by simp [okOrd] at hok
  | 0, .fork _ _, listed, a, w, hok, hd, h => by simp [okOrd] at hok
  | n + 1, .nil, listed, a, w, hok, hd, h => by simp [okOrd] at hok
  | n + 1, .fork .nil _, listed, a, w, hok, hd, h => by simp [okOrd] at hok
  | n + 1, .fork (.fork _ _) _, listed, a, w, hok, hd, h => by simp [okOrd] at hok
  | n + 1, .fork (.cons _ _) .nil, listed, a, w, hok, hd, h => by simp [okOrd] at hok
  | n + 1, .fork (.cons _ _) (.fork _ _), listed, a, w, hok, hd, h => by simp [okOrd] at hok
  | n + 1, .fork (.cons i s) (.cons j t), listed, a, w, hok, hd, h => by
    simp only [okOrd, Bool.and_eq_true, beq_iff_eq, decide_eq_true_eq] at hok
    obtain ⟨⟨⟨⟨hr, hki⟩, hkj⟩, hok1⟩, hok2⟩ := hok
    have hi' : i ∈ Region.ready md ops listed := by rw [hr]; simp
    have hj' : j ∈ Region.ready md ops listed := by rw [hr]; simp
    refine ⟨fun h0 => (by rw [hr] at h0; cases h0), fun k hk => ?_⟩
    rw [hr] at hk
    simp only [List.mem_cons, List.not_mem_nil, or_false] at hk
    rcases hk with rfl | rfl
    · obtain ⟨_, o, ho, _⟩ := mem_ready.1 hi'
      simp only [kindAt, ho] at hki
      exact can_effect hXo ho (by omega) (fun a' w' hc => wpAnyB_of_can hs F Xo hXo n s _ _ _ hok1 (hd.set hi') hc) h.1
    · obtain ⟨_, o, ho, _⟩ := mem_ready.1 hj'
      simp only [kindAt, ho] at hkj
      exact can_effect hXo ho (by omega) (fun a' w' hc => wpAnyB_of_can hs F Xo hXo n t _ _ _ hok2 (hd.set hj') hc) h.2
  | n + 1, .cons i rest, listed, a, w, hok, hd, h => by
    simp only [okOrd, Bool.and_eq_true] at hok
    obtain ⟨hok1, hok2⟩ := hok
    cases ho : ops[i]? with
    | none => simp [ho] at hok1
    | some o =>
      simp only [ho] at hok1
      split at hok1
      · rename_i hk
        simp only [Bool.and_eq_true, Bool.or_eq_true] at hok1
        obtain ⟨⟨⟨hr, hfree⟩, hX⟩, hsens⟩ := hok1
        have hr' : i ∈ Region.ready md ops listed := by simpa using hr
        obtain ⟨af, wf, ⟨⟨hfin, hrds⟩, _⟩, hkeep⟩ := wpCan_get (.cons i rest) a w h
        have hsame : ∀ x ∈ sens o, af.eval x = a.eval x := by
          intro x hx
          rw [List.all_eq_true] at hsens
          have := hsens x hx
          cases x with
          | tmp t =>
            simp only [List.all_eq_true] at this
            exact hkeep t fun j hj => by simpa using this j hj
          | const v => rfl
          | global g => rfl
          | func f => rfl
        have hofin : okFin a.eval o = true := by
          have h1 : okFin af.eval o = true := by
            unfold fin at hfin
            rw [List.all_eq_true] at hfin
            exact hfin o (by rw [Array.mem_toList_iff]; exact Array.mem_of_getElem? ho)
          rw [← okFin_congr (ρ := af.eval) (ρ' := a.eval) o hsame]
          exact h1
        have hord : readsIn B a.eval o := by
          rw [← readsIn_congr (ρ := af.eval) (ρ' := a.eval) o hsame]
          exact hrds o (by rw [Array.mem_toList_iff]; exact Array.mem_of_getElem? ho)
        obtain ⟨s, hs1, hcalm⟩ := calm_op (P := P) o a.eval B hk hofin (fun _ => hord)
        have hfirst : ∀ v, YieldsIf P ops (fun w2 => (opKind P o == 1) = true → Held B w w2) o v a →
            wpCan P ops (Tame fun e a w => (fin ops a = true ∧ reads B ops a) ∧ Q e a w) B Xo rest (a.put o.dst v) w →
            wpAnyB P md ops (Tame fun e a w => (fin ops a = true ∧ reads B ops a) ∧ Q e a w) B X (n + 1) listed a w := by
          intro v hy hc
          refine wpAnyB_first (F := F) ho (Region.noSelect_spec hs) (fun c a w h => h) n listed a w hd (Region.free_spec ho hfree) ?_ hr' hy
            (wpAnyB_of_can hs F Xo hXo n rest _ _ _ hok2 (hd.set hr') hc)
          intro hrd j hun hji
          rcases hX with hX | hX
          · exfalso; simp at hrd hX; omega
          · rw [List.all_eq_true] at hX
            have hlt : j < listed.size := by
              rcases Nat.lt_or_ge j listed.size with h' | h'
              · exact h'
              · simp [Array.getElem?_eq_none h'] at hun
            have := hX j (List.mem_range.2 hlt)
            simp only [hun, Bool.or_eq_true, beq_iff_eq, hji] at this
            simpa using this
        unfold wpCan wpOp at h
        simp only [ho] at h
        split at h
        · rename_i hwant
          rcases h with h | ⟨_, h⟩
          case inr => exact (Tame.lets h).elim
          unfold Oper.wp at h
          rw [hs1] at h
          simp only [Sem.run_bind, Sem.run_pure] at h
          cases hrun : s.run P w with
          | ok v w' =>
            obtain ⟨rfl, hst⟩ := hcalm.stable w v w' hrun
            rw [hrun] at h
            simp only [Result.andThen_ok, Oper.upon] at h
            refine hfirst v (.inl ⟨hwant, fun w2 ha => ?_⟩) h.2
            have hh : Held (fun k => opKind P o = 1 ∧ B k) w' w2 := by
              by_cases hk1 : opKind P o = 1
              · exact (ha (by simp [hk1])).mono fun k h => h.2
              · exact .inr fun k o hm => absurd hm.1 hk1
            rw [hs1, Sem.run_bind, hst w2 hh]
            rfl
          | halt x w' =>
            rw [hrun] at h
            simp only [Result.andThen] at h
            cases x <;> simp only [Oper.upon] at h <;> exact h.elim
        · rename_i hwant
          exact hfirst undef (.inr ⟨by simpa using hwant, rfl⟩) h.2
      · rename_i hk
        have hr : Region.ready md ops listed = [i] := by simpa using hok1
        have hr' : i ∈ Region.ready md ops listed := by rw [hr]; simp
        refine ⟨fun h0 => (by rw [hr] at h0; cases h0), fun j hj => ?_⟩
        rw [hr] at hj
        obtain rfl : j = i := by simpa using hj
        exact can_effect hXo ho hk (fun a' w' hc => wpAnyB_of_can hs F Xo hXo n rest _ _ _ hok2 (hd.set hr') hc) h
end
end Go.Proofs.Ytblahapjdgncfaa
