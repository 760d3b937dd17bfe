/- A region that draws its order, where more than two effects are ready at once: the law for orders with many branches. -/
import Derived.Test.YtmabjghjkgicgaaBase
namespace Go.Proofs.Ytmabjghjkgicgaa
open Go.RowKit
set_option linter.unusedVariables false
set_option linter.unusedSimpArgs false

section
variable {P : Program} {ops : Array Oper} {Q : Exit → Act → World → Prop} {md : Region.Mode} {B : Nat → Prop} {X : Nat → Bool}
/-- orders, branch by branch; seen: what other branches begin with -/
def okOrdN (P : Program) (md : Region.Mode) (ops : Array Oper) (F : Nat) (X : Nat → Bool) : Tr → Nat → List Nat → Array Bool → Bool
  | .nil, 0, [], listed => (Region.ready md ops listed).isEmpty
  | .cons i rest, n + 1, [], listed =>
    (match ops[i]? with
     | none => false
     | some o =>
       if opKind P o ≤ 1 then
         (Region.ready md ops listed).contains i && Region.free md ops listed i
         && (opKind P o == 0 || (List.range listed.size).all fun j => listed.getD j true || j == i || X j || reach md ops F i j)
         && (sens o).all fun x => match x with
           | .tmp t => (i :: rest.all).all fun j => (ops[j]?).bind (·.dst) != some t
           | _ => true
       else Region.ready md ops listed == [i]) && okOrdN P md ops F X rest n [] (listed.setIfInBounds i true)
  | .cons i rest, n + 1, x :: seen, listed =>
    (Region.ready md ops listed).contains i && ((Region.ready md ops listed).all fun k => (i :: x :: seen).contains k) && decide (1 < kindAt P ops i)
    && okOrdN P md ops F X rest n [] (listed.setIfInBounds i true)
  | .fork (.cons i s) t, n + 1, seen, listed =>
    (Region.ready md ops listed).contains i && decide (1 < kindAt P ops i)
    && okOrdN P md ops F X s n [] (listed.setIfInBounds i true) && okOrdN P md ops F X t (n + 1) (i :: seen) listed
  | _, _, _, _ => false
/-- what is ready and not seen yet -/
def wpAnyC (P : Program) (md : Region.Mode) (ops : Array Oper) (Q : Exit → Act → World → Prop) (B : Nat → Prop) (X : Nat → Bool) : Nat → List Nat → Array Bool → Act → World → Prop
  | 0, _, listed, a, w => Region.ready md ops listed = [] ∧ Q .normal a w
  | fuel + 1, seen, listed, a, w =>
    (Region.ready md ops listed = [] → Q .normal a w) ∧
    ∀ i ∈ Region.ready md ops listed, i ∉ seen → wpOp P ops Q i (fun a' w' => (X i = true → Held B w w') ∧ wpAnyB P md ops Q B X fuel (listed.setIfInBounds i true) a' w') a w
theorem any_get {n : Nat} {listed : Array Bool} {a : Act} {w : World} (h : wpAnyC P md ops Q B X n [] listed a w) : wpAnyB P md ops Q B X n listed a w := by
  cases n with
  | zero => exact h
  | succ n => exact ⟨h.1, fun i hi => h.2 i hi (by simp)⟩
theorem wpAnyC_nil {n : Nat} {listed : Array Bool} {a : Act} {w : World} : wpAnyC P md ops Q B X n [] listed a w = wpAnyB P md ops Q B X n listed a w := by
  cases n with
  | zero => rfl
  | succ n => simp [wpAnyC, wpAnyB]
theorem wpAnyC_of_can (hs : Region.noSelect ops = true) (F : Nat) (Xo : Nat → Bool) (hXo : ∀ i o, ops[i]? = some o → X i = true → 2 < opKind P o → Xo i = true) :
    ∀ (l : Tr) (n : Nat) (seen : List Nat) (listed : Array Bool) (a : Act) (w : World), okOrdN P md ops F X l n seen listed = true → Down md ops listed →
      wpCan P ops (Tame fun e a w => (fin ops a = true ∧ reads B ops a) ∧ Q e a w) B Xo l a w → wpAnyC P md ops (Tame fun e a w => (fin ops a = true ∧ reads B ops a) ∧ Q e a w) B X n seen listed a w
  | .nil, 0, [], listed, a, w, hok, hd, h => by
    simp only [okOrdN, List.isEmpty_iff] at hok
    exact ⟨hok, h⟩
  | .nil, 0, _ :: _, listed, a, w, hok, hd, h => by simp [okOrdN] at hok
  | .nil, n + 1, _, listed, a, w, hok, hd, h => by simp [okOrdN] at hok
  | .cons _ _, 0, _, listed, a, w, hok, hd, h => by simp [okOrdN] at hok
  | .fork .nil _, _, _, listed, a, w, hok, hd, h => by simp [okOrdN] at hok
  | .fork (.fork _ _) _, _, _, listed, a, w, hok, hd, h => by simp [okOrdN] at hok
  | .fork (.cons _ _) _, 0, _, listed, a, w, hok, hd, h => by simp [okOrdN] at hok
  | .fork (.cons i s) t, n + 1, seen, listed, a, w, hok, hd, h => by
    simp only [okOrdN, Bool.and_eq_true, decide_eq_true_eq] at hok
    obtain ⟨⟨⟨hr, hki⟩, hok1⟩, hok2⟩ := hok
    have hi' : i ∈ Region.ready md ops listed := by simpa using hr
    have h2 := wpAnyC_of_can hs F Xo hXo t (n + 1) (i :: seen) listed a w hok2 hd h.2
    refine ⟨fun h0 => (by rw [h0] at hi'; simp at hi'), fun k hk hks => ?_⟩
    by_cases hki' : k = i
    · subst hki'
      obtain ⟨_, o, ho, _⟩ := mem_ready.1 hi'
      simp only [kindAt, ho] at hki
      exact can_effect hXo ho (by omega) (fun a' w' hc => any_get (wpAnyC_of_can hs F Xo hXo s n [] _ _ _ hok1 (hd.set hi') hc)) h.1
    · exact h2.2 k hk (by simp [hki', hks])
  | .cons i rest, n + 1, x :: seen, listed, a, w, hok, hd, h => by
    simp only [okOrdN, Bool.and_eq_true, decide_eq_true_eq] at hok
    obtain ⟨⟨⟨hr, hall⟩, hki⟩, hok1⟩ := hok
    have hi' : i ∈ Region.ready md ops listed := by simpa using hr
    refine ⟨fun h0 => (by rw [h0] at hi'; simp at hi'), fun k hk hks => ?_⟩
    rw [List.all_eq_true] at hall
    have hk2 := hall k hk
    simp only [List.contains_iff_mem, List.mem_cons] at hk2
    have hki' : k = i := by
      rcases hk2 with h | h
      · exact h
      · exact absurd (List.mem_cons.2 h) hks
    subst hki'
    obtain ⟨_, o, ho, _⟩ := mem_ready.1 hi'
    simp only [kindAt, ho] at hki
    exact can_effect hXo ho (by omega) (fun a' w' hc => any_get (wpAnyC_of_can hs F Xo hXo rest n [] _ _ _ hok1 (hd.set hi') hc)) h
  | .cons i rest, n + 1, [], listed, a, w, hok, hd, h => by
    rw [wpAnyC_nil]
    simp only [okOrdN, Bool.and_eq_true] at hok
    obtain ⟨hok1, hok2⟩ := hok
    cases ho : ops[i]? with
    | none => simp [ho] at hok1
    | some o =>
      simp only [ho] at hok1
      split at hok1
      · rename_i hk
        simp only [Bool.and_eq_true, Bool.or_eq_true] at hok1
        obtain ⟨⟨⟨hr, hfree⟩, hX⟩, hsens⟩ := hok1
        have hr' : i ∈ Region.ready md ops listed := by simpa using hr
        obtain ⟨af, wf, ⟨⟨hfin, hrds⟩, _⟩, hkeep⟩ := wpCan_get (.cons i rest) a w h
        have hsame : ∀ x ∈ sens o, af.eval x = a.eval x := by
          intro x hx
          rw [List.all_eq_true] at hsens
          have := hsens x hx
          cases x with
          | tmp t =>
            simp only [List.all_eq_true] at this
            exact hkeep t fun j hj => by simpa using this j hj
          | const v => rfl
          | global g => rfl
          | func f => rfl
        have hofin : okFin a.eval o = true := by
          have h1 : okFin af.eval o = true := by
            unfold fin at hfin
            rw [List.all_eq_true] at hfin
            exact hfin o (by rw [Array.mem_toList_iff]; exact Array.mem_of_getElem? ho)
          rw [← okFin_congr (ρ := af.eval) (ρ' := a.eval) o hsame]
          exact h1
        have hord : readsIn B a.eval o := by
          rw [← readsIn_congr (ρ := af.eval) (ρ' := a.eval) o hsame]
          exact hrds o (by rw [Array.mem_toList_iff]; exact Array.mem_of_getElem? ho)
        obtain ⟨s, hs1, hcalm⟩ := calm_op (P := P) o a.eval B hk hofin (fun _ => hord)
        have hfirst : ∀ v, YieldsIf P ops (fun w2 => (opKind P o == 1) = true → Held B w w2) o v a →
            wpCan P ops (Tame fun e a w => (fin ops a = true ∧ reads B ops a) ∧ Q e a w) B Xo rest (a.put o.dst v) w →
            wpAnyB P md ops (Tame fun e a w => (fin ops a = true ∧ reads B ops a) ∧ Q e a w) B X (n + 1) listed a w := by
          intro v hy hc
          refine wpAnyB_first (F := F) ho (Region.noSelect_spec hs) (fun c a w h => h) n listed a w hd (Region.free_spec ho hfree) ?_ hr' hy
            (any_get (wpAnyC_of_can hs F Xo hXo rest n [] _ _ _ hok2 (hd.set hr') hc))
          intro hrd j hun hji
          rcases hX with hX | hX
          · exfalso; simp at hrd hX; omega
          · rw [List.all_eq_true] at hX
            have hlt : j < listed.size := by
              rcases Nat.lt_or_ge j listed.size with h' | h'
              · exact h'
              · simp [Array.getElem?_eq_none h'] at hun
            have := hX j (List.mem_range.2 hlt)
            simp only [hun, Bool.or_eq_true, beq_iff_eq, hji] at this
            simpa using this
        unfold wpCan wpOp at h
        simp only [ho] at h
        split at h
        · rename_i hwant
          rcases h with h | ⟨_, h⟩
          case inr => exact (Tame.lets h).elim
          unfold Oper.wp at h
          rw [hs1] at h
          simp only [Sem.run_bind, Sem.run_pure] at h
          cases hrun : s.run P w with
          | ok v w' =>
            obtain ⟨rfl, hst⟩ := hcalm.stable w v w' hrun
            rw [hrun] at h
            simp only [Result.andThen_ok, Oper.upon] at h
            refine hfirst v (.inl ⟨hwant, fun w2 ha => ?_⟩) h.2
            have hh : Held (fun k => opKind P o = 1 ∧ B k) w' w2 := by
              by_cases hk1 : opKind P o = 1
              · exact (ha (by simp [hk1])).mono fun k h => h.2
              · exact .inr fun k o hm => absurd hm.1 hk1
            rw [hs1, Sem.run_bind, hst w2 hh]
            rfl
          | halt x w' =>
            rw [hrun] at h
            simp only [Result.andThen] at h
            cases x <;> simp only [Oper.upon] at h <;> exact h.elim
        · rename_i hwant
          exact hfirst undef (.inr ⟨by simpa using hwant, rfl⟩) h.2
      · rename_i hk
        have hr : Region.ready md ops listed = [i] := by simpa using hok1
        have hr' : i ∈ Region.ready md ops listed := by rw [hr]; simp
        refine ⟨fun h0 => (by rw [hr] at h0; cases h0), fun j hj => ?_⟩
        rw [hr] at hj
        obtain rfl : j = i := by simpa using hj
        exact can_effect hXo ho hk (fun a' w' hc => any_get (wpAnyC_of_can hs F Xo hXo rest n [] _ _ _ hok2 (hd.set hr') hc)) h
end
section
variable {P : Program} {ops : Array Oper} {Q : Exit → Act → World → Prop} {B : Nat → Prop}
/-- the static check -/
def okRegionN (P : Program) (ops : Array Oper) (s : Sg) : Bool :=
  let X := mustKeep P ops [] s.tr
  let x := fun j => X.contains j
  Region.noSelect ops && (s.len == ops.size) && okOrdN P .any ops ops.size x s.tr ops.size [] (Array.replicate ops.size false)
    && sgOk (fun i => x i && (match ops[i]? with | some o => decide (2 < opKind P o) | none => true)) ops.size s
/-- THE LAW -/
theorem region_many_at (B : Nat → Prop) (s : Sg) {id : Nat} {a : Act} {w : World} (hm : P.follows .mixedOrders = true) (hok : okRegionN P ops s = true)
    (h : wpSgB P ops Q B s a w.drew) : (Code.region id ops true).wp P Q a w := by
  unfold okRegionN at hok
  simp only [Bool.and_eq_true, beq_iff_eq] at hok
  obtain ⟨⟨⟨h1, h2⟩, h3⟩, h4⟩ := hok
  refine Code.wp_mono Tame.imp ?_
  refine Code.wp_mono (Q := Tame fun e a w => (fin ops a = true ∧ reads B ops a) ∧ Q e a w) (fun e a w hh => by cases e <;> first | exact hh.2 | exact (hh : False).elim) ?_
  refine wp_region_any hm ?_
  refine wpAny_of_B (B := B) _ _ _ _ (any_get (wpAnyC_of_can h1 ops.size _ ?_ _ _ _ _ _ _ h3 ?_ (can_of_sg s a _ h4 h)))
  · intro i o ho hx hk
    simp only [ho, Bool.and_eq_true, decide_eq_true_eq]
    exact ⟨hx, hk⟩
  · intro j o ho hj
    exfalso
    rcases Nat.lt_or_ge j ops.size with h' | h' <;> simp [h'] at hj
theorem region_many (s : Sg) {id : Nat} {a : Act} {w : World} (hm : P.follows .mixedOrders = true) (hok : okRegionN P ops s = true)
    (h : wpSg P ops Q s a w.drew) : (Code.region id ops true).wp P Q a w :=
  region_many_at (fun _ => True) s hm hok (wpSg_all s a _ h)
end
end Go.Proofs.Ytmabjghjkgicgaa
