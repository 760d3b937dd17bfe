/- A region that draws its order, as lists for the walk. -/
import Derived.Test.YtkgbdgnfidpelaaRegC
namespace Go.Proofs.Ytkgbdgnfidpelaa
open Go.RowKit
set_option linter.unusedVariables false

section
variable {P : Program} {ops : Array Oper} {Q : Exit → Act → World → Prop}

theorem wpOp_monoQ {Q1 Q2 : Exit → Act → World → Prop} {i : Nat} {K : Act → World → Prop} {a : Act} {w : World} (hQ : ∀ e a w, e ≠ .normal → Q1 e a w → Q2 e a w) (h : wpOp P ops Q1 i K a w) : wpOp P ops Q2 i K a w := by
  have hl : LetsOut Q1 → LetsOut Q2 := fun ⟨a, w, h⟩ => ⟨a, w, hQ _ _ _ (by simp) h⟩
  unfold wpOp at *
  split
  · simpa [*] using h
  · rename_i o ho
    simp only [ho] at h
    split
    · rename_i hw
      simp only [hw, if_true] at h
      rcases h with h | ⟨h1, h2⟩
      case inr => exact .inr ⟨h1, hl h2⟩
      refine .inl ?_
      unfold Oper.wp at *
      generalize (execOp a.eval o).run P w = r at *
      cases r with
      | ok n w' =>
        cases n <;> simp only [Oper.upon] at h ⊢ <;>
          first
            | exact h
            | exact Calls.mono h (fun e w'' he => by
                cases e <;> first | exact he | exact hQ _ _ _ (by simp) he | exact hl he)
      | halt x w' => cases x <;> simp only [Oper.upon] at h ⊢ <;> first | exact h | exact hQ _ _ _ (by simp) h
    · rename_i hw; simp only [hw] at h; exact h

theorem wpList_cons_op {o : Oper} {i : Nat} (ho : ops[i]? = some o) {rest : List Oper} {a : Act} {w : World} (h : wpList P ops Q (o :: rest) a w) : wpOp P ops Q i (wpList P ops Q rest) a w := by
  unfold wpOp
  simp only [ho]
  exact h

def shut : Exit → Act → World → Prop := fun _ _ _ => False

def wpSegs (P : Program) (ops : Array Oper) (Q : Exit → Act → World → Prop) : List (List Nat × Bool) → Act → World → Prop
  | [], a, w => fin ops a = true ∧ Q .normal a w
  | (l, true) :: r, a, w => wpList P ops (Exit.then (fun a' w' => Agree w w' ∧ wpSegs P ops Q r a' w') shut) (l.map fun i => ops.toList.getD i default) a w
  | (l, false) :: r, a, w => wpList P ops (Exit.then (wpSegs P ops Q r) shut) (l.map fun i => ops.toList.getD i default) a w

def segOk (Xo : Nat → Bool) (n : Nat) : List (List Nat × Bool) → Bool
  | [] => true
  | (l, true) :: r => l.length == 1 && (l.all fun i => decide (i < n)) && segOk Xo n r
  | (l, false) :: r => (l.all fun i => !Xo i && decide (i < n)) && segOk Xo n r

theorem can_of_list {Xo : Nat → Bool} {K : Act → World → Prop} {more : List Nat} (hK : ∀ a w, K a w → wpCan P ops (Tame fun e a w => fin ops a = true ∧ Q e a w) Xo more a w) :
    ∀ (l : List Nat) (a : Act) (w : World), (l.all fun i => !Xo i && decide (i < ops.size)) = true → wpList P ops (Exit.then K shut) (l.map fun i => ops.toList.getD i default) a w →
      wpCan P ops (Tame fun e a w => fin ops a = true ∧ Q e a w) Xo (l ++ more) a w
  | [], a, w, _, h => hK a w h
  | i :: l, a, w, hx, h => by
    simp only [List.all_cons, Bool.and_eq_true, decide_eq_true_eq] at hx
    have ho : ops[i]? = some ops[i] := Array.getElem?_eq_getElem hx.1.2
    rw [List.map_cons, show ops.toList.getD i default = ops[i] from by simp [List.getD_eq_getElem?_getD, hx.1.2]] at h
    simp only [List.cons_append, wpCan]
    have h1 := wpList_cons_op ho h
    have h2 := wpOp_monoQ (Q2 := Tame fun e a w => fin ops a = true ∧ Q e a w) (fun e a w hne hh => by cases e <;> first | exact absurd rfl hne | exact hh) h1
    refine wpOp_mono (fun a' w' h3 => ⟨fun hxi => ?_, can_of_list hK l a' w' (by simpa using hx.2) h3⟩) h2
    rw [hxi] at hx; simp at hx

theorem can_of_segs {Xo : Nat → Bool} : ∀ (s : List (List Nat × Bool)) (a : Act) (w : World), segOk Xo ops.size s = true → wpSegs P ops Q s a w →
    wpCan P ops (Tame fun e a w => fin ops a = true ∧ Q e a w) Xo (s.flatMap fun x => x.1) a w
  | [], a, w, _, h => h
  | (l, false) :: r, a, w, hs, h => by
    simp only [segOk, Bool.and_eq_true] at hs
    exact can_of_list (fun a w hk => can_of_segs r a w hs.2 hk) l a w hs.1 h
  | (l, true) :: r, a, w, hs, h => by
    simp only [segOk, Bool.and_eq_true, beq_iff_eq] at hs
    obtain ⟨⟨h1, h2⟩, h3⟩ := hs
    match l, h1, h2, h with
    | [i], _, hi, h =>
      simp only [List.all_cons, List.all_nil, Bool.and_true, decide_eq_true_eq] at hi
      have ho : ops[i]? = some ops[i] := Array.getElem?_eq_getElem hi
      simp only [wpSegs] at h
      rw [List.map_cons, List.map_nil, show ops.toList.getD i default = ops[i] from by simp [List.getD_eq_getElem?_getD, hi]] at h
      have h1 := wpList_cons_op ho h
      have h2 := wpOp_monoQ (Q2 := Tame fun e a w => fin ops a = true ∧ Q e a w) (fun e a w hne hh => by cases e <;> first | exact absurd rfl hne | exact hh) h1
      simp only [List.flatMap_cons, List.singleton_append, wpCan]
      exact wpOp_mono (fun a' w' h4 => ⟨fun _ => h4.1, can_of_segs r a' w' h3 h4.2⟩) h2

/-- what must leave all blocks as they were, while something that reads may still come -/
def mustKeep (P : Program) (ops : Array Oper) (l : List Nat) : Nat → List Nat → List Nat
  | 0, _ => []
  | f + 1, done => match l.drop done.length with
    | [] => []
    | j :: _ =>
      (if done.any fun i => (match ops[i]? with | some o => opKind P o == 1 | none => false) && !reach .any ops ops.size i j then [j] else []) ++ mustKeep P ops l f (done ++ [j])

/-- the static check -/
def okRegion (P : Program) (ops : Array Oper) (s : List (List Nat × Bool)) : Bool :=
  let l := s.flatMap fun x => x.1
  let X := mustKeep P ops l l.length []
  let x := fun j => X.contains j
  Region.noSelect ops && (l.length == ops.size) && okOrd P .any ops ops.size x l (Array.replicate ops.size false)
    && segOk (fun i => x i && (match ops[i]? with | some o => decide (2 < opKind P o) | none => true)) ops.size s

/-- THE LAW -/
theorem region_text (s : List (List Nat × Bool)) {id : Nat} {a : Act} {w : World} (hm : P.follows .mixedOrders = true) (hok : okRegion P ops s = true)
    (h : wpSegs P ops Q s a w.drew) : (Code.region id ops true).wp P Q a w := by
  unfold okRegion at hok
  simp only [Bool.and_eq_true, beq_iff_eq] at hok
  obtain ⟨⟨⟨h1, h2⟩, h3⟩, h4⟩ := hok
  refine Code.wp_mono Tame.imp ?_
  refine Code.wp_mono (Q := Tame fun e a w => fin ops a = true ∧ Q e a w) (fun e a w hh => by cases e <;> first | exact hh.2 | exact (hh : False).elim) ?_
  refine wp_region_any hm ?_
  have hB := wpAny_of_B _ _ _ _ (wpAnyB_of_can h1 ops.size _ ?_ _ _ _ _ h3 ?_ (can_of_segs s a _ h4 h))
  rw [h2] at hB
  exact hB
  · intro i o ho hx hk
    simp only [ho, Bool.and_eq_true, decide_eq_true_eq]
    exact ⟨hx, hk⟩
  · intro j o ho hj
    exfalso
    rcases Nat.lt_or_ge j ops.size with h' | h' <;> simp [h'] at hj
end
end Go.Proofs.Ytkgbdgnfidpelaa
