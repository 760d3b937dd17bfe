/- A region that draws its order, as lists for the walk. -/
import Derived.Test.YtblahapjdgncfaaRegC
namespace Go.Proofs.Ytblahapjdgncfaa
open Go.RowKit
set_option linter.unusedVariables false
set_option linter.unusedSimpArgs false

section
variable {P : Program} {ops : Array Oper} {Q : Exit → Act → World → Prop} {B : Nat → Prop}

theorem wpOp_monoQ {Q1 Q2 : Exit → Act → World → Prop} {i : Nat} {K : Act → World → Prop} {a : Act} {w : World} (hQ : ∀ e a w, e ≠ .normal → Q1 e a w → Q2 e a w) (h : wpOp P ops Q1 i K a w) : wpOp P ops Q2 i K a w := by
  have hl : LetsOut Q1 → LetsOut Q2 := fun ⟨a, w, h⟩ => ⟨a, w, hQ _ _ _ (by simp) h⟩
  unfold wpOp at *
  split
  · simpa [*] using h
  · rename_i o ho
    simp only [ho] at h
    split
    · rename_i hw
      simp only [hw, if_true] at h
      rcases h with h | ⟨h1, h2⟩
      case inr => exact .inr ⟨h1, hl h2⟩
      refine .inl ?_
      unfold Oper.wp at *
      generalize (execOp a.eval o).run P w = r at *
      cases r with
      | ok n w' =>
        cases n <;> simp only [Oper.upon] at h ⊢ <;>
          first
            | exact h
            | exact Calls.mono h (fun e w'' he => by
                cases e <;> first | exact he | exact hQ _ _ _ (by simp) he | exact hl he)
      | halt x w' => cases x <;> simp only [Oper.upon] at h ⊢ <;> first | exact h | exact hQ _ _ _ (by simp) h
    · rename_i hw; simp only [hw] at h; exact h

theorem wpList_cons_op {o : Oper} {i : Nat} (ho : ops[i]? = some o) {rest : List Oper} {a : Act} {w : World} (h : wpList P ops Q (o :: rest) a w) : wpOp P ops Q i (wpList P ops Q rest) a w := by
  unfold wpOp
  simp only [ho]
  exact h

def shut : Exit → Act → World → Prop := fun _ _ _ => False

/-- the order in pieces: a list of operations, and whether behind it 'Agree' is asked; or a fork -/
inductive Sg where
  | done
  | seg (l : List Nat) (b : Bool) (next : Sg)
  | fork (s t : Sg)
def addTr : List Nat → Tr → Tr
  | [], t => t
  | i :: l, t => .cons i (addTr l t)
def Sg.tr : Sg → Tr
  | .done => .nil
  | .seg l _ n => addTr l n.tr
  | .fork s t => .fork s.tr t.tr
def Sg.len : Sg → Nat
  | .done => 0
  | .seg l _ n => l.length + n.len
  | .fork s _ => s.len
/-- from a plain list of pieces -/
def sgOf : List (List Nat × Bool) → Sg
  | [] => .done
  | (l, b) :: r => .seg l b (sgOf r)

/-- the pieces, one after the other; what is flagged leaves the blocks of B -/
def wpSgB (P : Program) (ops : Array Oper) (Q : Exit → Act → World → Prop) (B : Nat → Prop) : Sg → Act → World → Prop
  | .done, a, w => (fin ops a = true ∧ reads B ops a) ∧ Q .normal a w
  | .seg l true r, a, w => wpList P ops (Exit.then (fun a' w' => Held B w w' ∧ wpSgB P ops Q B r a' w') shut) (l.map fun i => ops.toList.getD i default) a w
  | .seg l false r, a, w => wpList P ops (Exit.then (wpSgB P ops Q B r) shut) (l.map fun i => ops.toList.getD i default) a w
  | .fork s t, a, w => wpSgB P ops Q B s a w ∧ wpSgB P ops Q B t a w
def wpSg (P : Program) (ops : Array Oper) (Q : Exit → Act → World → Prop) : Sg → Act → World → Prop
  | .done, a, w => fin ops a = true ∧ Q .normal a w
  | .seg l true r, a, w => wpList P ops (Exit.then (fun a' w' => Agree w w' ∧ wpSg P ops Q r a' w') shut) (l.map fun i => ops.toList.getD i default) a w
  | .seg l false r, a, w => wpList P ops (Exit.then (wpSg P ops Q r) shut) (l.map fun i => ops.toList.getD i default) a w
  | .fork s t, a, w => wpSg P ops Q s a w ∧ wpSg P ops Q t a w
theorem reads_all (a : Act) : reads (fun _ => True) ops a := by
  intro o _
  unfold readsIn
  split <;> (try split) <;> first | trivial | exact fun _ => trivial

def sgOk (Xo : Nat → Bool) (n : Nat) : Sg → Bool
  | .done => true
  | .seg l true r => l.length == 1 && (l.all fun i => decide (i < n)) && sgOk Xo n r
  | .seg l false r => (l.all fun i => !Xo i && decide (i < n)) && sgOk Xo n r
  | .fork s t => sgOk Xo n s && sgOk Xo n t

theorem can_of_list {Xo : Nat → Bool} {K : Act → World → Prop} {more : Tr} (hK : ∀ a w, K a w → wpCan P ops (Tame fun e a w => (fin ops a = true ∧ reads B ops a) ∧ Q e a w) B Xo more a w) :
    ∀ (l : List Nat) (a : Act) (w : World), (l.all fun i => !Xo i && decide (i < ops.size)) = true → wpList P ops (Exit.then K shut) (l.map fun i => ops.toList.getD i default) a w →
      wpCan P ops (Tame fun e a w => (fin ops a = true ∧ reads B ops a) ∧ Q e a w) B Xo (addTr l more) a w
  | [], a, w, _, h => hK a w h
  | i :: l, a, w, hx, h => by
    simp only [List.all_cons, Bool.and_eq_true, decide_eq_true_eq] at hx
    have ho : ops[i]? = some ops[i] := Array.getElem?_eq_getElem hx.1.2
    rw [List.map_cons, show ops.toList.getD i default = ops[i] from by simp [List.getD_eq_getElem?_getD, hx.1.2]] at h
    simp only [addTr, wpCan]
    have h1 := wpList_cons_op ho h
    have h2 := wpOp_monoQ (Q2 := Tame fun e a w => (fin ops a = true ∧ reads B ops a) ∧ Q e a w) (fun e a w hne hh => by cases e <;> first | exact absurd rfl hne | exact hh) h1
    refine wpOp_mono (fun a' w' h3 => ⟨fun hxi => ?_, can_of_list hK l a' w' (by simpa using hx.2) h3⟩) h2
    rw [hxi] at hx; simp at hx

theorem can_of_sg {Xo : Nat → Bool} : ∀ (s : Sg) (a : Act) (w : World), sgOk Xo ops.size s = true → wpSgB P ops Q B s a w →
    wpCan P ops (Tame fun e a w => (fin ops a = true ∧ reads B ops a) ∧ Q e a w) B Xo s.tr a w
  | .done, a, w, _, h => h
  | .fork s t, a, w, hs, h => by
    simp only [sgOk, Bool.and_eq_true] at hs
    exact ⟨can_of_sg s a w hs.1 h.1, can_of_sg t a w hs.2 h.2⟩
  | .seg l false r, a, w, hs, h => by
    simp only [sgOk, Bool.and_eq_true] at hs
    exact can_of_list (fun a w hk => can_of_sg r a w hs.2 hk) l a w hs.1 h
  | .seg l true r, a, w, hs, h => by
    simp only [sgOk, Bool.and_eq_true, beq_iff_eq] at hs
    obtain ⟨⟨h1, h2⟩, h3⟩ := hs
    match l, h1, h2, h with
    | [i], _, hi, h =>
      simp only [List.all_cons, List.all_nil, Bool.and_true, decide_eq_true_eq] at hi
      have ho : ops[i]? = some ops[i] := Array.getElem?_eq_getElem hi
      simp only [wpSgB] at h
      rw [List.map_cons, List.map_nil, show ops.toList.getD i default = ops[i] from by simp [List.getD_eq_getElem?_getD, hi]] at h
      have h1 := wpList_cons_op ho h
      have h2 := wpOp_monoQ (Q2 := Tame fun e a w => (fin ops a = true ∧ reads B ops a) ∧ Q e a w) (fun e a w hne hh => by cases e <;> first | exact absurd rfl hne | exact hh) h1
      simp only [Sg.tr, addTr, wpCan]
      exact wpOp_mono (fun a' w' h4 => ⟨fun _ => h4.1, can_of_sg r a' w' h3 h4.2⟩) h2

/-- what must leave all blocks as they were, while something that reads may still come -/
def mustKeep (P : Program) (ops : Array Oper) (done : List Nat) : Tr → List Nat
  | .nil => []
  | .cons j t => (if done.any fun i => (match ops[i]? with | some o => opKind P o == 1 | none => false) && !reach .any ops ops.size i j then [j] else []) ++ mustKeep P ops (done ++ [j]) t
  | .fork s t => mustKeep P ops done s ++ mustKeep P ops done t

/-- the static check -/
def okRegion (P : Program) (ops : Array Oper) (s : Sg) : Bool :=
  let X := mustKeep P ops [] s.tr
  let x := fun j => X.contains j
  Region.noSelect ops && (s.len == ops.size) && okOrd P .any ops ops.size x ops.size s.tr (Array.replicate ops.size false)
    && sgOk (fun i => x i && (match ops[i]? with | some o => decide (2 < opKind P o) | none => true)) ops.size s

/-- THE LAW -/
theorem region_tree_at (B : Nat → Prop) (s : Sg) {id : Nat} {a : Act} {w : World} (hm : P.follows .mixedOrders = true) (hok : okRegion P ops s = true)
    (h : wpSgB P ops Q B s a w.drew) : (Code.region id ops true).wp P Q a w := by
  unfold okRegion at hok
  simp only [Bool.and_eq_true, beq_iff_eq] at hok
  obtain ⟨⟨⟨h1, h2⟩, h3⟩, h4⟩ := hok
  refine Code.wp_mono Tame.imp ?_
  refine Code.wp_mono (Q := Tame fun e a w => (fin ops a = true ∧ reads B ops a) ∧ Q e a w) (fun e a w hh => by cases e <;> first | exact hh.2 | exact (hh : False).elim) ?_
  refine wp_region_any hm ?_
  refine wpAny_of_B (B := B) _ _ _ _ (wpAnyB_of_can h1 ops.size _ ?_ _ _ _ _ _ h3 ?_ (can_of_sg s a _ h4 h))
  · intro i o ho hx hk
    simp only [ho, Bool.and_eq_true, decide_eq_true_eq]
    exact ⟨hx, hk⟩
  · intro j o ho hj
    exfalso
    rcases Nat.lt_or_ge j ops.size with h' | h' <;> simp [h'] at hj
theorem wpList_monoQ {Q1 Q2 : Exit → Act → World → Prop} (hQ : ∀ e a w, Q1 e a w → Q2 e a w) : ∀ (l : List Oper) (a : Act) (w : World), wpList P ops Q1 l a w → wpList P ops Q2 l a w
  | [], a, w, h => hQ _ _ _ h
  | o :: l, a, w, h => by
    have hl : LetsOut Q1 → LetsOut Q2 := fun ⟨a, w, h⟩ => ⟨a, w, hQ _ _ _ h⟩
    unfold wpList at *
    split
    · rename_i hw
      simp only [hw, if_true] at h
      rcases h with h | ⟨h1, h2⟩
      case inr => exact .inr ⟨h1, hl h2⟩
      refine .inl (Oper.wp_mono (fun a w hh => wpList_monoQ hQ l a w hh) ?_)
      unfold Oper.wp at *
      generalize (execOp a.eval o).run P w = r at *
      cases r with
      | ok n w' =>
        cases n <;> simp only [Oper.upon] at h ⊢ <;>
          first
            | exact h
            | exact Calls.mono h (fun e w'' he => by
                cases e <;> first | exact he | exact hQ _ _ _ he | exact hl he)
      | halt x w' => cases x <;> simp only [Oper.upon] at h ⊢ <;> first | exact h | exact hQ _ _ _ h
    · rename_i hw; simp only [hw] at h; exact wpList_monoQ hQ l _ _ h
theorem wpSg_all : ∀ (s : Sg) (a : Act) (w : World), wpSg P ops Q s a w → wpSgB P ops Q (fun _ => True) s a w
  | .done, a, w, h => ⟨⟨h.1, reads_all a⟩, h.2⟩
  | .fork s t, a, w, h => ⟨wpSg_all s a w h.1, wpSg_all t a w h.2⟩
  | .seg l true r, a, w, h => by
    refine wpList_monoQ ?_ _ a w h
    intro e a w hh
    cases e <;> first | exact ⟨.inl hh.1, wpSg_all r _ _ hh.2⟩ | exact hh
  | .seg l false r, a, w, h => by
    refine wpList_monoQ ?_ _ a w h
    intro e a w hh
    cases e <;> first | exact wpSg_all r _ _ hh | exact hh
theorem region_tree (s : Sg) {id : Nat} {a : Act} {w : World} (hm : P.follows .mixedOrders = true) (hok : okRegion P ops s = true)
    (h : wpSg P ops Q s a w.drew) : (Code.region id ops true).wp P Q a w :=
  region_tree_at (fun _ => True) s hm hok (wpSg_all s a _ h)

/-- the law for one order, its pieces as a list -/
def wpSegs (P : Program) (ops : Array Oper) (Q : Exit → Act → World → Prop) : List (List Nat × Bool) → Act → World → Prop
  | [], a, w => fin ops a = true ∧ Q .normal a w
  | (l, true) :: r, a, w => wpList P ops (Exit.then (fun a' w' => Agree w w' ∧ wpSegs P ops Q r a' w') shut) (l.map fun i => ops.toList.getD i default) a w
  | (l, false) :: r, a, w => wpList P ops (Exit.then (wpSegs P ops Q r) shut) (l.map fun i => ops.toList.getD i default) a w
theorem wpSegs_eq : ∀ s : List (List Nat × Bool), wpSegs P ops Q s = wpSg P ops Q (sgOf s)
  | [] => rfl
  | (l, true) :: r => by funext a w; simp only [wpSegs, sgOf, wpSg, wpSegs_eq r]
  | (l, false) :: r => by funext a w; simp only [wpSegs, sgOf, wpSg, wpSegs_eq r]
theorem region_text (s : List (List Nat × Bool)) {id : Nat} {a : Act} {w : World} (hm : P.follows .mixedOrders = true) (hok : okRegion P ops (sgOf s) = true)
    (h : wpSegs P ops Q s a w.drew) : (Code.region id ops true).wp P Q a w :=
  region_tree (sgOf s) hm hok (by rw [← wpSegs_eq]; exact h)
end
end Go.Proofs.Ytblahapjdgncfaa
