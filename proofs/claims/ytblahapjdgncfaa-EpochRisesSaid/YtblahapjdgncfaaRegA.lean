/- Operations that read memory at the most: what they yield they yield in every world that agrees. No program in sight. -/
import Derived.Test.YtblahapjdgncfaaMem
namespace Go.Proofs.Ytblahapjdgncfaa
open Go.RowKit
set_option linter.unusedVariables false
set_option linter.unusedSimpArgs false

/-- every block that is there is there again -/
def Agree (w w2 : World) : Prop := ∀ (k : Nat) (o : Obj), w.heap[k]? = some o → w2.heap[k]? = some o
theorem Agree.refl (w : World) : Agree w w := fun _ _ h => h
theorem Agree.trans {a b c : World} (h : Agree a b) (k : Agree b c) : Agree a c := fun i o hi => k i o (h i o hi)
theorem Agree.of_below {w w' : World} (h : Below w.heap.size w w') : Agree w w' := fun k o hk => by
  rw [h.block k (Array.getElem?_eq_some_iff.1 hk).1]; exact hk
theorem Agree.alloc (w : World) (o : Obj) : Agree w (w.alloc o) := fun k x hk => by
  rw [heap_old _ _ (Array.getElem?_eq_some_iff.1 hk).1]; exact hk

theorem Agree.cell {w w2 : World} (h : Agree w w2) {a : Addr} {v : Value} (hc : w.cell? a = some v) : w2.cell? a = some v := by
  unfold World.cell? at *
  cases hb : w.heap[a.block]? with
  | none => rw [hb] at hc; simp at hc
  | some o => rw [hb] at hc; rw [h _ _ hb]; exact hc

theorem Agree.seen {P : Program} {w w2 : World} (h : Agree w w2) {at_ : Addr} {u : TypeId} {k : Addr} {b : Bool} {x}
    (hs : World.seen P w at_ u k b = .ok x) : World.seen P w2 at_ u k b = .ok x := by
  cases hb : w.heap[at_.block]? with
  | none =>
    exfalso
    unfold World.seen at hs
    simp only [hb] at hs
    revert hs
    repeat' split
    all_goals simp [bind, Except.bind, throw, throwThe, MonadExceptOf.throw, pure, Except.pure]
    all_goals (repeat' split)
    all_goals simp
  | some o =>
    have : w2.heap[at_.block]? = w.heap[at_.block]? := by rw [hb]; exact h _ _ hb
    unfold World.seen at *
    rw [this]
    exact hs

theorem Agree.far {P : Program} {w w2 : World} (h : Agree w w2) {a : Addr} {b : Bool} {x} (hc : w.cell? a = none) (hf : w.farLoad P a b = .ok x) :
    w2.cell? a = none ∧ w2.farLoad P a b = .ok x := by
  unfold World.farLoad at hf
  split at hf
  · rename_i at_ u hb
    have hb2 := h _ _ hb
    refine ⟨by unfold World.cell?; rw [hb2], ?_⟩
    unfold World.farLoad
    rw [hb2]
    have hv : ∀ y, World.viewLoad P w at_ u a b = .ok y → World.viewLoad P w2 at_ u a b = .ok y := by
      intro y hy
      unfold World.viewLoad at *
      cases hs : World.seen P w at_ u a b with
      | error e => rw [hs] at hy; simp [bind, Except.bind] at hy
      | ok z => rw [h.seen hs]; rw [hs] at hy; exact hy
    cases hl : World.viewLoad P w at_ u a b with
    | error e => rw [hl] at hf; simp at hf
    | ok y => simp only [hv y hl]; rw [hl] at hf; exact hf
  · simp at hf

/-- what is asked of the blocks in m: they are there again (all of them; or no block in m is a view) -/
def Held (m : Nat → Prop) (w w2 : World) : Prop := Agree w w2 ∨ ∀ (k : Nat) (o : Obj), m k → w.heap[k]? = some o → (∀ at_ u, o ≠ .view at_ u) ∧ w2.heap[k]? = some o
theorem Held.refl (m : Nat → Prop) (w : World) : Held m w w := .inl (Agree.refl w)
theorem Held.trans {m : Nat → Prop} {a b c : World} (h : Held m a b) (k : Held m b c) : Held m a c := by
  rcases h with h | h
  · rcases k with k | k
    · exact .inl (h.trans k)
    · exact .inr fun i o hi ho => k i o hi (h i o ho)
  · rcases k with k | k
    · exact .inr fun i o hi ho => ⟨(h i o hi ho).1, k i o (h i o hi ho).2⟩
    · exact .inr fun i o hi ho => k i o hi (h i o hi ho).2
theorem Held.mono {m n : Nat → Prop} {a b : World} (h : Held m a b) (hmn : ∀ k, n k → m k) : Held n a b := by
  rcases h with h | h
  · exact .inl h
  · exact .inr fun i o hi ho => h i o (hmn i hi) ho
theorem Held.cell {m : Nat → Prop} {w w2 : World} (h : Held m w w2) {a : Addr} (hm : m a.block) {v : Value} (hc : w.cell? a = some v) : w2.cell? a = some v := by
  rcases h with h | h
  · exact h.cell hc
  · unfold World.cell? at *
    cases hb : w.heap[a.block]? with
    | none => rw [hb] at hc; simp at hc
    | some o => rw [hb] at hc; rw [(h _ _ hm hb).2]; exact hc
theorem Held.far {P : Program} {m : Nat → Prop} {w w2 : World} (h : Held m w w2) {a : Addr} (hm : m a.block) {b : Bool} {x} (hc : w.cell? a = none) (hf : w.farLoad P a b = .ok x) :
    w2.cell? a = none ∧ w2.farLoad P a b = .ok x := by
  rcases h with h | h
  · exact h.far hc hf
  · exfalso
    unfold World.farLoad at hf
    split at hf
    · rename_i at_ u hb; exact (h _ _ hm hb).1 at_ u rfl
    · simp at hf

/-- what reads memory, in the blocks in m alone, writes nothing, draws nothing; or never comes to an end that counts -/
inductive Calm (P : Program) (m : Nat → Prop) {α : Type} : Sem α → Prop
  | ret (a : α) : Calm P m (Sem.pure a)
  | prog (k : Program → Sem α) : Calm P m (k P) → Calm P m (Sem.program k)
  | load (md : Mode) (a : Addr) (k : Value → Sem α) : m a.block → (∀ v, Calm P m (k v)) → Calm P m (Sem.load md a k)
  | getObj (r : Nat) (k : Obj → Sem α) : m r → (∀ o, Calm P m (k o)) → Calm P m (Sem.getObj r k)
  | fails (s : Sem α) : (∀ w r w', s.run P w ≠ .ok r w') → Calm P m s

theorem Calm.stable {P : Program} {m : Nat → Prop} {α : Type} {s : Sem α} (h : Calm P m s) : ∀ w r w', s.run P w = .ok r w' → w' = w ∧ ∀ w2, Held m w w2 → s.run P w2 = .ok r w2 := by
  induction h with
  | ret a => intro w r w' h; simp [Sem.run] at h ⊢; obtain ⟨rfl, rfl⟩ := h; exact ⟨rfl, fun _ _ => rfl⟩
  | prog k _ ih => intro w r w' h; exact ih w r w' h
  | load md a k hm _ ih =>
    intro w r w' h
    simp only [Sem.run] at h
    cases hc : w.cell? a with
    | some v =>
      simp only [hc] at h
      obtain ⟨rfl, h2⟩ := ih v w r w' h
      refine ⟨rfl, fun w2 ha => ?_⟩
      simp only [Sem.run, ha.cell hm hc]
      exact h2 w2 ha
    | none =>
      simp only [hc] at h
      cases hf : w.farLoad P a (md == .atomic) with
      | error e => simp [hf] at h
      | ok x =>
        obtain ⟨v, l⟩ := x
        simp only [hf] at h
        obtain ⟨rfl, h2⟩ := ih v w r w' h
        refine ⟨rfl, fun w2 ha => ?_⟩
        obtain ⟨g1, g2⟩ := ha.far hm hc hf
        simp only [Sem.run, g1, g2]
        exact h2 w2 ha
  | getObj i k hm _ ih =>
    intro w r w' h
    simp only [Sem.run] at h
    cases hb : w.heap[i]? with
    | none => simp [hb] at h
    | some o =>
      rw [hb] at h
      cases o
      case cells => simp at h
      all_goals
        obtain ⟨rfl, h2⟩ := ih _ w r w' h
        refine ⟨rfl, fun w2 ha => ?_⟩
        have hb2 := ha.elim (fun h => h _ _ hb) (fun h => (h _ _ hm hb).2)
        simp only [Sem.run, hb2]
        exact h2 w2 ha
  | fails s h => intro w r w' h'; exact absurd h' (h w r w')

section
variable {P : Program} {m : Nat → Prop} {α β : Type}
theorem Calm.halt (h : Halt) : Calm P m (Sem.halt h : Sem α) := .fails _ fun w r w' => by simp [Sem.run]
theorem Calm.pure' (a : α) : Calm P m (pure a : Sem α) := .ret a
theorem Calm.stuck (s : String) : Calm P m (Go.stuck s : Sem α) := Calm.halt _
theorem Calm.unsupported (s : Unsupported) : Calm P m (Go.unsupported s : Sem α) := Calm.halt _
theorem Calm.nilDeref : Calm P m (Go.runtimePanic .nilDeref : Sem α) := .fails _ fun w r w' h => by cases h
theorem Calm.errorPanic (s : String) : Calm P m (Go.runtimePanic (.error s) : Sem α) := .fails _ fun w r w' h => by cases h
theorem Calm.bounds (x y : Int) (b : Bool) (c : BoundsCode) : Calm P m (Go.runtimePanic (.bounds x y b c) : Sem α) := .fails _ fun w r w' h => by cases h
theorem Calm.boundsPanic (k : IntKind) (x y : Int) (c : BoundsCode) : Calm P m (Go.boundsPanic k x y c : Sem α) := .fails _ fun w r w' h => by
  obtain ⟨_, _, hh⟩ := run_boundsPanic (P := P) (w := w) (α := α) k x y c
  rw [hh] at h; cases h

theorem Calm.bind {s : Sem α} {f : α → Sem β} (hs : Calm P m s) (hf : ∀ x, Calm P m (f x)) : Calm P m (s >>= f) := by
  show Calm P m (s.bind f)
  induction hs with
  | ret a => exact hf a
  | prog k _ ih => exact .prog _ ih
  | load md a k hm _ ih => exact .load _ _ _ hm ih
  | getObj r k hm _ ih => exact .getObj _ _ hm ih
  | fails s h =>
    refine .fails _ fun w r w' h' => ?_
    have := Sem.run_bind' P s f w
    rw [this] at h'
    cases hr : s.run P w with
    | ok a w1 => exact h w a w1 hr
    | halt x w1 => rw [hr] at h'; simp [Result.andThen] at h'

theorem Calm.underlying {t : TypeId} {f : TypeDesc → Sem β} (hf : ∀ d, P.underlying t = some d → Calm P m (f d)) : Calm P m (Go.underlying t >>= f) := by
  refine .prog _ ?_
  show Calm P m (Sem.bind (match P.underlying t with | some d => pure d | none => Go.stuck "no such type") f)
  cases h : P.underlying t with
  | none => exact Calm.halt _
  | some d => exact hf d h
theorem Calm.typeInfo {t : TypeId} {f : TypeInfo → Sem β} (hf : ∀ d, P.info? t = some d → Calm P m (f d)) : Calm P m (Go.typeInfo t >>= f) := by
  refine .prog _ ?_
  show Calm P m (Sem.bind (match P.info? t with | some d => pure d | none => Go.stuck "no such type") f)
  cases h : P.info? t with
  | none => exact Calm.halt _
  | some d => exact hf d h
theorem Calm.sizeOf {t : TypeId} {f : Nat → Sem β} (hf : ∀ d, P.info? t = some d → Calm P m (f d.size)) : Calm P m (Go.sizeOf t >>= f) := by
  refine .prog _ ?_
  show Calm P m (Sem.bind (Sem.bind (match P.info? t with | some d => pure d | none => Go.stuck "no such type") (fun i => Sem.pure i.size)) f)
  cases h : P.info? t with
  | none => exact Calm.halt _
  | some d => exact hf d h
theorem Calm.isAgg {t : TypeId} : Calm P m (Go.isAgg t) := by
  refine Calm.underlying fun d _ => ?_
  split <;> exact .ret _
theorem Calm.info {t : TypeId} : Calm P m (Go.typeInfo t) := by
  refine .prog _ ?_
  show Calm P m (match P.info? t with | some d => pure d | none => Go.stuck "no such type")
  split <;> first | exact .ret _ | exact Calm.halt _
theorem Calm.size {t : TypeId} : Calm P m (Go.sizeOf t) := Calm.bind Calm.info (fun _ => .ret _)
end
end Go.Proofs.Ytblahapjdgncfaa
