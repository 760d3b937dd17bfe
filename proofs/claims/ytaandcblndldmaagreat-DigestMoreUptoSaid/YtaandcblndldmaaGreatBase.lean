/- Plain words on memory: slices that read as lists of cells; what a call may change. No program in sight. | Operations that read memory at the most: what they yield they yield in every world that agrees. No program in sight. | Which operations of a region read at the most, and which only add blocks. No program in sight. | A region that draws its order, walked in ONE order: readings first, whatever adds or writes in its one order. No program in sight. | A region that draws its order, as lists for the walk. | Plain words on memory, more: what a call may change (Chg); slices' own blocks. | More plain laws on memory: append from any readable slice; a string's bytes; strings of bytes. | More plain words on memory: a slice that is a whole block. | Arguments opened: slices of whatever can be read. No function in sight. | Slices of elements of many cells: their cells in one list, and back. No function in sight. -/
import Derived.Test.YtaandcblndldmaaGreatRows
import Derived.WalkKit
import Derived.ProofKit
import Derived.OpenShut
import Derived.Laws.AppendOwnNone
import Derived.WalkSpells
import Derived.WalkLawsBesides
import Derived.Lib.Hide
import Derived.OwnWalk
import Derived.Outline
import Derived.Deep.QuietTactic
import Derived.BigQuiet
import Derived.Deep.RegionWith
import Derived.Deep.RegionHeld3
import Derived.StillTailTactics
import Derived.Deep.DeepFit
import Derived.Deep.LoopGhost
import Derived.Deep.DeepCutAuto
import Derived.Deep.AppendLies
import Derived.OrdersHeld
import Derived.Laws.BytesString
import Derived.Laws.IdiomStrings
import Derived.Deep.Slices
import Derived.ChangeSame
/- Mem -/
namespace Go.Proofs.YtaandcblndldmaaGreat
open Go.RowKit
set_option linter.unusedVariables false
set_option linter.unusedSimpArgs false

/-- the cells of a list of bytes -/
def u8s (bs : List UInt8) : List Value := bs.map fun b => .int .u8 (b.toNat : Int)
theorem u8s_length (bs : List UInt8) : (u8s bs).length = bs.length := by simp [u8s]
theorem u8s_one (bs : List UInt8) : ∀ u ∈ u8s bs, u.oneCell' = true := by
  intro u hu; obtain ⟨b, _, rfl⟩ := List.mem_map.1 hu; rfl

/-- the slice (a, n, c) (nil too) of n elements of 'size' cells each reads as the cells xs -/
def Sl (w : World) (size : Nat) (a : Option Addr) (n c : Nat) (xs : List Value) : Prop :=
  xs.length = n * size ∧ n ≤ c ∧ c ≤ maxLen ∧ ((a = none ∧ n = 0 ∧ c = 0) ∨ ∃ b, a = some b ∧ ∀ j u, xs[j]? = some u → w.cell? (b.add j) = some u)

theorem Sl.nil (w : World) (size : Nat) : Sl w size none 0 0 [] := ⟨by simp, Nat.le_refl _, Nat.zero_le _, .inl ⟨rfl, rfl, rfl⟩⟩

theorem Sl.of_owns {w : World} {base : Nat} {e : TypeId} {size : Nat} {a : Option Addr} {n c : Nat} {xs : List Value} (h : w.ownsRow base e size (.slice a n c) n xs) : Sl w size a n c xs := by
  rcases h.2 with ⟨h2, h3⟩ | ⟨g, cap, cur, h2, hb, hg, hn, hc, hs, ht⟩
  · simp at h2
    obtain ⟨rfl, rfl, rfl⟩ := h2
    exact ⟨h.1, Nat.le_refl _, Nat.zero_le _, .inl ⟨rfl, rfl, rfl⟩⟩
  · simp at h2
    obtain ⟨rfl, rfl⟩ := h2
    exact ⟨h.1, hn, hc, .inr ⟨_, rfl, h.cells (g := g) rfl⟩⟩

/-- an owned row's value is a slice -/
theorem owns_slice {w : World} {base : Nat} {e : TypeId} {size : Nat} {v : Value} {n : Nat} {xs : List Value} (h : w.ownsRow base e size v n xs) : ∃ a c, v = .slice a n c := by
  rcases h.2 with ⟨rfl, rfl⟩ | ⟨g, cap, cur, rfl, _⟩
  · exact ⟨_, _, rfl⟩
  · exact ⟨_, _, rfl⟩

theorem owns_base {w : World} {base base' : Nat} {e : TypeId} {size : Nat} {v : Value} {n : Nat} {xs : List Value} (h : w.ownsRow base e size v n xs) (hb : base' ≤ base) : w.ownsRow base' e size v n xs := by
  refine ⟨h.1, ?_⟩
  rcases h.2 with h2 | ⟨g, cap, cur, rfl, hg, r⟩
  · exact .inl h2
  · exact .inr ⟨g, cap, cur, rfl, Nat.le_trans hb hg, r⟩

theorem Sl.below {w w' : World} {size : Nat} {a : Option Addr} {n c : Nat} {xs : List Value} (h : Sl w size a n c xs) (hb : Below w.heap.size w w') : Sl w' size a n c xs := by
  obtain ⟨h1, h2, h3, h4⟩ := h
  refine ⟨h1, h2, h3, ?_⟩
  rcases h4 with h4 | ⟨b, rfl, hx⟩
  · exact .inl h4
  · refine .inr ⟨b, rfl, fun j u hu => ?_⟩
    have := hx j u hu
    rw [hb.cell (World.block_lt_of_cell? w _ this)]; exact this

/-- a block that is known whole: its cells, as a rewrite rule without a condition -/
theorem cells_at {w : World} {b : Nat} {C : Array Value} {t : TypeId} {fr : Nat × Nat} (h : w.heap[b]? = some (.cells C t fr)) : ∀ i, w.cell? ⟨b, i, none⟩ = C[i]? := by
  intro i; simp [World.cell?, h]
theorem free_at {w : World} {b : Nat} {C : Array Value} {t : TypeId} (h : w.heap[b]? = some (.cells C t (0, 0))) : ∀ i, w.frozen? ⟨b, i, none⟩ = false := by
  intro i; simp [World.frozen?, h]
theorem heap_new (w : World) (o : Obj) : (w.alloc o).heap[w.heap.size]? = some o := heap_alloc_new w o
theorem heap_old (w : World) (o : Obj) {b : Nat} (h : b < w.heap.size) : (w.alloc o).heap[b]? = w.heap[b]? := Below.heap_alloc w o b h

/-- behind a call that came after one, two, three new blocks -/
theorem new1 {w w1 : World} {o0 : Obj} (hb : Below (w.alloc o0).heap.size (w.alloc o0) w1) : w1.heap[w.heap.size]? = some o0 ∧ w.heap.size + 1 ≤ w1.heap.size ∧ Below w.heap.size w w1 :=
  ⟨(hb.block _ (by simp)).trans (heap_new _ _), by have := hb.size; simpa using this, ((Below.refl _ _).alloc (Nat.le_refl _) _).trans (hb.mono (by simp))⟩
theorem new2 {w w1 : World} {o0 o1 : Obj} (hb : Below ((w.alloc o0).alloc o1).heap.size ((w.alloc o0).alloc o1) w1) : w1.heap[w.heap.size]? = some o0 ∧ w1.heap[w.heap.size + 1]? = some o1 ∧ w.heap.size + 2 ≤ w1.heap.size ∧ Below w.heap.size w w1 := by
  obtain ⟨h1, h2, h3⟩ := new1 hb
  refine ⟨(h3.block _ (by simp)).trans (heap_new _ _), by simpa using h1, by simp at h2; omega, ((Below.refl _ _).alloc (Nat.le_refl _) _).trans (h3.mono (by simp))⟩
/-- old cells and old marks read as before -/
theorem bcell {B : Nat} {W w1 : World} (hb : Below B W w1) : (∀ b o, b < B → w1.cell? ⟨b, o, none⟩ = W.cell? ⟨b, o, none⟩) ∧ (∀ b o, b < B → w1.frozen? ⟨b, o, none⟩ = W.frozen? ⟨b, o, none⟩) :=
  ⟨fun b o h => hb.cell (p := ⟨b, o, none⟩) h, fun b o h => hb.frozen (p := ⟨b, o, none⟩) h⟩
end Go.Proofs.YtaandcblndldmaaGreat

/- RegA -/
namespace Go.Proofs.YtaandcblndldmaaGreat
open Go.RowKit
set_option linter.unusedVariables false
set_option linter.unusedSimpArgs false

/-- every block that is there is there again -/
def Agree (w w2 : World) : Prop := ∀ (k : Nat) (o : Obj), w.heap[k]? = some o → w2.heap[k]? = some o
theorem Agree.refl (w : World) : Agree w w := fun _ _ h => h
theorem Agree.trans {a b c : World} (h : Agree a b) (k : Agree b c) : Agree a c := fun i o hi => k i o (h i o hi)
theorem Agree.of_below {w w' : World} (h : Below w.heap.size w w') : Agree w w' := fun k o hk => by
  rw [h.block k (Array.getElem?_eq_some_iff.1 hk).1]; exact hk
theorem Agree.alloc (w : World) (o : Obj) : Agree w (w.alloc o) := fun k x hk => by
  rw [heap_old _ _ (Array.getElem?_eq_some_iff.1 hk).1]; exact hk

theorem Agree.cell {w w2 : World} (h : Agree w w2) {a : Addr} {v : Value} (hc : w.cell? a = some v) : w2.cell? a = some v := by
  unfold World.cell? at *
  cases hb : w.heap[a.block]? with
  | none => rw [hb] at hc; simp at hc
  | some o => rw [hb] at hc; rw [h _ _ hb]; exact hc

theorem Agree.seen {P : Program} {w w2 : World} (h : Agree w w2) {at_ : Addr} {u : TypeId} {k : Addr} {b : Bool} {x}
    (hs : World.seen P w at_ u k b = .ok x) : World.seen P w2 at_ u k b = .ok x := by
  cases hb : w.heap[at_.block]? with
  | none =>
    exfalso
    unfold World.seen at hs
    simp only [hb] at hs
    revert hs
    repeat' split
    all_goals simp [bind, Except.bind, throw, throwThe, MonadExceptOf.throw, pure, Except.pure]
    all_goals (repeat' split)
    all_goals simp
  | some o =>
    have : w2.heap[at_.block]? = w.heap[at_.block]? := by rw [hb]; exact h _ _ hb
    unfold World.seen at *
    rw [this]
    exact hs

theorem Agree.far {P : Program} {w w2 : World} (h : Agree w w2) {a : Addr} {b : Bool} {x} (hc : w.cell? a = none) (hf : w.farLoad P a b = .ok x) :
    w2.cell? a = none ∧ w2.farLoad P a b = .ok x := by
  unfold World.farLoad at hf
  split at hf
  · rename_i at_ u hb
    have hb2 := h _ _ hb
    refine ⟨by unfold World.cell?; rw [hb2], ?_⟩
    unfold World.farLoad
    rw [hb2]
    have hv : ∀ y, World.viewLoad P w at_ u a b = .ok y → World.viewLoad P w2 at_ u a b = .ok y := by
      intro y hy
      unfold World.viewLoad at *
      cases hs : World.seen P w at_ u a b with
      | error e => rw [hs] at hy; simp [bind, Except.bind] at hy
      | ok z => rw [h.seen hs]; rw [hs] at hy; exact hy
    cases hl : World.viewLoad P w at_ u a b with
    | error e => rw [hl] at hf; simp at hf
    | ok y => simp only [hv y hl]; rw [hl] at hf; exact hf
  · simp at hf

/-- what is asked of the blocks in m: they are there again (all of them; or no block in m is a view) -/
def Held (m : Nat → Prop) (w w2 : World) : Prop := Agree w w2 ∨ ∀ (k : Nat) (o : Obj), m k → w.heap[k]? = some o → (∀ at_ u, o ≠ .view at_ u) ∧ w2.heap[k]? = some o
theorem Held.refl (m : Nat → Prop) (w : World) : Held m w w := .inl (Agree.refl w)
theorem Held.trans {m : Nat → Prop} {a b c : World} (h : Held m a b) (k : Held m b c) : Held m a c := by
  rcases h with h | h
  · rcases k with k | k
    · exact .inl (h.trans k)
    · exact .inr fun i o hi ho => k i o hi (h i o ho)
  · rcases k with k | k
    · exact .inr fun i o hi ho => ⟨(h i o hi ho).1, k i o (h i o hi ho).2⟩
    · exact .inr fun i o hi ho => k i o hi (h i o hi ho).2
theorem Held.mono {m n : Nat → Prop} {a b : World} (h : Held m a b) (hmn : ∀ k, n k → m k) : Held n a b := by
  rcases h with h | h
  · exact .inl h
  · exact .inr fun i o hi ho => h i o (hmn i hi) ho
theorem Held.cell {m : Nat → Prop} {w w2 : World} (h : Held m w w2) {a : Addr} (hm : m a.block) {v : Value} (hc : w.cell? a = some v) : w2.cell? a = some v := by
  rcases h with h | h
  · exact h.cell hc
  · unfold World.cell? at *
    cases hb : w.heap[a.block]? with
    | none => rw [hb] at hc; simp at hc
    | some o => rw [hb] at hc; rw [(h _ _ hm hb).2]; exact hc
theorem Held.far {P : Program} {m : Nat → Prop} {w w2 : World} (h : Held m w w2) {a : Addr} (hm : m a.block) {b : Bool} {x} (hc : w.cell? a = none) (hf : w.farLoad P a b = .ok x) :
    w2.cell? a = none ∧ w2.farLoad P a b = .ok x := by
  rcases h with h | h
  · exact h.far hc hf
  · exfalso
    unfold World.farLoad at hf
    split at hf
    · rename_i at_ u hb; exact (h _ _ hm hb).1 at_ u rfl
    · simp at hf

/-- what reads memory, in the blocks in m alone, writes nothing, draws nothing; or never comes to an end that counts -/
inductive Calm (P : Program) (m : Nat → Prop) {α : Type} : Sem α → Prop
  | ret (a : α) : Calm P m (Sem.pure a)
  | prog (k : Program → Sem α) : Calm P m (k P) → Calm P m (Sem.program k)
  | load (md : Mode) (a : Addr) (k : Value → Sem α) : m a.block → (∀ v, Calm P m (k v)) → Calm P m (Sem.load md a k)
  | getObj (r : Nat) (k : Obj → Sem α) : m r → (∀ o, Calm P m (k o)) → Calm P m (Sem.getObj r k)
  | fails (s : Sem α) : (∀ w r w', s.run P w ≠ .ok r w') → Calm P m s

theorem Calm.stable {P : Program} {m : Nat → Prop} {α : Type} {s : Sem α} (h : Calm P m s) : ∀ w r w', s.run P w = .ok r w' → w' = w ∧ ∀ w2, Held m w w2 → s.run P w2 = .ok r w2 := by
  induction h with
  | ret a => intro w r w' h; simp [Sem.run] at h ⊢; obtain ⟨rfl, rfl⟩ := h; exact ⟨rfl, fun _ _ => rfl⟩
  | prog k _ ih => intro w r w' h; exact ih w r w' h
  | load md a k hm _ ih =>
    intro w r w' h
    simp only [Sem.run] at h
    cases hc : w.cell? a with
    | some v =>
      simp only [hc] at h
      obtain ⟨rfl, h2⟩ := ih v w r w' h
      refine ⟨rfl, fun w2 ha => ?_⟩
      simp only [Sem.run, ha.cell hm hc]
      exact h2 w2 ha
    | none =>
      simp only [hc] at h
      cases hf : w.farLoad P a (md == .atomic) with
      | error e => simp [hf] at h
      | ok x =>
        obtain ⟨v, l⟩ := x
        simp only [hf] at h
        obtain ⟨rfl, h2⟩ := ih v w r w' h
        refine ⟨rfl, fun w2 ha => ?_⟩
        obtain ⟨g1, g2⟩ := ha.far hm hc hf
        simp only [Sem.run, g1, g2]
        exact h2 w2 ha
  | getObj i k hm _ ih =>
    intro w r w' h
    simp only [Sem.run] at h
    cases hb : w.heap[i]? with
    | none => simp [hb] at h
    | some o =>
      rw [hb] at h
      cases o
      case cells => simp at h
      all_goals
        obtain ⟨rfl, h2⟩ := ih _ w r w' h
        refine ⟨rfl, fun w2 ha => ?_⟩
        have hb2 := ha.elim (fun h => h _ _ hb) (fun h => (h _ _ hm hb).2)
        simp only [Sem.run, hb2]
        exact h2 w2 ha
  | fails s h => intro w r w' h'; exact absurd h' (h w r w')

section
variable {P : Program} {m : Nat → Prop} {α β : Type}
theorem Calm.halt (h : Halt) : Calm P m (Sem.halt h : Sem α) := .fails _ fun w r w' => by simp [Sem.run]
theorem Calm.nilDeref : Calm P m (Go.runtimePanic .nilDeref : Sem α) := .fails _ fun w r w' h => by cases h
theorem Calm.errorPanic (s : String) : Calm P m (Go.runtimePanic (.error s) : Sem α) := .fails _ fun w r w' h => by cases h
theorem Calm.boundsPanic (k : IntKind) (x y : Int) (c : BoundsCode) : Calm P m (Go.boundsPanic k x y c : Sem α) := .fails _ fun w r w' h => by
  obtain ⟨_, _, hh⟩ := run_boundsPanic (P := P) (w := w) (α := α) k x y c
  rw [hh] at h; cases h

theorem Calm.bind {s : Sem α} {f : α → Sem β} (hs : Calm P m s) (hf : ∀ x, Calm P m (f x)) : Calm P m (s >>= f) := by
  show Calm P m (s.bind f)
  induction hs with
  | ret a => exact hf a
  | prog k _ ih => exact .prog _ ih
  | load md a k hm _ ih => exact .load _ _ _ hm ih
  | getObj r k hm _ ih => exact .getObj _ _ hm ih
  | fails s h =>
    refine .fails _ fun w r w' h' => ?_
    have := Sem.run_bind' P s f w
    rw [this] at h'
    cases hr : s.run P w with
    | ok a w1 => exact h w a w1 hr
    | halt x w1 => rw [hr] at h'; simp [Result.andThen] at h'

theorem Calm.underlying {t : TypeId} {f : TypeDesc → Sem β} (hf : ∀ d, P.underlying t = some d → Calm P m (f d)) : Calm P m (Go.underlying t >>= f) := by
  refine .prog _ ?_
  show Calm P m (Sem.bind (match P.underlying t with | some d => pure d | none => Go.stuck "no such type") f)
  cases h : P.underlying t with
  | none => exact Calm.halt _
  | some d => exact hf d h
theorem Calm.typeInfo {t : TypeId} {f : TypeInfo → Sem β} (hf : ∀ d, P.info? t = some d → Calm P m (f d)) : Calm P m (Go.typeInfo t >>= f) := by
  refine .prog _ ?_
  show Calm P m (Sem.bind (match P.info? t with | some d => pure d | none => Go.stuck "no such type") f)
  cases h : P.info? t with
  | none => exact Calm.halt _
  | some d => exact hf d h
theorem Calm.sizeOf {t : TypeId} {f : Nat → Sem β} (hf : ∀ d, P.info? t = some d → Calm P m (f d.size)) : Calm P m (Go.sizeOf t >>= f) := by
  refine .prog _ ?_
  show Calm P m (Sem.bind (Sem.bind (match P.info? t with | some d => pure d | none => Go.stuck "no such type") (fun i => Sem.pure i.size)) f)
  cases h : P.info? t with
  | none => exact Calm.halt _
  | some d => exact hf d h
theorem Calm.isAgg {t : TypeId} : Calm P m (Go.isAgg t) := by
  refine Calm.underlying fun d _ => ?_
  split <;> exact .ret _
theorem Calm.info {t : TypeId} : Calm P m (Go.typeInfo t) := by
  refine .prog _ ?_
  show Calm P m (match P.info? t with | some d => pure d | none => Go.stuck "no such type")
  split <;> first | exact .ret _ | exact Calm.halt _
theorem Calm.size {t : TypeId} : Calm P m (Go.sizeOf t) := Calm.bind Calm.info (fun _ => .ret _)
end
end Go.Proofs.YtaandcblndldmaaGreat

/- RegB -/
namespace Go.Proofs.YtaandcblndldmaaGreat
open Go.RowKit
set_option linter.unusedVariables false
set_option linter.unusedSimpArgs false

def plainV : Value → Bool
  | .float _ _ => false
  | .complex _ _ _ => false
  | .iface _ _ => false
  | .chan _ => false
  | .pointer (some _) => false
  | .agg _ => false
  | _ => true
def nilV : Value → Bool
  | .pointer none => true
  | .nilIface => true
  | _ => false
def numV : Value → Bool
  | .int _ _ => true
  | .string _ => true
  | .bool _ => true
  | .tuple _ => true
  | _ => false
def sliceV : Value → Bool
  | .slice _ _ _ => true
  | _ => false
/-- a cell of a struct that is looked at alone -/
def cellV : Value → Bool
  | .int _ _ => true
  | .string _ => true
  | .bool _ => true
  | _ => false
def plainA : Value → Bool
  | .agg cs => cs.all cellV
  | v => cellV v
def aggP : Value → Bool
  | .agg cs => cs.all cellV
  | _ => false
def eqB : BinOp → Bool
  | .eql => true
  | .neq => true
  | _ => false
def binFin (op : BinOp) (x y : Value) : Bool := (eqB op && aggP x && aggP y) || if eqB op then (plainV x && plainV y) || nilV x || nilV y else numV x && numV y
def notMeth : Value → Bool
  | .func (.method _) _ _ => false
  | _ => true
/-- what is asked of the operands, at the end -/
def okFin (ρ : Operand → Value) (o : Oper) : Bool :=
  match o.op with
  | .binOp op _ x y _ => binFin op (ρ x) (ρ y)
  | .nilCheck x => notMeth (ρ x)
  | .convert _ _ x => numV (ρ x) || sliceV (ρ x)
  | .call c => match c.callee, c.args.toList with
    | .builtin .max, l => l.all fun x => numV (ρ x)
    | .builtin .min, l => l.all fun x => numV (ρ x)
    | _, _ => true
  | _ => true

/-- 0: it looks at no memory · 1: it reads memory · 2: it adds blocks · 3: another -/
def opKind (P : Program) (o : Oper) : Nat :=
  match o.op with
  | .move _ => 0
  | .assign _ => 0
  | .pick _ _ _ => 0
  | .extract _ _ => 0
  | .makeFunc _ _ _ => 0
  | .index _ _ _ => 0
  | .slice _ _ _ _ _ => 0
  | .indexAddr _ _ _ => 0
  | .field _ _ _ => 0
  | .makeInterface _ _ => 0
  | .build _ _ => 0
  | .unOp _ _ _ => 0
  | .nilCheck _ => 0
  | .binOp _ _ _ _ _ => 0
  | .fieldAddr s _ f => match P.underlying s with
    | some (.struct fs) => match fs[f]? with
      | some fd => if P.cellsOf fd.type = 0 then 3 else 0
      | none => 3
    | _ => 3
  | .convert src dst _ => match P.underlying src, P.underlying dst with
    | some (.int _), some (.int _) => 0
    | some (.slice e), some .string => (match P.underlying e with
      | some (.int .u8) => 1
      | _ => 3)
    | _, _ => 3
  | .load _ _ => 1
  | .call c => match c.callee with
    | .builtin .len => match (c.argTypes[0]?).bind P.underlying with
      | some (.slice _) => 0
      | some .string => 0
      | _ => 1
    | .builtin .max => 0
    | .builtin .min => 0
    | _ => 3
  | .alloc _ => 2
  | .box _ _ => 2
  | .buildSlice _ _ _ => 2
  | _ => 3

section
variable {P : Program} {m : Nat → Prop} {α β : Type}

theorem Calm.ite {c : Prop} [Decidable c] {a b : Sem α} (h1 : Calm P m a) (h2 : Calm P m b) : Calm P m (if c then a else b) := by
  split
  · exact h1
  · exact h2
theorem calm_under {t : TypeId} : Calm P m (Go.underlying t) := by
  refine .prog _ ?_
  show Calm P m (match P.underlying t with | some d => pure d | none => Go.stuck "no such type")
  split <;> first | exact .ret _ | exact Calm.halt _
theorem calm_asIntOf (v : Value) : Calm P m (asIntOf v) := by
  unfold asIntOf; split <;> first | exact .ret _ | exact Calm.halt _
theorem calm_asBool (v : Value) : Calm P m (asBool v) := by
  unfold asBool; split <;> first | exact .ret _ | exact Calm.halt _
theorem calm_sureAddr (v : Value) : Calm P m (Instr.sureAddr v) := by
  unfold Instr.sureAddr; split <;> first | exact .ret _ | exact Calm.halt _
theorem calm_asAgg (v : Value) : Calm P m (asAgg v) := by
  unfold asAgg; split <;> first | exact .ret _ | exact Calm.halt _
theorem calm_asAddr (v : Value) : Calm P m (asAddr v) := by
  unfold asAddr; split <;> first | exact .ret _ | exact Calm.halt _ | exact Calm.nilDeref
theorem calm_part (t : TypeId) (cs : Array Value) (off : Nat) : Calm P m (part t cs off) := by
  refine Calm.bind Calm.isAgg fun b => ?_
  split
  · exact Calm.bind Calm.size fun _ => .ret _
  · split <;> first | exact .ret _ | exact Calm.halt _
theorem calm_zero (t : TypeId) : Calm P m (zeroValue t) := by
  refine Calm.bind Calm.info fun i => ?_
  split <;> first | exact .ret _ | exact Calm.halt _
theorem calm_field (t : TypeId) (x : Value) (f : Nat) : Calm P m (Instr.field t x f) := by
  refine Calm.underlying fun d _ => ?_
  split
  · split
    · exact Calm.bind (calm_asAgg _) fun _ => calm_part _ _ _
    · exact Calm.halt _
  · exact Calm.halt _
theorem calm_sliceBound (x : Value) (y : Nat) (c : BoundsCode) : Calm P m (Instr.sliceBound x y c) := by
  refine Calm.bind (calm_asIntOf _) fun p => ?_
  split
  split
  · exact .ret _
  · exact Calm.boundsPanic _ _ _ _
theorem calm_sliceBounds (b : Bool) (len cap : Nat) (lo hi mx : Option Value) : Calm P m (Instr.sliceBounds b len cap lo hi mx) := by
  unfold Instr.sliceBounds
  dsimp only
  cases mx <;> cases hi <;> cases lo <;> dsimp only <;>
    repeat (first | exact .ret _ | exact Calm.halt _ | exact calm_sliceBound _ _ _ | (refine Calm.bind ?_ fun _ => ?_))
theorem calm_slice (t : TypeId) (x : Value) (lo hi mx : Option Value) : Calm P m (Instr.slice t x lo hi mx) := by
  refine Calm.underlying fun d _ => ?_
  split
  · split
    · exact Calm.bind (Calm.halt _) fun _ => Calm.bind (calm_sliceBounds _ _ _ _ _ _) fun _ => .ret _
    · exact Calm.bind (calm_sliceBounds _ _ _ _ _ _) fun _ => .ret _
  · exact Calm.bind (calm_sliceBounds _ _ _ _ _ _) fun _ => Calm.bind Calm.size fun _ => .ret _
  · refine Calm.bind (calm_asAddr _) fun _ => Calm.underlying fun d _ => ?_
    split
    · exact Calm.bind (calm_sliceBounds _ _ _ _ _ _) fun _ => Calm.bind Calm.size fun _ => .ret _
    · exact Calm.halt _
  · exact Calm.halt _
theorem calm_sliceAt (t : TypeId) (x : Value) (lo hi mx : Option Value) : Calm P m (Instr.sliceAt t x lo hi mx) := by
  refine Calm.underlying fun d _ => ?_
  split
  · exact Calm.bind (calm_sureAddr _) fun _ => Calm.bind (calm_sliceBounds _ _ _ _ _ _) fun _ => Calm.bind Calm.size fun _ => .ret _
  · exact calm_slice _ _ _ _ _
theorem calm_index (t : TypeId) (x i : Value) : Calm P m (Instr.index t x i) := by
  refine Calm.bind (calm_asIntOf _) fun p => ?_
  split
  refine Calm.underlying fun d _ => ?_
  split
  · split
    · exact Calm.bind Calm.size fun _ => calm_part _ _ _
    · exact Calm.boundsPanic _ _ _ _
  · split
    · exact .ret _
    · exact Calm.boundsPanic _ _ _ _
  · exact Calm.halt _
theorem calm_indexAt (t : TypeId) (x i : Value) : Calm P m (Instr.indexAt t x i) := by
  refine Calm.bind (calm_asIntOf _) fun p => ?_
  obtain ⟨k, i⟩ := p
  refine Calm.underlying fun d _ => ?_
  dsimp only
  repeat' (first | exact .ret _ | exact Calm.halt _ | exact Calm.boundsPanic _ _ _ _ | exact Calm.nilDeref | exact Calm.errorPanic _ | exact Calm.size | exact calm_sureAddr _ | (refine Calm.underlying fun _ _ => ?_) | (refine Calm.bind ?_ fun _ => ?_) | split)
theorem calm_fieldAt (s : TypeId) (x : Value) (f : Nat) (fs : Array Field) (fd : Field) (h1 : P.underlying s = some (.struct fs)) (h2 : fs[f]? = some fd) (h3 : ¬ P.cellsOf fd.type = 0) : Calm P m (Instr.fieldAt s x f) := by
  refine Calm.underlying fun d hd => ?_
  rw [h1] at hd
  obtain rfl : TypeDesc.struct fs = d := by simpa using hd
  simp only [h2]
  refine Calm.bind (calm_sureAddr _) fun a => ?_
  refine Calm.bind ?_ fun _ => .ret _
  unfold fieldPlace
  refine Calm.sizeOf fun i hi => ?_
  have : i.size = P.cellsOf fd.type := by simp [Program.cellsOf, hi]
  rw [if_neg (by rw [this]; exact h3)]
  exact .ret _
theorem calm_build (t : TypeId) (ps : Array (Nat × Value)) : Calm P m (Instr.build t ps) := by
  refine Calm.bind (calm_zero _) fun z => Calm.underlying fun d _ => ?_
  split
  · rename_i fields _
    refine Calm.bind ?_ fun places => ?_
    · rw [Array.mapM_eq_mapM_toList]
      refine Calm.bind ?_ fun _ => .ret _
      induction fields.toList with
      | nil => exact .ret _
      | cons f l ih =>
        rw [List.mapM_cons]
        exact Calm.bind (Calm.bind Calm.size fun _ => .ret _) fun _ => Calm.bind ih fun _ => .ret _
    · split <;> first | exact .ret _ | exact Calm.halt _
  · refine Calm.bind Calm.size fun _ => ?_
    split <;> first | exact .ret _ | exact Calm.halt _
  · exact Calm.halt _
theorem add_block (a : Addr) (i : Nat) : (a.add i).block = a.block := by unfold Addr.add; split <;> rfl
theorem calm_loadFrom (a : Addr) (h : m a.block) : ∀ (n i : Nat) (acc : Array Value), Calm P m (loadCellsFrom a i n acc)
  | 0, _, _ => .ret _
  | n + 1, i, acc => .load _ _ _ (by rw [add_block]; exact h) fun v => calm_loadFrom a h n (i + 1) (acc.push v)
theorem calm_loadVar (t : TypeId) (a : Addr) (h : m a.block) : Calm P m (loadVar t a) := by
  refine Calm.bind Calm.isAgg fun b => ?_
  split
  · exact Calm.bind Calm.size fun n => Calm.bind (calm_loadFrom _ h _ _ _) fun _ => .ret _
  · exact .load _ _ _ h fun _ => .ret _
theorem calm_loadAt (t : TypeId) (x : Value) (h : ∀ a, x = .pointer (some a) → m a.block) : Calm P m (Instr.loadAt t x) := by
  unfold Instr.loadAt
  by_cases hx : ∃ a, x = .pointer (some a)
  · obtain ⟨a, rfl⟩ := hx
    exact calm_loadVar t a (h a rfl)
  · have : Instr.sureAddr x = Go.stuck "an address expected (no nilCheck in front?)" := by
      unfold Instr.sureAddr
      split
      · rename_i a; exact absurd ⟨a, rfl⟩ hx
      · rfl
    rw [this]
    exact Calm.halt _
theorem calm_unary (op : UnOp) (x : Value) : Calm P m (Op.unary op x) := by
  unfold Op.unary
  split
  all_goals first
    | exact .ret _
    | exact Calm.halt _
    | (unfold Op.intArith; split <;> first | exact .ret _ | exact Calm.halt _)
    | (unfold Op.intBits; dsimp only; split <;> first | exact .ret _ | exact Calm.halt _)
theorem calm_len (ts : Array TypeId) (ty : TypeId) (vs : Array Value) (h : ∀ k, m k) : Calm P m (Builtin.len_ ts ty vs) := by
  unfold Builtin.len_
  split
  · refine Calm.underlying fun d _ => ?_
    split
    all_goals first
      | exact .ret _
      | exact Calm.halt _
      | (refine Calm.underlying fun d _ => ?_; split <;> first | exact .ret _ | exact Calm.halt _)
      | (refine .getObj _ _ (h _) fun o => ?_; show Calm P m (Sem.bind (Sem.pure o) _); simp only [Sem.bind]; split <;> first | exact .ret _ | exact Calm.halt _)
  · exact Calm.halt _
theorem calm_len_mute (ts : Array TypeId) (ty : TypeId) (vs : Array Value) (h : (∃ e, (ts[0]?).bind P.underlying = some (.slice e)) ∨ (ts[0]?).bind P.underlying = some .string) : Calm P m (Builtin.len_ ts ty vs) := by
  unfold Builtin.len_
  split
  · rename_i t x heq
    simp only [Prod.mk.injEq] at heq
    refine Calm.underlying fun d hd => ?_
    rw [heq.1] at h
    simp only [Option.bind_some] at h
    rw [hd] at h
    rcases h with ⟨e, he⟩ | he
    · obtain rfl : d = .slice e := by simpa using he
      split
      all_goals first | exact .ret _ | exact Calm.halt _ | (rename_i h1 h2; exact absurd h1 (by simp)) | (rename_i h1; exact absurd h1 (by simp))
    · obtain rfl : d = .string := by simpa using he
      split
      all_goals first | exact .ret _ | exact Calm.halt _ | (rename_i h1 h2; exact absurd h1 (by simp)) | (rename_i h1; exact absurd h1 (by simp))
  · exact Calm.halt _

theorem calm_intCmp (op : BinOp) (x y : Int) : Calm P m (Op.intCmp op x y) := by
  unfold Op.intCmp; split <;> first | exact .ret _ | exact Calm.halt _
theorem calm_stringOp (op : BinOp) (x y : ByteArray) : Calm P m (Op.stringOp op x y) := by
  unfold Op.stringOp; dsimp only; split <;> first | exact .ret _ | exact Calm.halt _ | (split <;> first | exact .ret _ | exact Calm.halt _)
theorem calm_int2 (op : BinOp) (t : TypeId) (k k' : IntKind) (a b : Int) : Calm P m (binOp op t (.int k a) (.int k' b)) := by
  cases op <;> simp only [binOp] <;> repeat' (first | exact .ret _ | exact Calm.halt _ | exact calm_intCmp _ _ _ | exact Calm.errorPanic _ | split | (unfold Op.shift) | (unfold Op.intArith) | (unfold Op.intDiv) | (unfold Op.intBits) | dsimp only)
theorem calm_str2 (op : BinOp) (t : TypeId) (a b : ByteArray) : Calm P m (binOp op t (.string a) (.string b)) := by
  cases op <;> simp only [binOp] <;> exact calm_stringOp _ _ _
theorem calm_eqIn (d : Nat) (t : TypeId) (x y : Value) (h : ((plainV x && plainV y) || nilV x || nilV y) = true) : Calm P m (Op.equalIn d t x y) := by
  cases d with
  | zero => exact Calm.halt _
  | succ d =>
    unfold Op.equalIn
    refine Calm.underlying fun td _ => ?_
    split
    all_goals first
      | exact .ret _
      | exact Calm.halt _
      | (split <;> first | exact .ret _ | exact Calm.halt _)
      | (exfalso; simp [plainV, nilV] at h; done)
      | skip
    all_goals (rename_i a b _; cases a <;> cases b <;> first | exact .ret _ | (exfalso; simp [plainV, nilV] at h; done))

theorem calm_eqGuard (op : BinOp) (t : TypeId) (X Y : Operand) (x y : Value) (h : ((plainV x && plainV y) || nilV x || nilV y) = true) : Calm P m (eqGuard op t X Y x y) := by
  have hin : ∀ d, Calm P m (Op.eqGuardIn d t .nilIface .nilIface) := by
    intro d
    cases d with
    | zero => exact Calm.halt _
    | succ d =>
      unfold Op.eqGuardIn
      refine Calm.underlying fun td _ => ?_
      split <;> first | exact .ret _ | (rename_i h1 _ _; exact absurd h1 (by simp))
  unfold eqGuard
  cases x <;> cases y <;> first
    | (exfalso; simp [plainV, nilV] at h; done)
    | (dsimp only; exact Calm.ite (.ret _) (.ret _))
    | (dsimp only
       refine Calm.ite (.ret _) (Calm.ite (.ret _) (Calm.bind (hin _) fun b => ?_))
       split <;> first | exact .ret _ | exact Calm.halt _)
theorem cellV_plain {v : Value} (h : cellV v = true) : plainA v = true := by
  cases v <;> simp [cellV] at h <;> rfl
theorem sem_assoc (s : Sem α) {γ : Type} (f : α → Sem β) (g : β → Sem γ) : (s >>= f) >>= g = s >>= fun x => f x >>= g := by
  show (s.bind f).bind g = s.bind fun x => (f x).bind g
  induction s <;> simp [Sem.bind, *]
theorem calm_partA (t : TypeId) (xs : Array Value) (off : Nat) {K : Value → Sem β} (h : xs.all cellV = true) (hK : ∀ v, plainA v = true → Calm P m (K v)) : Calm P m (part t xs off >>= K) := by
  have hcell : ∀ (i : Nat) v, xs[i]? = some v → cellV v = true := fun i v hv => by
    rw [Array.all_eq_true_iff_forall_mem] at h
    exact h v (Array.mem_of_getElem? hv)
  have hext : ∀ a b, plainA (.agg (xs.extract a b)) = true := fun a b => by
    show (xs.extract a b).all cellV = true
    rw [Array.all_eq_true_iff_forall_mem] at h ⊢
    intro v hv
    refine h v ?_
    obtain ⟨i, hi⟩ := Array.getElem?_of_mem hv
    rw [Array.getElem?_extract] at hi
    split at hi
    · exact Array.mem_of_getElem? hi
    · cases hi
  unfold part
  rw [sem_assoc]
  refine Calm.bind Calm.isAgg fun b => ?_
  cases b with
  | true =>
    rw [if_pos rfl, sem_assoc]
    exact Calm.bind Calm.size fun n => hK _ (hext _ _)
  | false =>
    rw [if_neg (by simp)]
    split
    · rename_i v hv; exact hK _ (cellV_plain (hcell _ _ hv))
    · exact Calm.halt _
theorem calm_forInA {γ β : Type} (f : γ → β → Sem (ForInStep β)) (hf : ∀ x b, Calm P m (f x b)) : ∀ (l : List γ) (b : β), Calm P m (forIn l b f)
  | [], b => by rw [List.forIn_nil]; exact .ret _
  | x :: l, b => by
    rw [List.forIn_cons]
    refine Calm.bind (hf x b) fun r => ?_
    cases r with
    | done b => exact .ret _
    | yield b => exact calm_forInA f hf l b
theorem calm_eqA : ∀ (d : Nat) (t : TypeId) (x y : Value), plainA x = true → plainA y = true → Calm P m (Op.equalIn d t x y)
  | 0, _, _, _, _, _ => Calm.halt _
  | d + 1, t, x, y, hx, hy => by
    cases x <;> (try (exfalso; simp [plainA, cellV] at hx; done)) <;> cases y <;> (try (exfalso; simp [plainA, cellV] at hy; done))
    case agg.agg xs ys =>
      unfold Op.equalIn
      refine Calm.underlying fun td _ => ?_
      cases td <;> (try exact Calm.halt _)
      case struct fs =>
        refine Calm.prog _ ?_
        show Calm P m (if P.stoodInHeld t = true then _ else _)
        refine Calm.ite (Calm.halt _) ?_
        rw [← Array.forIn_toList]
        refine Calm.bind (calm_forInA _ (fun f b => ?_) _ _) fun r => ?_
        · split
          · refine calm_partA _ _ _ hx fun v hv => calm_partA _ _ _ hy fun u hu => ?_
            refine Calm.bind (calm_eqA d _ _ _ hv hu) fun r => ?_
            split <;> exact .ret _
          · exact .ret _
        · dsimp only
          split <;> exact .ret _
      case array len elem =>
        refine Calm.bind Calm.size fun n => ?_
        rw [Std.Legacy.Range.forIn_eq_forIn_range']
        refine Calm.bind (calm_forInA _ (fun f b => ?_) _ _) fun r => ?_
        · refine calm_partA _ _ _ hx fun v hv => calm_partA _ _ _ hy fun u hu => ?_
          refine Calm.bind (calm_eqA d _ _ _ hv hu) fun r => ?_
          split <;> exact .ret _
        · dsimp only
          split <;> exact .ret _
    all_goals first
      | (refine calm_eqIn _ _ _ _ ?_; simp [plainV]; done)
      | (unfold Op.equalIn
         refine Calm.underlying fun td _ => ?_
         cases td <;> exact Calm.halt _)
theorem calm_gA : ∀ (d : Nat) (t : TypeId) (x y : Value), plainA x = true → plainA y = true → Calm P m (Op.eqGuardIn d t x y)
  | 0, _, _, _, _, _ => Calm.halt _
  | d + 1, t, x, y, hx, hy => by
    cases x <;> (try (exfalso; simp [plainA, cellV] at hx; done)) <;> cases y <;> (try (exfalso; simp [plainA, cellV] at hy; done))
    case agg.agg xs ys =>
      unfold Op.eqGuardIn
      refine Calm.underlying fun td _ => ?_
      cases td <;> (try exact .ret _)
      case struct fs =>
        dsimp only
        rw [← Array.forIn_toList]
        refine Calm.bind (calm_forInA _ (fun f b => ?_) _ _) fun r => ?_
        · split
          · refine calm_partA _ _ _ hx fun v hv => calm_partA _ _ _ hy fun u hu => ?_
            refine Calm.bind (calm_gA d _ _ _ hv hu) fun r => ?_
            split <;> exact .ret _
          · exact .ret _
        · split <;> exact .ret _
      case array len elem =>
        refine Calm.bind Calm.size fun n => ?_
        rw [Std.Legacy.Range.forIn_eq_forIn_range']
        refine Calm.bind (calm_forInA _ (fun f b => ?_) _ _) fun r => ?_
        · refine calm_partA _ _ _ hx fun v hv => calm_partA _ _ _ hy fun u hu => ?_
          refine Calm.bind (calm_gA d _ _ _ hv hu) fun r => ?_
          split <;> exact .ret _
        · dsimp only
          split <;> exact .ret _
    all_goals
      (unfold Op.eqGuardIn
       refine Calm.underlying fun td _ => ?_
       cases td <;> exact .ret _)
theorem calm_binA (op : BinOp) (he : eqB op = true) (t : TypeId) (X Y : Operand) (x y : Value) (hx : aggP x = true) (hy : aggP y = true) : Calm P m (do eqGuard op t X Y x y; binOp op t x y) := by
  cases x <;> (try (exfalso; simp [aggP] at hx; done))
  cases y <;> (try (exfalso; simp [aggP] at hy; done))
  rename_i xs ys
  refine Calm.bind ?_ fun _ => ?_
  · unfold eqGuard
    dsimp only
    refine Calm.ite (.ret _) ?_
    refine .prog _ (.prog _ ?_)
    show Calm P m (if _ then _ else _)
    refine Calm.ite (.ret _) ?_
    refine Calm.bind (calm_gA _ _ _ _ hx hy) fun b => ?_
    split <;> first | exact .ret _ | exact Calm.halt _
  · cases op <;> simp [eqB] at he
    all_goals (simp only [binOp]; exact Calm.bind (calm_eqA _ _ _ _ hx hy) fun _ => .ret _)
theorem calm_binOp (op : BinOp) (t : TypeId) (X Y : Operand) (x y : Value) (h : binFin op x y = true) : Calm P m (do eqGuard op t X Y x y; binOp op t x y) := by
  unfold binFin at h
  by_cases hA : (eqB op && aggP x && aggP y) = true
  · simp only [Bool.and_eq_true] at hA
    exact calm_binA op hA.1.1 t X Y x y hA.1.2 hA.2
  rw [Bool.not_eq_true] at hA
  rw [hA, Bool.false_or] at h
  split at h
  · rename_i he
    refine Calm.bind (calm_eqGuard op t X Y x y h) fun _ => ?_
    cases op <;> simp [eqB] at he
    all_goals
      cases x <;> cases y <;> first
        | exact calm_int2 _ _ _ _ _ _
        | exact calm_str2 _ _ _ _
        | (exfalso; simp [plainV, nilV] at h; done)
        | (simp only [binOp]; exact Calm.bind (calm_eqIn _ _ _ _ h) fun _ => .ret _)
  · rename_i he
    refine Calm.bind ?_ fun _ => ?_
    · cases op <;> simp [eqB] at he <;> exact .ret _
    · cases x <;> simp [numV] at h <;> cases y <;> simp [numV] at h <;> first
        | exact calm_int2 _ _ _ _ _ _
        | exact calm_str2 _ _ _ _
        | (cases op <;> simp [eqB] at he <;> exact Calm.halt _)

theorem max2_num (x y : Value) (hx : numV x = true) (hy : numV y = true) : (∃ z, numV z = true ∧ Builtin.max2 x y = Sem.pure z) ∨ (∃ h, Builtin.max2 x y = Sem.halt h) := by
  cases x <;> simp [numV] at hx <;> cases y <;> simp [numV] at hy <;> first
    | exact .inl ⟨_, rfl, rfl⟩
    | exact .inr ⟨_, rfl⟩
theorem min2_num (x y : Value) (hx : numV x = true) (hy : numV y = true) : (∃ z, numV z = true ∧ Builtin.min2 x y = Sem.pure z) ∨ (∃ h, Builtin.min2 x y = Sem.halt h) := by
  cases x <;> simp [numV] at hx <;> cases y <;> simp [numV] at hy <;> first
    | exact .inl ⟨_, rfl, rfl⟩
    | exact .inr ⟨_, rfl⟩
theorem calm_fold (g : Value → Value → Sem Value) (hg : ∀ x y, numV x = true → numV y = true → (∃ z, numV z = true ∧ g x y = Sem.pure z) ∨ (∃ h, g x y = Sem.halt h)) :
    ∀ (l : List Value) (x : Value), numV x = true → (∀ v ∈ l, numV v = true) → Calm P m (l.foldlM g x)
  | [], x, _, _ => .ret _
  | y :: l, x, hx, hl => by
    rw [List.foldlM_cons]
    rcases hg x y hx (hl y (by simp)) with ⟨z, hz, he⟩ | ⟨h, he⟩
    · rw [he]; exact calm_fold g hg l z hz (fun v hv => hl v (by simp [hv]))
    · rw [he]; exact Calm.halt _

theorem calm_forIn {β : Type} (f : Value → β → Sem (ForInStep β)) (hf : ∀ x b, Calm P m (f x b)) : ∀ (l : List Value) (b : β), Calm P m (forIn l b f)
  | [], b => by rw [List.forIn_nil]; exact .ret _
  | x :: l, b => by
    rw [List.forIn_cons]
    refine Calm.bind (hf x b) fun r => ?_
    cases r with
    | done b => exact .ret _
    | yield b => exact calm_forIn f hf l b
theorem calm_bytesToString (y : Value) (h : ∀ a n c, y = .slice (some a) n c → m a.block) : Calm P m (Conv.bytesToString y) := by
  unfold Conv.bytesToString
  split
  · exact .ret _
  · refine Calm.bind (calm_loadFrom _ (h _ _ _ rfl) _ _ _) fun cs => ?_
    refine Calm.bind ?_ fun _ => .ret _
    rw [← Array.forIn_toList]
    refine calm_forIn _ ?_ _ _
    intro x b
    split <;> first | exact .ret _ | exact Calm.halt _
  · exact Calm.halt _

/-- what is read lies in the blocks B -/
def readsIn (B : Nat → Prop) (ρ : Operand → Value) (o : Oper) : Prop :=
  match o.op with
  | .load _ x => match ρ x with
    | .pointer (some a) => B a.block
    | _ => True
  | .convert _ _ x => match ρ x with
    | .slice (some a) _ _ => B a.block
    | _ => True
  | .call c => match c.callee with
    | .builtin .len => ∀ k, B k
    | _ => True
  | _ => True
/-- WHAT READS AT THE MOST: it is a reading, and its value is what it yields -/
theorem calm_op (o : Oper) (ρ : Operand → Value) (B : Nat → Prop) (hk : opKind P o ≤ 1) (hf : okFin ρ o = true) (hB : opKind P o = 1 → readsIn B ρ o) :
    ∃ s : Sem Value, execOp ρ o = (s >>= fun v => pure (.value v)) ∧ Calm P (fun k => opKind P o = 1 ∧ B k) s := by
  unfold opKind at hk hB ⊢
  unfold okFin at hf
  unfold readsIn at hB
  unfold execOp
  cases ho : o.op <;> simp only [ho] at hk hf hB ⊢
  all_goals first
    | (exfalso; omega)
    | exact ⟨pure _, rfl, .ret _⟩
    | exact ⟨_, rfl, calm_field _ _ _⟩
    | exact ⟨_, rfl, calm_index _ _ _⟩
    | exact ⟨_, rfl, calm_sliceAt _ _ _ _ _⟩
    | exact ⟨_, rfl, calm_indexAt _ _ _⟩
    | exact ⟨_, rfl, calm_build _ _⟩
    | exact ⟨_, rfl, calm_unary _ _⟩
    | exact ⟨_, rfl, calm_loadAt _ _ fun a ha => ⟨trivial, by have := hB trivial; rw [ha] at this; exact this⟩⟩
    | exact ⟨_, rfl, calm_binOp _ _ _ _ _ _ hf⟩
    | (rename_i c a b; exact ⟨asBool (ρ c) >>= fun x => pure (if x then ρ a else ρ b), by cases ρ c <;> rfl, Calm.bind (calm_asBool _) fun _ => .ret _⟩)
    | skip
  case nilCheck x =>
    cases hx : ρ x with
    | pointer a => cases a <;> first | exact ⟨Go.runtimePanic .nilDeref, rfl, Calm.nilDeref⟩ | exact ⟨pure _, rfl, .ret _⟩
    | nilIface => exact ⟨Go.runtimePanic .nilDeref, rfl, Calm.nilDeref⟩
    | nilFunc => exact ⟨Go.runtimePanic .nilDeref, rfl, Calm.nilDeref⟩
    | func fn first captured =>
      rw [hx] at hf
      cases fn <;> first | (exfalso; simp [notMeth] at hf; done) | exact ⟨pure _, rfl, .ret _⟩
    | _ => exact ⟨pure _, rfl, .ret _⟩
  case convert src dst x =>
    refine ⟨_, rfl, ?_⟩
    split at hk
    · rename_i k1 k hs hd
      refine Calm.underlying fun d1 h1 => Calm.underlying fun d2 h2 => ?_
      rw [hs] at h1
      rw [hd] at h2
      obtain rfl : TypeDesc.int k1 = d1 := by simpa using h1
      obtain rfl : TypeDesc.int k = d2 := by simpa using h2
      cases hx : ρ x <;> rw [hx] at hf <;> simp [numV, sliceV] at hf
      all_goals first
        | exact .ret _
        | exact Calm.halt _
    · rename_i e hs hd
      split at hk
      · rename_i he
        refine Calm.underlying fun d1 h1 => Calm.underlying fun d2 h2 => ?_
        rw [hs] at h1
        rw [hd] at h2
        obtain rfl : TypeDesc.slice e = d1 := by simpa using h1
        obtain rfl : TypeDesc.string = d2 := by simpa using h2
        have hb : ∀ y, (∀ a n c, y = .slice (some a) n c → B a.block) → Calm P (fun k => 1 = 1 ∧ B k) (do match ← Go.underlying e with | .int .u8 => Conv.bytesToString y | .int .i32 => Conv.runesToString y | _ => Go.stuck "Convert: a slice of what to string?") := by
          intro y hy
          refine Calm.underlying fun d3 h3 => ?_
          rw [he] at h3
          obtain rfl : TypeDesc.int .u8 = d3 := by simpa using h3
          exact calm_bytesToString y fun a n c h => ⟨rfl, hy a n c h⟩
        cases hx : ρ x <;> rw [hx] at hf <;> simp [numV, sliceV] at hf
        all_goals first
          | exact .ret _
          | exact hb _ (fun a n c h => by
              have := hB (by simp only [hs, hd, he])
              rw [hx, h] at this
              exact this)
      · exfalso; omega
    · exfalso; omega
  case makeInterface t x =>
    refine ⟨_, rfl, Calm.underlying fun d _ => ?_⟩
    split <;> first | exact .ret _ | exact Calm.halt _
  case fieldAddr t x f =>
    refine ⟨_, rfl, ?_⟩
    split at hk
    · rename_i fs hfs
      split at hk
      · rename_i fd hfd
        split at hk
        · exfalso; omega
        · rename_i hne; exact calm_fieldAt t _ f fs fd hfs hfd hne
      · exfalso; omega
    · exfalso; omega
  case extract x i =>
    refine ⟨_, rfl, ?_⟩
    unfold Instr.extract
    split <;> first | exact Calm.halt _ | (split <;> first | exact .ret _ | exact Calm.halt _)
  case call c =>
    obtain ⟨callee, cargs, ctypes⟩ := c
    cases callee with
    | value f => exfalso; simp at hk
    | invoke r n => exfalso; simp at hk
    | builtin b =>
      cases b <;> dsimp only at hk hf ⊢ <;> first | (exfalso; omega) | skip
      case len =>
        refine ⟨_, rfl, ?_⟩
        split
        · rename_i e he; exact calm_len_mute _ _ _ (.inl ⟨_, he⟩)
        · rename_i he; exact calm_len_mute _ _ _ (.inr he)
        · rename_i h1 h2
          refine calm_len _ _ _ fun k => ⟨rfl, hB ?_ k⟩
          dsimp only
          split
          · rename_i e he; exact absurd he (h1 e)
          · rename_i he; exact absurd he h2
          · rfl
      case max =>
        refine ⟨_, rfl, ?_⟩
        unfold Builtin.max_
        rw [List.all_eq_true] at hf
        have hall : ∀ v ∈ (cargs.map ρ).toList, numV v = true := by
          intro v hv; rw [Array.toList_map] at hv; obtain ⟨x, hx, rfl⟩ := List.mem_map.1 hv; exact hf x hx
        split
        · exact Calm.halt _
        · rename_i x rest hx
          rw [hx] at hall
          exact calm_fold _ max2_num _ _ (hall x (by simp)) (fun v hv => hall v (by simp [hv]))
      case min =>
        refine ⟨_, rfl, ?_⟩
        unfold Builtin.min_
        rw [List.all_eq_true] at hf
        have hall : ∀ v ∈ (cargs.map ρ).toList, numV v = true := by
          intro v hv; rw [Array.toList_map] at hv; obtain ⟨x, hx, rfl⟩ := List.mem_map.1 hv; exact hf x hx
        split
        · exact Calm.halt _
        · rename_i x rest hx
          rw [hx] at hall
          exact calm_fold _ min2_num _ _ (hall x (by simp)) (fun v hv => hall v (by simp [hv]))

/-- WHAT ONLY ADDS BLOCKS -/
inductive Adds (P : Program) {α : Type} : Sem α → Prop
  | ret (a : α) : Adds P (Sem.pure a)
  | prog (k : Program → Sem α) : Adds P (k P) → Adds P (Sem.program k)
  | new (o : Obj) (k : Nat → Sem α) : (∀ r, Adds P (k r)) → Adds P (Sem.new o k)
  | fails (s : Sem α) : (∀ w r w', s.run P w ≠ .ok r w') → Adds P s
theorem Adds.agree {s : Sem α} (h : Adds P s) : ∀ w r w', s.run P w = .ok r w' → Agree w w' := by
  induction h with
  | ret a => intro w r w' h; simp [Sem.run] at h; obtain ⟨_, rfl⟩ := h; exact Agree.refl _
  | prog k _ ih => intro w r w' h; exact ih w r w' h
  | new o k _ ih => intro w r w' h; exact (Agree.alloc w o).trans (ih _ _ _ _ h)
  | fails s h => intro w r w' h'; exact absurd h' (h w r w')
theorem Adds.of_calm {s : Sem α} (h : Calm P (fun _ => False) s) : Adds P s := by
  induction h with
  | ret a => exact .ret a
  | prog k _ ih => exact .prog k ih
  | load md a k hm _ ih => exact hm.elim
  | getObj r k hm _ ih => exact hm.elim
  | fails s h => exact .fails s h
theorem Adds.bind {s : Sem α} {f : α → Sem β} (hs : Adds P s) (hf : ∀ x, Adds P (f x)) : Adds P (s >>= f) := by
  show Adds P (s.bind f)
  induction hs with
  | ret a => exact hf a
  | prog k _ ih => exact .prog _ ih
  | new o k _ ih => exact .new _ _ ih
  | fails s h =>
    refine .fails _ fun w r w' h' => ?_
    have := Sem.run_bind' P s f w
    rw [this] at h'
    cases hr : s.run P w with
    | ok a w1 => exact h w a w1 hr
    | halt x w1 => rw [hr] at h'; simp [Result.andThen] at h'
theorem adds_newVar (t : TypeId) (v : Value) : Adds P (newVar t v) := .new _ _ fun _ => .ret _
theorem adds_op (o : Oper) (ρ : Operand → Value) (hk : opKind P o = 2) : ∃ s : Sem Value, execOp ρ o = (s >>= fun v => pure (.value v)) ∧ Adds P s := by
  unfold opKind at hk
  unfold execOp
  cases ho : o.op <;> simp only [ho] at hk ⊢
  all_goals first
    | (exfalso; omega)
    | skip
  case alloc e =>
    refine ⟨_, rfl, Adds.bind (.of_calm (calm_zero _)) fun z => ?_⟩
    exact Adds.bind (adds_newVar _ _) fun _ => .ret _
  case box e x => exact ⟨_, rfl, Adds.bind (adds_newVar _ _) fun _ => .ret _⟩
  case buildSlice t n ps =>
    refine ⟨_, rfl, ?_⟩
    unfold Instr.buildSlice
    dsimp only
    refine Adds.bind (.of_calm calm_under) fun d => ?_
    split
    · refine Adds.bind (.of_calm Calm.size) fun _ => ?_
      repeat' (first
        | exact .ret _
        | exact .of_calm (Calm.halt _)
        | exact .of_calm (calm_zero _)
        | exact .new _ _ fun _ => .ret _
        | (refine Adds.bind ?_ fun _ => ?_)
        | split)
    · exact .of_calm (Calm.halt _)
  all_goals (exfalso; revert hk; (repeat' split) <;> simp)

/-- the operands that 'okFin' looks at -/
def sens (o : Oper) : List Operand :=
  match o.op with
  | .binOp _ _ x y _ => [x, y]
  | .nilCheck x => [x]
  | .load _ x => [x]
  | .convert _ _ x => [x]
  | .call c => match c.callee with
    | .builtin .max => c.args.toList
    | .builtin .min => c.args.toList
    | _ => []
  | _ => []
theorem readsIn_congr {B : Nat → Prop} {ρ ρ' : Operand → Value} (o : Oper) (h : ∀ x ∈ sens o, ρ x = ρ' x) : readsIn B ρ o = readsIn B ρ' o := by
  unfold readsIn
  unfold sens at h
  cases ho : o.op <;> simp only [ho] at h ⊢
  case load t x => rw [h x (by simp)]
  case convert s d x => rw [h x (by simp)]
theorem okFin_congr {ρ ρ' : Operand → Value} (o : Oper) (h : ∀ x ∈ sens o, ρ x = ρ' x) : okFin ρ o = okFin ρ' o := by
  unfold okFin
  unfold sens at h
  cases ho : o.op <;> simp only [ho] at h ⊢
  case binOp op t x y u => rw [h x (by simp), h y (by simp)]
  case nilCheck x => rw [h x (by simp)]
  case convert s d x => rw [h x (by simp)]
  case call c =>
    obtain ⟨callee, cargs, ctypes⟩ := c
    cases callee with
    | builtin b =>
      cases b <;> dsimp only at h ⊢ <;> rw [Bool.eq_iff_iff, List.all_eq_true, List.all_eq_true] <;> exact ⟨fun hh x hx => by rw [← h x hx]; exact hh x hx, fun hh x hx => by rw [h x hx]; exact hh x hx⟩
    | _ => rfl
end
end Go.Proofs.YtaandcblndldmaaGreat

/- RegC -/
namespace Go.Proofs.YtaandcblndldmaaGreat
open Go.RowKit
set_option linter.unusedVariables false
set_option linter.unusedSimpArgs false

/-- no way out but the normal one -/
def Tame (Q : Exit → Act → World → Prop) : Exit → Act → World → Prop
  | .normal, a, w => Q .normal a w
  | _, _, _ => False
theorem Tame.imp {Q : Exit → Act → World → Prop} : ∀ (e : Exit) (a : Act) (w : World), Tame Q e a w → Q e a w := fun e a w h => by
  cases e <;> first | exact h | exact (h : False).elim
theorem Tame.lets {Q : Exit → Act → World → Prop} (h : LetsOut (Tame Q)) : False := by
  obtain ⟨_, _, h⟩ := h; exact h

section
variable {P : Program} {ops : Array Oper} {Q : Exit → Act → World → Prop} {md : Region.Mode} {B : Nat → Prop} {X : Nat → Bool}

/-- i comes before j in every order -/
def reach (md : Region.Mode) (ops : Array Oper) : Nat → Nat → Nat → Bool
  | 0, _, _ => false
  | f + 1, i, j => match ops[j]? with
    | none => false
    | some o => o.after.toList.any fun e => Region.binds md e && (e.on == i || reach md ops f i e.on)

/-- what is listed has all that it waits for listed -/
def Down (md : Region.Mode) (ops : Array Oper) (listed : Array Bool) : Prop :=
  ∀ (j : Nat) (o : Oper), ops[j]? = some o → listed.getD j false = true → ∀ e ∈ o.after, Region.binds md e = true → listed.getD e.on false = true

theorem reach_listed {listed : Array Bool} (hd : Down md ops listed) (i : Nat) : ∀ (f j : Nat) (o : Oper), ops[j]? = some o → (∀ e ∈ o.after, Region.binds md e = true → listed.getD e.on false = true) → reach md ops f i j = true → listed.getD i false = true
  | 0, j, o, _, _, h => by simp [reach] at h
  | f + 1, j, o, ho, hall, h => by
    simp only [reach, ho] at h
    rw [List.any_eq_true] at h
    obtain ⟨e, he, hh⟩ := h
    simp only [Bool.and_eq_true, Bool.or_eq_true, beq_iff_eq] at hh
    have he' : e ∈ o.after := by simpa using he
    have hl := hall e he' hh.1
    rcases hh.2 with rfl | hr
    · exact hl
    · cases hoe : ops[e.on]? with
      | none => exfalso; cases f <;> simp [reach, hoe] at hr
      | some oe => exact reach_listed hd i f e.on oe hoe (hd e.on oe hoe hl) hr

theorem Down.set {listed : Array Bool} (hd : Down md ops listed) {i : Nat} (hr : i ∈ Region.ready md ops listed) : Down md ops (listed.setIfInBounds i true) := by
  intro j o ho hj e he hb
  obtain ⟨h1, o', ho', hall⟩ := mem_ready.1 hr
  by_cases hij : i = j
  · subst hij
    obtain rfl : o' = o := by rw [ho'] at ho; simpa using ho
    exact getD_set_true (hall e he hb)
  · rw [getD_set_ne false hij] at hj
    exact getD_set_true (hd j o ho hj e he hb)

/-- whatever order is picked from here on; behind what X names all blocks are there again -/
def wpAnyB (P : Program) (md : Region.Mode) (ops : Array Oper) (Q : Exit → Act → World → Prop) (B : Nat → Prop) (X : Nat → Bool) : Nat → Array Bool → Act → World → Prop
  | 0, listed, a, w => Region.ready md ops listed = [] ∧ Q .normal a w
  | fuel + 1, listed, a, w =>
    (Region.ready md ops listed = [] → Q .normal a w) ∧
    ∀ i ∈ Region.ready md ops listed, wpOp P ops Q i (fun a' w' => (X i = true → Held B w w') ∧ wpAnyB P md ops Q B X fuel (listed.setIfInBounds i true) a' w') a w

theorem wpAny_of_B : ∀ (fuel : Nat) (listed : Array Bool) (a : Act) (w : World), wpAnyB P md ops Q B X fuel listed a w → wpAny P md ops Q fuel listed a w
  | 0, _, _, _, h => h
  | fuel + 1, _, _, _, h => ⟨h.1, fun i hi => wpOp_mono (fun a' w' h' => wpAny_of_B fuel _ a' w' h'.2) (h.2 i hi)⟩

theorem yields_mono {S S' : World → Prop} {o : Oper} {v : Value} {a : Act} (h : YieldsIf P ops S o v a) (hs : ∀ w, S' w → S w) : YieldsIf P ops S' o v a :=
  h.imp (fun ⟨hw, hv⟩ => ⟨hw, fun w hS => hv w (hs w hS)⟩) id

theorem wpAnyB_first {i : Nat} {oi : Oper} {v : Value} {rd : Bool} {F : Nat} (hi : ops[i]? = some oi) (hsel : ∀ (j : Nat) (o : Oper) cs b, ops[j]? = some o → o.op ≠ .select cs b)
    (hQ : ∀ c a w, Q (.panic c) (a.put oi.dst v) w → Q (.panic c) a w) :
    ∀ (fuel : Nat) (listed : Array Bool) (a : Act) (w : World), Down md ops listed →
      (∀ j oj, ops[j]? = some oj → j ≠ i → listed.getD j true = false → (∀ e ∈ oj.after, Region.binds md e = true → e.on ≠ i) → oi.apart ops oj = true) →
      (rd = true → ∀ j, listed.getD j true = false → j ≠ i → X j = true ∨ reach md ops F i j = true) →
      i ∈ Region.ready md ops listed → YieldsIf P ops (fun w2 => rd = true → Held B w w2) oi v a →
      wpAnyB P md ops Q B X fuel (listed.setIfInBounds i true) (a.put oi.dst v) w → wpAnyB P md ops Q B X (fuel + 1) listed a w := by
  intro fuel
  induction fuel with
  | zero =>
    intro listed a w _ _ _ hr hy H
    refine ⟨fun h => (by rw [h] at hr; cases hr), fun j hj => ?_⟩
    by_cases hji : j = i
    · subst hji; exact hy.wpOp hi (fun _ => Held.refl _ _) ⟨fun _ => Held.refl _ _, H⟩
    · have := ready_mono hj hji
      rw [H.1] at this
      cases this
  | succ fuel ih =>
    intro listed a w hd hfree hX hr hy H
    refine ⟨fun h => (by rw [h] at hr; cases hr), fun j hj => ?_⟩
    by_cases hji : j = i
    · subst hji; exact hy.wpOp hi (fun _ => Held.refl _ _) ⟨fun _ => Held.refl _ _, H⟩
    · have h1 := H.2 j (ready_mono hj hji)
      obtain ⟨hjun, oj, hoj, hall⟩ := mem_ready.1 hj
      have h0 := (mem_ready.1 hr).1
      have hi0 : ¬ listed.getD i false = true := by
        intro hh
        rcases Nat.lt_or_ge i listed.size with h' | h'
        · simp [h'] at h0 hh; rw [h0] at hh; cases hh
        · simp [Array.getElem?_eq_none h'] at hh
      have hnot : ∀ e ∈ oj.after, Region.binds md e = true → e.on ≠ i := fun e he hb heq => by
        have h1 := hall e he hb
        rw [heq] at h1
        exact hi0 h1
      have hXj : rd = true → X j = true := fun hrd => by
        rcases hX hrd j hjun hji with h | h
        · exact h
        · exact absurd (reach_listed hd i F j oj hoj hall h) hi0
      have h2 := wpOp_putIf hoj (hfree j oj hoj hji hjun hnot) (fun cs b => hsel i oi cs b hi) (fun cs b => hsel j oj cs b hoj) hQ hy h1
      have hfree' : ∀ k ok, ops[k]? = some ok → k ≠ i → (listed.setIfInBounds j true).getD k true = false →
          (∀ e ∈ ok.after, Region.binds md e = true → e.on ≠ i) → oi.apart ops ok = true := fun k ok hk hki hun hno => by
        refine hfree k ok hk hki ?_ hno
        by_cases hjk : j = k
        · subst hjk; exact hjun
        · rw [getD_set_ne true hjk] at hun; exact hun
      have hX' : rd = true → ∀ k, (listed.setIfInBounds j true).getD k true = false → k ≠ i → X k = true ∨ reach md ops F i k = true := fun hrd k hun hki => by
        refine hX hrd k ?_ hki
        by_cases hjk : j = k
        · subst hjk; exact hjun
        · rw [getD_set_ne true hjk] at hun; exact hun
      refine wpOp_mono (fun a' w' h3 => ⟨h3.2.1, ih (listed.setIfInBounds j true) a' w' (hd.set hj) hfree' hX' (ready_mono hr (Ne.symm hji)) (yields_mono h3.1 ?_) ?_⟩) h2
      · exact fun w2 hs hrd => (h3.2.1 (hXj hrd)).trans (hs hrd)
      · rw [Array.setIfInBounds_comm _ _ hji]
        exact h3.2.2

theorem put_getD (a : Act) (dst : Option Tmp) (v : Value) (d : Tmp) (h : dst ≠ some d) : (a.put dst v).tmps.getD d undef = a.tmps.getD d undef := by
  cases dst with
  | none => rfl
  | some x =>
    have hx : x ≠ d := fun e => h (by rw [e])
    simp only [Act.put, Array.getD_eq_getD_getElem?]
    rw [Array.getElem?_setIfInBounds_ne hx]

theorem wpOp_get {i : Nat} {K : Act → World → Prop} {a : Act} {w : World} (h : wpOp P ops (Tame Q) i K a w) :
    ∃ a' w', K a' w' ∧ ∀ d, (ops[i]?).bind (·.dst) ≠ some d → a'.tmps.getD d undef = a.tmps.getD d undef := by
  unfold wpOp at h
  cases ho : ops[i]? with
  | none => simp only [ho] at h; exact ⟨a, w, h, fun _ _ => rfl⟩
  | some o =>
    simp only [ho] at h
    split at h
    · rcases h with h | ⟨_, h⟩
      case inr => exact (Tame.lets h).elim
      unfold Oper.wp at h
      generalize (execOp a.eval o).run P w = r at h
      cases r with
      | ok n w' =>
        cases n <;> simp only [Oper.upon] at h <;> try exact h.elim
        case value v => exact ⟨_, _, h, fun d hd => put_getD _ _ _ _ hd⟩
        case skip => exact ⟨_, _, h, fun d hd => put_getD _ _ _ _ hd⟩
        case defer x => exact ⟨_, _, h, fun d hd => put_getD { a with defers := x :: a.defers } _ _ _ hd⟩
        case enter f args =>
          obtain ⟨e, w'', fr, hR, _⟩ := h []
          cases e with
          | returned v => exact ⟨_, _, hR, fun d hd => put_getD _ _ _ _ hd⟩
          | panicked c => exact hR.elim
          | outgrown => exact (Tame.lets hR).elim
        case row row args =>
          obtain ⟨v, w'', hR, _⟩ := h default []
          exact ⟨_, _, hR, fun d hd => put_getD _ _ _ _ hd⟩
      | halt x w' =>
        cases x <;> simp only [Oper.upon] at h <;> exact h.elim
    · exact ⟨_, _, h, fun d hd => put_getD _ _ _ _ hd⟩

/-- orders: one after the other; or one of two effects first, whichever comes up -/
inductive Tr where
  | nil
  | cons (i : Nat) (t : Tr)
  | fork (s t : Tr)
def Tr.all : Tr → List Nat
  | .nil => []
  | .cons i t => i :: t.all
  | .fork s t => s.all ++ t.all

/-- the order; behind what Xo names it is asked that all blocks are there again -/
def wpCan (P : Program) (ops : Array Oper) (Q : Exit → Act → World → Prop) (B : Nat → Prop) (Xo : Nat → Bool) : Tr → Act → World → Prop
  | .nil, a, w => Q .normal a w
  | .cons i rest, a, w => wpOp P ops Q i (fun a' w' => (Xo i = true → Held B w w') ∧ wpCan P ops Q B Xo rest a' w') a w
  | .fork s t, a, w => wpCan P ops Q B Xo s a w ∧ wpCan P ops Q B Xo t a w

theorem wpCan_get {Xo : Nat → Bool} : ∀ (l : Tr) (a : Act) (w : World), wpCan P ops (Tame Q) B Xo l a w →
    ∃ a' w', Q .normal a' w' ∧ ∀ d, (∀ i ∈ l.all, (ops[i]?).bind (·.dst) ≠ some d) → a'.tmps.getD d undef = a.tmps.getD d undef
  | .nil, a, w, h => ⟨a, w, h, fun _ _ => rfl⟩
  | .cons i rest, a, w, h => by
    obtain ⟨a1, w1, ⟨_, h1⟩, hk⟩ := wpOp_get h
    obtain ⟨a2, w2, h2, hk2⟩ := wpCan_get rest a1 w1 h1
    exact ⟨a2, w2, h2, fun d hd => (hk2 d fun j hj => hd j (by simp [Tr.all, hj])).trans (hk d (hd i (by simp [Tr.all])))⟩
  | .fork s t, a, w, h => by
    obtain ⟨a2, w2, h2, hk2⟩ := wpCan_get s a w h.1
    exact ⟨a2, w2, h2, fun d hd => hk2 d fun j hj => hd j (by simp [Tr.all, hj])⟩

/-- what is asked at the region's end -/
def fin (ops : Array Oper) (a : Act) : Bool := ops.toList.all fun o => okFin a.eval o

/-- what is read lies in B -/
def reads (B : Nat → Prop) (ops : Array Oper) (a : Act) : Prop := ∀ o ∈ ops.toList, readsIn B a.eval o

def kindAt (P : Program) (ops : Array Oper) (i : Nat) : Nat := match ops[i]? with
  | some o => opKind P o
  | none => 0

def okOrd (P : Program) (md : Region.Mode) (ops : Array Oper) (F : Nat) (X : Nat → Bool) : Nat → Tr → Array Bool → Bool
  | 0, .nil, listed => (Region.ready md ops listed).isEmpty
  | n + 1, .cons i rest, listed =>
    (match ops[i]? with
     | none => false
     | some o =>
       if opKind P o ≤ 1 then
         (Region.ready md ops listed).contains i && Region.free md ops listed i
         && (opKind P o == 0 || (List.range listed.size).all fun j => listed.getD j true || j == i || X j || reach md ops F i j)
         && (sens o).all fun x => match x with
           | .tmp t => (i :: rest.all).all fun j => (ops[j]?).bind (·.dst) != some t
           | _ => true
       else Region.ready md ops listed == [i]) && okOrd P md ops F X n rest (listed.setIfInBounds i true)
  | n + 1, .fork (.cons i s) (.cons j t), listed =>
    (Region.ready md ops listed == [i, j]) && decide (1 < kindAt P ops i) && decide (1 < kindAt P ops j)
    && okOrd P md ops F X n s (listed.setIfInBounds i true) && okOrd P md ops F X n t (listed.setIfInBounds j true)
  | _, _, _ => false

theorem can_effect {Xo : Nat → Bool} (hXo : ∀ i o, ops[i]? = some o → X i = true → 2 < opKind P o → Xo i = true) {j : Nat} {o : Oper} (ho : ops[j]? = some o) (hk : ¬ opKind P o ≤ 1) {rest : Tr} {K : Act → World → Prop} {a : Act} {w : World}
    (hnext : ∀ a' w', wpCan P ops (Tame Q) B Xo rest a' w' → K a' w') (h : wpCan P ops (Tame Q) B Xo (.cons j rest) a w) :
    wpOp P ops (Tame Q) j (fun a' w' => (X j = true → Held B w w') ∧ K a' w') a w := by
  by_cases hk2 : opKind P o = 2
  · obtain ⟨s, hs1, hadds⟩ := adds_op (P := P) o a.eval hk2
    unfold wpCan wpOp at h
    unfold wpOp
    simp only [ho] at h ⊢
    split at h
    · rename_i hwant
      rw [if_pos hwant]
      rcases h with h | ⟨_, h⟩
      case inr => exact (Tame.lets h).elim
      refine .inl ?_
      unfold Oper.wp at h ⊢
      rw [hs1] at h ⊢
      simp only [Sem.run_bind, Sem.run_pure] at h ⊢
      cases hrun : s.run P w with
      | ok v w' =>
        rw [hrun] at h
        simp only [Result.andThen_ok, Oper.upon] at h ⊢
        exact ⟨fun _ => .inl (hadds.agree w v w' hrun), hnext _ _ h.2⟩
      | halt x w' =>
        rw [hrun] at h
        simp only [Result.andThen] at h
        cases x <;> simp only [Oper.upon] at h <;> exact h.elim
    · rename_i hwant
      rw [if_neg hwant]
      exact ⟨fun _ => Held.refl _ _, hnext _ _ h.2⟩
  · exact wpOp_mono (fun a' w' h3 => ⟨fun hx => h3.1 (hXo j o ho hx (by omega)), hnext _ _ h3.2⟩) h

theorem wpAnyB_of_can (hs : Region.noSelect ops = true) (F : Nat) (Xo : Nat → Bool) (hXo : ∀ i o, ops[i]? = some o → X i = true → 2 < opKind P o → Xo i = true) :
    ∀ (n : Nat) (l : Tr) (listed : Array Bool) (a : Act) (w : World), okOrd P md ops F X n l listed = true → Down md ops listed →
      wpCan P ops (Tame fun e a w => (fin ops a = true ∧ reads B ops a) ∧ Q e a w) B Xo l a w → wpAnyB P md ops (Tame fun e a w => (fin ops a = true ∧ reads B ops a) ∧ Q e a w) B X n listed a w
  | 0, .nil, listed, a, w, hok, hd, h => by
    simp only [okOrd, List.isEmpty_iff] at hok
    exact ⟨hok, h⟩
  | 0, .cons _ _, listed, a, w, hok, hd, h => by simp [okOrd] at hok
  | 0, .fork _ _, listed, a, w, hok, hd, h => by simp [okOrd] at hok
  | n + 1, .nil, listed, a, w, hok, hd, h => by simp [okOrd] at hok
  | n + 1, .fork .nil _, listed, a, w, hok, hd, h => by simp [okOrd] at hok
  | n + 1, .fork (.fork _ _) _, listed, a, w, hok, hd, h => by simp [okOrd] at hok
  | n + 1, .fork (.cons _ _) .nil, listed, a, w, hok, hd, h => by simp [okOrd] at hok
  | n + 1, .fork (.cons _ _) (.fork _ _), listed, a, w, hok, hd, h => by simp [okOrd] at hok
  | n + 1, .fork (.cons i s) (.cons j t), listed, a, w, hok, hd, h => by
    simp only [okOrd, Bool.and_eq_true, beq_iff_eq, decide_eq_true_eq] at hok
    obtain ⟨⟨⟨⟨hr, hki⟩, hkj⟩, hok1⟩, hok2⟩ := hok
    have hi' : i ∈ Region.ready md ops listed := by rw [hr]; simp
    have hj' : j ∈ Region.ready md ops listed := by rw [hr]; simp
    refine ⟨fun h0 => (by rw [hr] at h0; cases h0), fun k hk => ?_⟩
    rw [hr] at hk
    simp only [List.mem_cons, List.not_mem_nil, or_false] at hk
    rcases hk with rfl | rfl
    · obtain ⟨_, o, ho, _⟩ := mem_ready.1 hi'
      simp only [kindAt, ho] at hki
      exact can_effect hXo ho (by omega) (fun a' w' hc => wpAnyB_of_can hs F Xo hXo n s _ _ _ hok1 (hd.set hi') hc) h.1
    · obtain ⟨_, o, ho, _⟩ := mem_ready.1 hj'
      simp only [kindAt, ho] at hkj
      exact can_effect hXo ho (by omega) (fun a' w' hc => wpAnyB_of_can hs F Xo hXo n t _ _ _ hok2 (hd.set hj') hc) h.2
  | n + 1, .cons i rest, listed, a, w, hok, hd, h => by
    simp only [okOrd, Bool.and_eq_true] at hok
    obtain ⟨hok1, hok2⟩ := hok
    cases ho : ops[i]? with
    | none => simp [ho] at hok1
    | some o =>
      simp only [ho] at hok1
      split at hok1
      · rename_i hk
        simp only [Bool.and_eq_true, Bool.or_eq_true] at hok1
        obtain ⟨⟨⟨hr, hfree⟩, hX⟩, hsens⟩ := hok1
        have hr' : i ∈ Region.ready md ops listed := by simpa using hr
        obtain ⟨af, wf, ⟨⟨hfin, hrds⟩, _⟩, hkeep⟩ := wpCan_get (.cons i rest) a w h
        have hsame : ∀ x ∈ sens o, af.eval x = a.eval x := by
          intro x hx
          rw [List.all_eq_true] at hsens
          have := hsens x hx
          cases x with
          | tmp t =>
            simp only [List.all_eq_true] at this
            exact hkeep t fun j hj => by simpa using this j hj
          | const v => rfl
          | global g => rfl
          | func f => rfl
        have hofin : okFin a.eval o = true := by
          have h1 : okFin af.eval o = true := by
            unfold fin at hfin
            rw [List.all_eq_true] at hfin
            exact hfin o (by rw [Array.mem_toList_iff]; exact Array.mem_of_getElem? ho)
          rw [← okFin_congr (ρ := af.eval) (ρ' := a.eval) o hsame]
          exact h1
        have hord : readsIn B a.eval o := by
          rw [← readsIn_congr (ρ := af.eval) (ρ' := a.eval) o hsame]
          exact hrds o (by rw [Array.mem_toList_iff]; exact Array.mem_of_getElem? ho)
        obtain ⟨s, hs1, hcalm⟩ := calm_op (P := P) o a.eval B hk hofin (fun _ => hord)
        have hfirst : ∀ v, YieldsIf P ops (fun w2 => (opKind P o == 1) = true → Held B w w2) o v a →
            wpCan P ops (Tame fun e a w => (fin ops a = true ∧ reads B ops a) ∧ Q e a w) B Xo rest (a.put o.dst v) w →
            wpAnyB P md ops (Tame fun e a w => (fin ops a = true ∧ reads B ops a) ∧ Q e a w) B X (n + 1) listed a w := by
          intro v hy hc
          refine wpAnyB_first (F := F) ho (Region.noSelect_spec hs) (fun c a w h => h) n listed a w hd (Region.free_spec ho hfree) ?_ hr' hy
            (wpAnyB_of_can hs F Xo hXo n rest _ _ _ hok2 (hd.set hr') hc)
          intro hrd j hun hji
          rcases hX with hX | hX
          · exfalso; simp at hrd hX; omega
          · rw [List.all_eq_true] at hX
            have hlt : j < listed.size := by
              rcases Nat.lt_or_ge j listed.size with h' | h'
              · exact h'
              · simp [Array.getElem?_eq_none h'] at hun
            have := hX j (List.mem_range.2 hlt)
            simp only [hun, Bool.or_eq_true, beq_iff_eq, hji] at this
            simpa using this
        unfold wpCan wpOp at h
        simp only [ho] at h
        split at h
        · rename_i hwant
          rcases h with h | ⟨_, h⟩
          case inr => exact (Tame.lets h).elim
          unfold Oper.wp at h
          rw [hs1] at h
          simp only [Sem.run_bind, Sem.run_pure] at h
          cases hrun : s.run P w with
          | ok v w' =>
            obtain ⟨rfl, hst⟩ := hcalm.stable w v w' hrun
            rw [hrun] at h
            simp only [Result.andThen_ok, Oper.upon] at h
            refine hfirst v (.inl ⟨hwant, fun w2 ha => ?_⟩) h.2
            have hh : Held (fun k => opKind P o = 1 ∧ B k) w' w2 := by
              by_cases hk1 : opKind P o = 1
              · exact (ha (by simp [hk1])).mono fun k h => h.2
              · exact .inr fun k o hm => absurd hm.1 hk1
            rw [hs1, Sem.run_bind, hst w2 hh]
            rfl
          | halt x w' =>
            rw [hrun] at h
            simp only [Result.andThen] at h
            cases x <;> simp only [Oper.upon] at h <;> exact h.elim
        · rename_i hwant
          exact hfirst undef (.inr ⟨by simpa using hwant, rfl⟩) h.2
      · rename_i hk
        have hr : Region.ready md ops listed = [i] := by simpa using hok1
        have hr' : i ∈ Region.ready md ops listed := by rw [hr]; simp
        refine ⟨fun h0 => (by rw [hr] at h0; cases h0), fun j hj => ?_⟩
        rw [hr] at hj
        obtain rfl : j = i := by simpa using hj
        exact can_effect hXo ho hk (fun a' w' hc => wpAnyB_of_can hs F Xo hXo n rest _ _ _ hok2 (hd.set hr') hc) h
end
end Go.Proofs.YtaandcblndldmaaGreat

/- RegD -/
namespace Go.Proofs.YtaandcblndldmaaGreat
open Go.RowKit
set_option linter.unusedVariables false
set_option linter.unusedSimpArgs false

section
variable {P : Program} {ops : Array Oper} {Q : Exit → Act → World → Prop} {B : Nat → Prop}

theorem wpOp_monoQ {Q1 Q2 : Exit → Act → World → Prop} {i : Nat} {K : Act → World → Prop} {a : Act} {w : World} (hQ : ∀ e a w, e ≠ .normal → Q1 e a w → Q2 e a w) (h : wpOp P ops Q1 i K a w) : wpOp P ops Q2 i K a w := by
  have hl : LetsOut Q1 → LetsOut Q2 := fun ⟨a, w, h⟩ => ⟨a, w, hQ _ _ _ (by simp) h⟩
  unfold wpOp at *
  split
  · simpa [*] using h
  · rename_i o ho
    simp only [ho] at h
    split
    · rename_i hw
      simp only [hw, if_true] at h
      rcases h with h | ⟨h1, h2⟩
      case inr => exact .inr ⟨h1, hl h2⟩
      refine .inl ?_
      unfold Oper.wp at *
      generalize (execOp a.eval o).run P w = r at *
      cases r with
      | ok n w' =>
        cases n <;> simp only [Oper.upon] at h ⊢ <;>
          first
            | exact h
            | exact Calls.mono h (fun e w'' he => by
                cases e <;> first | exact he | exact hQ _ _ _ (by simp) he | exact hl he)
      | halt x w' => cases x <;> simp only [Oper.upon] at h ⊢ <;> first | exact h | exact hQ _ _ _ (by simp) h
    · rename_i hw; simp only [hw] at h; exact h

theorem wpList_cons_op {o : Oper} {i : Nat} (ho : ops[i]? = some o) {rest : List Oper} {a : Act} {w : World} (h : wpList P ops Q (o :: rest) a w) : wpOp P ops Q i (wpList P ops Q rest) a w := by
  unfold wpOp
  simp only [ho]
  exact h

def shut : Exit → Act → World → Prop := fun _ _ _ => False

/-- the order in pieces: a list of operations, and whether behind it 'Agree' is asked; or a fork -/
inductive Sg where
  | done
  | seg (l : List Nat) (b : Bool) (next : Sg)
  | fork (s t : Sg)
def addTr : List Nat → Tr → Tr
  | [], t => t
  | i :: l, t => .cons i (addTr l t)
def Sg.tr : Sg → Tr
  | .done => .nil
  | .seg l _ n => addTr l n.tr
  | .fork s t => .fork s.tr t.tr
def Sg.len : Sg → Nat
  | .done => 0
  | .seg l _ n => l.length + n.len
  | .fork s _ => s.len
/-- from a plain list of pieces -/
def sgOf : List (List Nat × Bool) → Sg
  | [] => .done
  | (l, b) :: r => .seg l b (sgOf r)

/-- the pieces, one after the other; what is flagged leaves the blocks of B -/
def wpSgB (P : Program) (ops : Array Oper) (Q : Exit → Act → World → Prop) (B : Nat → Prop) : Sg → Act → World → Prop
  | .done, a, w => (fin ops a = true ∧ reads B ops a) ∧ Q .normal a w
  | .seg l true r, a, w => wpList P ops (Exit.then (fun a' w' => Held B w w' ∧ wpSgB P ops Q B r a' w') shut) (l.map fun i => ops.toList.getD i default) a w
  | .seg l false r, a, w => wpList P ops (Exit.then (wpSgB P ops Q B r) shut) (l.map fun i => ops.toList.getD i default) a w
  | .fork s t, a, w => wpSgB P ops Q B s a w ∧ wpSgB P ops Q B t a w
def wpSg (P : Program) (ops : Array Oper) (Q : Exit → Act → World → Prop) : Sg → Act → World → Prop
  | .done, a, w => fin ops a = true ∧ Q .normal a w
  | .seg l true r, a, w => wpList P ops (Exit.then (fun a' w' => Agree w w' ∧ wpSg P ops Q r a' w') shut) (l.map fun i => ops.toList.getD i default) a w
  | .seg l false r, a, w => wpList P ops (Exit.then (wpSg P ops Q r) shut) (l.map fun i => ops.toList.getD i default) a w
  | .fork s t, a, w => wpSg P ops Q s a w ∧ wpSg P ops Q t a w
theorem reads_all (a : Act) : reads (fun _ => True) ops a := by
  intro o _
  unfold readsIn
  split <;> (try split) <;> first | trivial | exact fun _ => trivial

def sgOk (Xo : Nat → Bool) (n : Nat) : Sg → Bool
  | .done => true
  | .seg l true r => l.length == 1 && (l.all fun i => decide (i < n)) && sgOk Xo n r
  | .seg l false r => (l.all fun i => !Xo i && decide (i < n)) && sgOk Xo n r
  | .fork s t => sgOk Xo n s && sgOk Xo n t

theorem can_of_list {Xo : Nat → Bool} {K : Act → World → Prop} {more : Tr} (hK : ∀ a w, K a w → wpCan P ops (Tame fun e a w => (fin ops a = true ∧ reads B ops a) ∧ Q e a w) B Xo more a w) :
    ∀ (l : List Nat) (a : Act) (w : World), (l.all fun i => !Xo i && decide (i < ops.size)) = true → wpList P ops (Exit.then K shut) (l.map fun i => ops.toList.getD i default) a w →
      wpCan P ops (Tame fun e a w => (fin ops a = true ∧ reads B ops a) ∧ Q e a w) B Xo (addTr l more) a w
  | [], a, w, _, h => hK a w h
  | i :: l, a, w, hx, h => by
    simp only [List.all_cons, Bool.and_eq_true, decide_eq_true_eq] at hx
    have ho : ops[i]? = some ops[i] := Array.getElem?_eq_getElem hx.1.2
    rw [List.map_cons, show ops.toList.getD i default = ops[i] from by simp [List.getD_eq_getElem?_getD, hx.1.2]] at h
    simp only [addTr, wpCan]
    have h1 := wpList_cons_op ho h
    have h2 := wpOp_monoQ (Q2 := Tame fun e a w => (fin ops a = true ∧ reads B ops a) ∧ Q e a w) (fun e a w hne hh => by cases e <;> first | exact absurd rfl hne | exact hh) h1
    refine wpOp_mono (fun a' w' h3 => ⟨fun hxi => ?_, can_of_list hK l a' w' (by simpa using hx.2) h3⟩) h2
    rw [hxi] at hx; simp at hx

theorem can_of_sg {Xo : Nat → Bool} : ∀ (s : Sg) (a : Act) (w : World), sgOk Xo ops.size s = true → wpSgB P ops Q B s a w →
    wpCan P ops (Tame fun e a w => (fin ops a = true ∧ reads B ops a) ∧ Q e a w) B Xo s.tr a w
  | .done, a, w, _, h => h
  | .fork s t, a, w, hs, h => by
    simp only [sgOk, Bool.and_eq_true] at hs
    exact ⟨can_of_sg s a w hs.1 h.1, can_of_sg t a w hs.2 h.2⟩
  | .seg l false r, a, w, hs, h => by
    simp only [sgOk, Bool.and_eq_true] at hs
    exact can_of_list (fun a w hk => can_of_sg r a w hs.2 hk) l a w hs.1 h
  | .seg l true r, a, w, hs, h => by
    simp only [sgOk, Bool.and_eq_true, beq_iff_eq] at hs
    obtain ⟨⟨h1, h2⟩, h3⟩ := hs
    match l, h1, h2, h with
    | [i], _, hi, h =>
      simp only [List.all_cons, List.all_nil, Bool.and_true, decide_eq_true_eq] at hi
      have ho : ops[i]? = some ops[i] := Array.getElem?_eq_getElem hi
      simp only [wpSgB] at h
      rw [List.map_cons, List.map_nil, show ops.toList.getD i default = ops[i] from by simp [List.getD_eq_getElem?_getD, hi]] at h
      have h1 := wpList_cons_op ho h
      have h2 := wpOp_monoQ (Q2 := Tame fun e a w => (fin ops a = true ∧ reads B ops a) ∧ Q e a w) (fun e a w hne hh => by cases e <;> first | exact absurd rfl hne | exact hh) h1
      simp only [Sg.tr, addTr, wpCan]
      exact wpOp_mono (fun a' w' h4 => ⟨fun _ => h4.1, can_of_sg r a' w' h3 h4.2⟩) h2

/-- what must leave all blocks as they were, while something that reads may still come -/
def mustKeep (P : Program) (ops : Array Oper) (done : List Nat) : Tr → List Nat
  | .nil => []
  | .cons j t => (if done.any fun i => (match ops[i]? with | some o => opKind P o == 1 | none => false) && !reach .any ops ops.size i j then [j] else []) ++ mustKeep P ops (done ++ [j]) t
  | .fork s t => mustKeep P ops done s ++ mustKeep P ops done t

/-- the static check -/
def okRegion (P : Program) (ops : Array Oper) (s : Sg) : Bool :=
  let X := mustKeep P ops [] s.tr
  let x := fun j => X.contains j
  Region.noSelect ops && (s.len == ops.size) && okOrd P .any ops ops.size x ops.size s.tr (Array.replicate ops.size false)
    && sgOk (fun i => x i && (match ops[i]? with | some o => decide (2 < opKind P o) | none => true)) ops.size s

/-- THE LAW -/
theorem region_tree_at (B : Nat → Prop) (s : Sg) {id : Nat} {a : Act} {w : World} (hm : P.follows .mixedOrders = true) (hok : okRegion P ops s = true)
    (h : wpSgB P ops Q B s a w.drew) : (Code.region id ops true).wp P Q a w := by
  unfold okRegion at hok
  simp only [Bool.and_eq_true, beq_iff_eq] at hok
  obtain ⟨⟨⟨h1, h2⟩, h3⟩, h4⟩ := hok
  refine Code.wp_mono Tame.imp ?_
  refine Code.wp_mono (Q := Tame fun e a w => (fin ops a = true ∧ reads B ops a) ∧ Q e a w) (fun e a w hh => by cases e <;> first | exact hh.2 | exact (hh : False).elim) ?_
  refine wp_region_any hm ?_
  refine wpAny_of_B (B := B) _ _ _ _ (wpAnyB_of_can h1 ops.size _ ?_ _ _ _ _ _ h3 ?_ (can_of_sg s a _ h4 h))
  · intro i o ho hx hk
    simp only [ho, Bool.and_eq_true, decide_eq_true_eq]
    exact ⟨hx, hk⟩
  · intro j o ho hj
    exfalso
    rcases Nat.lt_or_ge j ops.size with h' | h' <;> simp [h'] at hj
theorem wpList_monoQ {Q1 Q2 : Exit → Act → World → Prop} (hQ : ∀ e a w, Q1 e a w → Q2 e a w) : ∀ (l : List Oper) (a : Act) (w : World), wpList P ops Q1 l a w → wpList P ops Q2 l a w
  | [], a, w, h => hQ _ _ _ h
  | o :: l, a, w, h => by
    have hl : LetsOut Q1 → LetsOut Q2 := fun ⟨a, w, h⟩ => ⟨a, w, hQ _ _ _ h⟩
    unfold wpList at *
    split
    · rename_i hw
      simp only [hw, if_true] at h
      rcases h with h | ⟨h1, h2⟩
      case inr => exact .inr ⟨h1, hl h2⟩
      refine .inl (Oper.wp_mono (fun a w hh => wpList_monoQ hQ l a w hh) ?_)
      unfold Oper.wp at *
      generalize (execOp a.eval o).run P w = r at *
      cases r with
      | ok n w' =>
        cases n <;> simp only [Oper.upon] at h ⊢ <;>
          first
            | exact h
            | exact Calls.mono h (fun e w'' he => by
                cases e <;> first | exact he | exact hQ _ _ _ he | exact hl he)
      | halt x w' => cases x <;> simp only [Oper.upon] at h ⊢ <;> first | exact h | exact hQ _ _ _ h
    · rename_i hw; simp only [hw] at h; exact wpList_monoQ hQ l _ _ h
theorem wpSg_all : ∀ (s : Sg) (a : Act) (w : World), wpSg P ops Q s a w → wpSgB P ops Q (fun _ => True) s a w
  | .done, a, w, h => ⟨⟨h.1, reads_all a⟩, h.2⟩
  | .fork s t, a, w, h => ⟨wpSg_all s a w h.1, wpSg_all t a w h.2⟩
  | .seg l true r, a, w, h => by
    refine wpList_monoQ ?_ _ a w h
    intro e a w hh
    cases e <;> first | exact ⟨.inl hh.1, wpSg_all r _ _ hh.2⟩ | exact hh
  | .seg l false r, a, w, h => by
    refine wpList_monoQ ?_ _ a w h
    intro e a w hh
    cases e <;> first | exact wpSg_all r _ _ hh | exact hh
theorem region_tree (s : Sg) {id : Nat} {a : Act} {w : World} (hm : P.follows .mixedOrders = true) (hok : okRegion P ops s = true)
    (h : wpSg P ops Q s a w.drew) : (Code.region id ops true).wp P Q a w :=
  region_tree_at (fun _ => True) s hm hok (wpSg_all s a _ h)

/-- the law for one order, its pieces as a list -/
def wpSegs (P : Program) (ops : Array Oper) (Q : Exit → Act → World → Prop) : List (List Nat × Bool) → Act → World → Prop
  | [], a, w => fin ops a = true ∧ Q .normal a w
  | (l, true) :: r, a, w => wpList P ops (Exit.then (fun a' w' => Agree w w' ∧ wpSegs P ops Q r a' w') shut) (l.map fun i => ops.toList.getD i default) a w
  | (l, false) :: r, a, w => wpList P ops (Exit.then (wpSegs P ops Q r) shut) (l.map fun i => ops.toList.getD i default) a w
theorem wpSegs_eq : ∀ s : List (List Nat × Bool), wpSegs P ops Q s = wpSg P ops Q (sgOf s)
  | [] => rfl
  | (l, true) :: r => by funext a w; simp only [wpSegs, sgOf, wpSg, wpSegs_eq r]
  | (l, false) :: r => by funext a w; simp only [wpSegs, sgOf, wpSg, wpSegs_eq r]
theorem region_text (s : List (List Nat × Bool)) {id : Nat} {a : Act} {w : World} (hm : P.follows .mixedOrders = true) (hok : okRegion P ops (sgOf s) = true)
    (h : wpSegs P ops Q s a w.drew) : (Code.region id ops true).wp P Q a w :=
  region_tree (sgOf s) hm hok (by rw [← wpSegs_eq]; exact h)
end
end Go.Proofs.YtaandcblndldmaaGreat

/- MemB -/
namespace Go.Proofs.YtaandcblndldmaaGreat
open Go.RowKit
set_option linter.unusedVariables false
set_option linter.unusedSimpArgs false

/-- of what was there only the blocks F may have changed -/
structure Chg (F : List Nat) (w w' : World) : Prop where
  os : w'.os = w.os
  tape : w'.tape = w.tape
  output : w'.output = w.output
  size : w.heap.size ≤ w'.heap.size
  block : ∀ k, k < w.heap.size → k ∉ F → w'.heap[k]? = w.heap[k]?
theorem Chg.refl (F : List Nat) (w : World) : Chg F w w := ⟨rfl, rfl, rfl, Nat.le_refl _, fun _ _ _ => rfl⟩
theorem Chg.of_below {F : List Nat} {w w' : World} (h : Below w.heap.size w w') : Chg F w w' := ⟨h.os, h.tape, h.output, h.size, fun k hk _ => h.block k hk⟩
theorem Chg.trans {F G : List Nat} {a b c : World} (h : Chg F a b) (k : Chg G b c) (hFG : ∀ x ∈ G, x < a.heap.size → x ∈ F) : Chg F a c :=
  ⟨k.os.trans h.os, k.tape.trans h.tape, k.output.trans h.output, Nat.le_trans h.size k.size,
   fun i hi hF => (k.block i (Nat.lt_of_lt_of_le hi h.size) (fun hg => hF (hFG i hg hi))).trans (h.block i hi hF)⟩
theorem Chg.mono {F G : List Nat} {a b : World} (h : Chg F a b) (hFG : ∀ x ∈ F, x < a.heap.size → x ∈ G) : Chg G a b :=
  ⟨h.os, h.tape, h.output, h.size, fun i hi hG => h.block i hi (fun hf => hG (hFG i hf hi))⟩
theorem Chg.below {F : List Nat} {B : Nat} {w w' : World} (h : Chg F w w') (hB : B ≤ w.heap.size) (hF : ∀ x ∈ F, B ≤ x) : Below B w w' :=
  ⟨h.os, h.tape, h.output, h.size, fun k hk => h.block k (by omega) (fun hf => by have := hF k hf; omega)⟩
theorem Chg.drew (F : List Nat) (w : World) : Chg F w w.drew := ⟨rfl, rfl, rfl, Nat.le_refl _, fun _ _ _ => rfl⟩
theorem Chg.alloc (F : List Nat) (w : World) (o : Obj) : Chg F w (w.alloc o) := ⟨rfl, rfl, rfl, by simp, fun k hk _ => heap_old w o hk⟩
theorem Chg.setCell (w : World) (p : Addr) (v : Value) : Chg [p.block] w (w.setCell p v) :=
  ⟨rfl, rfl, rfl, by simp, fun k hk hF => Below.heap_setCell w p v k (by simpa using hF)⟩
theorem Chg.grown {w w' : World} {row : Option Nat} (h : w.grownBy w' row) : Chg row.toList w w' :=
  ⟨h.os, h.tape, h.output, h.size, fun k hk hF => h.block k hk (by intro e; cases row <;> simp_all)⟩

/-- the blocks of a slice -/
def ob (a : Option Addr) : List Nat := match a with | some x => [x.block] | none => []
theorem ownBlock_eq (a : Option Addr) (n c : Nat) : (Value.slice a n c).ownBlock = (ob a).head? := by cases a <;> rfl

/-- an owned row lies in blocks that are there -/
theorem owns_lt {w : World} {base : Nat} {e : TypeId} {size : Nat} {a : Option Addr} {n c m : Nat} {xs : List Value} (h : w.ownsRow base e size (.slice a n c) m xs) : ∀ k ∈ ob a, base ≤ k ∧ k < w.heap.size := by
  intro k hk
  refine h.lt k ?_
  rw [ownBlock_eq]
  cases a <;> simp [ob] at hk ⊢
  exact hk.symm
/-- it stays while its block does -/
theorem owns_chg {F : List Nat} {w w' : World} {base : Nat} {e : TypeId} {size : Nat} {a : Option Addr} {n c m : Nat} {xs : List Value} (h : w.ownsRow base e size (.slice a n c) m xs) (hc : Chg F w w') (hd : ∀ k ∈ ob a, k ∉ F) : w'.ownsRow base e size (.slice a n c) m xs := by
  refine ⟨h.1, ?_⟩
  rcases h.2 with h2 | ⟨g, cap, cur, hv, hb, hg, r⟩
  · exact .inl h2
  · refine .inr ⟨g, cap, cur, hv, hb, ?_, r⟩
    simp at hv
    obtain ⟨rfl, _, _⟩ := hv
    rw [hc.block g (Array.getElem?_eq_some_iff.1 hg).1 (hd g (by simp [ob]))]
    exact hg
theorem heap_chg {F : List Nat} {w w' : World} {k : Nat} {o : Obj} (h : w.heap[k]? = some o) (hc : Chg F w w') (hk : k ∉ F) : w'.heap[k]? = some o := by
  rw [hc.block k (Array.getElem?_eq_some_iff.1 h).1 hk]; exact h
theorem heap_lt {w : World} {k : Nat} {o : Obj} (h : w.heap[k]? = some o) : k < w.heap.size := (Array.getElem?_eq_some_iff.1 h).1
end Go.Proofs.YtaandcblndldmaaGreat

/- MemC -/
namespace Go.Proofs.YtaandcblndldmaaGreat
open Go.RowKit
set_option linter.unusedVariables false
set_option linter.unusedSimpArgs false

section
variable {P : Program}
/-- append to a row of one's own of whatever can be read, nil too -/
theorem run_append_sl (w : World) (t ty : TypeId) (base : Nat) (e : TypeId) (i : TypeInfo) (z : Value) (size bytes : Nat) (ht : P.underlying t = some (.slice e)) (hi : P.info? e = some i) (hz : i.zero = some z)
    (hsize : i.size = size) (hby : i.bytes = bytes) (hzs : z.cells.size = size) (hsz : 0 < size)
    (va : Option Addr) (n vc : Nat) (xs : List Value) (hown : w.ownsRow base e size (.slice va n vc) n xs)
    (sa : Option Addr) (m c : Nat) (news : List Value) (hsl : Sl w size sa m c news) (h1 : ∀ u ∈ news, u.oneCell' = true)
    (h63 : n + m ≤ maxLen) (hbytes : (n + m) * bytes ≤ 140737488355328) (hbase : base ≤ w.heap.size) :
    ∃ a' c' w', (Builtin.append_ #[t, t] ty #[.slice va n vc, .slice sa m c]).run P w = .ok (.slice a' (n + m) c') w' ∧ w'.ownsRow base e size (.slice a' (n + m) c') (n + m) (xs ++ news) ∧ Chg (ob va) w w' ∧ (∀ k ∈ ob a', k ∈ ob va ∨ w.heap.size ≤ k) := by
  obtain ⟨hl, hc1, hc2, ⟨rfl, rfl, rfl⟩ | ⟨ad, rfl, hnews⟩⟩ := hsl
  · obtain rfl : news = [] := List.eq_nil_of_length_eq_zero (by simpa using hl)
    have hr := run_append_owned_none (P := P) w base t ty e i size ht hi _ n xs hown
    exact ⟨va, vc, w, by simpa using hr, by simpa using hown, Chg.refl _ _, fun k hk => .inl hk⟩
  · obtain ⟨v', w', hr, h2, h3, _, h5⟩ := run_append_own_at (P := P) w base t ty e i z size bytes ht hi hz hsize hby hzs hsz _ n xs hown ad m c news hl hnews h1 h63 hbytes hbase
    obtain ⟨a', c', rfl⟩ := owns_slice h2
    refine ⟨a', c', w', hr, h2, (Chg.grown h3).mono ?_, ?_⟩
    · intro x hx _; rw [ownBlock_eq] at hx; cases va <;> simp [ob] at hx ⊢; exact hx
    · intro k hk
      rw [ownBlock_eq, ownBlock_eq] at h5
      cases a' with
      | none => simp [ob] at hk
      | some x =>
        simp [ob] at hk h5
        rcases h5 with h5 | h5
        · left; cases va <;> simp [ob] at h5 ⊢; omega
        · right; omega
theorem wpList_append_sl {w : World} {ops : Array Oper} {rest : List Oper} {o : Oper} {a : Act} {Q : Exit → Act → World → Prop} (hgd : o.guard = none) (s x : Operand) (t : TypeId)
    (ho : o.op = .call { callee := .builtin .append, args := #[s, x], argTypes := #[t, t] })
    (base : Nat) (e : TypeId) (i : TypeInfo) (z : Value) (size bytes : Nat) (ht : P.underlying t = some (.slice e)) (hi : P.info? e = some i) (hz : i.zero = some z)
    (hsize : i.size = size) (hby : i.bytes = bytes) (hzs : z.cells.size = size) (hsz : 0 < size)
    (va : Option Addr) (n vc : Nat) (xs : List Value) (hs : a.eval s = .slice va n vc) (hown : w.ownsRow base e size (.slice va n vc) n xs)
    (sa : Option Addr) (m c : Nat) (news : List Value) (hx : a.eval x = .slice sa m c) (hsl : Sl w size sa m c news) (h1 : ∀ u ∈ news, u.oneCell' = true)
    (h63 : n + m ≤ maxLen) (hbytes : (n + m) * bytes ≤ 140737488355328) (hbase : base ≤ w.heap.size)
    (h : ∀ a' c' w', w'.ownsRow base e size (.slice a' (n + m) c') (n + m) (xs ++ news) → Chg (ob va) w w' → (∀ k ∈ ob a', k ∈ ob va ∨ w.heap.size ≤ k) → wpList P ops Q rest (a.put o.dst (.slice a' (n + m) c')) w') : wpList P ops Q (o :: rest) a w := by
  obtain ⟨a', c', w', hr, h2, h3, h4⟩ := run_append_sl (P := P) w t o.type base e i z size bytes ht hi hz hsize hby hzs hsz va n vc xs hown sa m c news hsl h1 h63 hbytes hbase
  refine wpList_plain hgd fun K hK => ?_
  unfold Oper.wp
  simp only [execOp, ho, resolve, invoke, builtin, Sem.run_bind, Sem.run_pure, Result.andThen_ok, List.map_toArray, List.map_cons, List.map_nil, hs, hx, hr]
  exact hK _ _ (h a' c' w' h2 h3 h4)

end
end Go.Proofs.YtaandcblndldmaaGreat

/- MemD -/
namespace Go.Proofs.YtaandcblndldmaaGreat
open Go.RowKit
set_option linter.unusedVariables false
set_option linter.unusedSimpArgs false
theorem Sl.blk {w : World} {b n size : Nat} {C : Array Value} {t : TypeId} {fr : Nat × Nat} (h : w.heap[b]? = some (.cells C t fr)) (hs : C.size = n * size) (hn : n ≤ maxLen) : Sl w size (some ⟨b, 0, none⟩) n n C.toList :=
  ⟨by simpa using hs, Nat.le_refl _, hn, .inr ⟨_, rfl, World.news_of_block h⟩⟩
theorem heap_new2 (w : World) (o1 o2 : Obj) : ((w.alloc o1).alloc o2).heap[w.heap.size + 1]? = some o2 := by
  have h := heap_new (w.alloc o1) o2
  rwa [World.size_alloc] at h
end Go.Proofs.YtaandcblndldmaaGreat

/- Open -/
namespace Go.Proofs.YtaandcblndldmaaGreat
open Go.RowKit Go.ChangeShapes Go.WideShapes
set_option linter.unusedVariables false
set_option linter.unusedSimpArgs false

/-- a slice of elements of 'size' cells each, each read by R -/
def RdL {α : Type} (w : World) (size : Nat) (R : List Value → α → Prop) (a : Option Addr) (n c : Nat) (ys : List α) : Prop :=
  ys.length = n ∧ n ≤ c ∧ c ≤ maxLen ∧ (a = none → n = 0 ∧ c = 0) ∧
    ∀ i y, ys[i]? = some y → ∃ ad cs, a = some ad ∧ cs.length = size ∧ (∀ j, j < size → w.cell? (ad.add (i * size + j)) = cs[j]?) ∧ R cs y

section
variable {H : Type} {enc : TypeId × Value → H} {P : Program} {w : World} {base : Nat} {spare : Nat → Bool} {held : Bool}
theorem trod_list {α : Type} {R : List Value → α → Prop} {t e : TypeId} {size fuel : Nat} {cs : List Value} {x : DataW H × List MemPlace} (ht : P.underlying t = some (.slice e)) (hs : P.cellsOf e = size)
    (hR : ∀ n cs x, DataW.trod enc P w base spare held n e cs = some x → ∃ y : α, R cs y) (h : DataW.trod enc P w base spare held fuel t cs = some x) :
    ∃ a n c ys, cs = [.slice a n c] ∧ RdL w size R a n c ys := by
  rcases Deep.open_slice ht h with ⟨h0, _⟩ | ⟨a, len, cap, m, n, D, Pl, hcs, hb, hl, hm, hmm, hx, hi⟩
  · exact ⟨none, 0, 0, [], h0, rfl, Nat.le_refl _, Nat.zero_le _, fun _ => ⟨rfl, rfl⟩, fun i y hy => by simp at hy⟩
  · have hlm : len ≤ m := by rw [hmm]; split <;> omega
    have key : ∀ i : Fin len, ∃ y : α, ∃ cs', cs'.length = size ∧ (∀ j, j < size → w.cell? (a.add (i.1 * size + j)) = cs'[j]?) ∧ R cs' y := by
      intro i
      obtain ⟨cs', h1, h2⟩ := hi i.1 (by omega)
      obtain ⟨y, hy⟩ := hR _ _ _ h2
      obtain ⟨_, h3, h4⟩ := World.cells?_some h1
      rw [hs] at h3 h4
      refine ⟨y, cs', h3, fun j hj => ?_, hy⟩
      rw [← Go.Deep.add_add]
      exact h4 j hj
    refine ⟨some a, len, cap, List.ofFn fun i => Classical.choose (key i), hcs, by simp, hl, hm, nofun, fun i y hy => ?_⟩
    rw [List.getElem?_ofFn] at hy
    split at hy
    · rename_i hil
      have hy' := Option.some.inj hy
      subst hy'
      obtain ⟨cs', h1, h2, h3⟩ := Classical.choose_spec (key ⟨i, hil⟩)
      exact ⟨a, cs', rfl, h1, h2, h3⟩
    · cases hy
end

theorem flat_at {α β : Type} (f : α → List β) (size : Nat) : ∀ (ys : List α), (∀ y ∈ ys, (f y).length = size) → ∀ (k : Nat) (u : β), (ys.flatMap f)[k]? = some u → ∃ i j y, k = i * size + j ∧ j < size ∧ ys[i]? = some y ∧ (f y)[j]? = some u
  | [], _, k, u, h => by simp at h
  | y :: ys, hl, k, u, h => by
    rw [List.flatMap_cons] at h
    have hy := hl y (by simp)
    rcases Nat.lt_or_ge k size with hk | hk
    · rw [List.getElem?_append_left (by omega)] at h
      exact ⟨0, k, y, by simp, hk, rfl, h⟩
    · rw [List.getElem?_append_right (by omega), hy] at h
      obtain ⟨i, j, y', h1, h2, h3, h4⟩ := flat_at f size ys (fun z hz => hl z (by simp [hz])) (k - size) u h
      exact ⟨i + 1, j, y', by rw [Nat.succ_mul]; omega, h2, by simpa using h3, h4⟩
theorem flat_len {α β : Type} (f : α → List β) (size : Nat) : ∀ (ys : List α), (∀ y ∈ ys, (f y).length = size) → (ys.flatMap f).length = ys.length * size
  | [], _ => by simp
  | y :: ys, hl => by
    rw [List.flatMap_cons, List.length_append, flat_len f size ys (fun z hz => hl z (by simp [hz])), hl y (by simp), List.length_cons, Nat.succ_mul]
    omega

/-- elements whose cells are known: the slice reads as all of them -/
theorem RdL.sl {α : Type} {w : World} {size : Nat} {R : List Value → α → Prop} {a : Option Addr} {n c : Nat} {ys : List α} (f : α → List Value) (hR : ∀ cs y, R cs y → cs = f y) (h : RdL w size R a n c ys) :
    Sl w size a n c (ys.flatMap f) := by
  obtain ⟨h1, h2, h3, h4, h5⟩ := h
  have hlen : ∀ y ∈ ys, (f y).length = size := fun y hy => by
    obtain ⟨i, hi⟩ := List.getElem?_of_mem hy
    obtain ⟨ad, cs, _, g1, _, g2⟩ := h5 i y hi
    rw [← hR _ _ g2]; exact g1
  refine ⟨by rw [flat_len f size ys hlen, h1], h2, h3, ?_⟩
  cases a with
  | none => exact .inl ⟨rfl, h4 rfl⟩
  | some ad =>
    refine .inr ⟨ad, rfl, fun k u hk => ?_⟩
    obtain ⟨i, j, y, rfl, g1, g2, g3⟩ := flat_at f size ys hlen k u hk
    obtain ⟨ad', cs, hh, _, g5, g6⟩ := h5 i y g2
    cases hh
    rw [g5 j g1, hR _ _ g6, g3]

section
variable {H : Type} {enc : TypeId × Value → H} {P : Program} {w : World} {base : Nat} {spare : Nat → Bool} {held : Bool}
end
end Go.Proofs.YtaandcblndldmaaGreat

/- RowL -/
namespace Go.Proofs.YtaandcblndldmaaGreat
open Go.RowKit
set_option linter.unusedVariables false
set_option linter.unusedSimpArgs false

/-- what is read, operation by operation -/
def readsL (B : Nat → Prop) (ρ : Operand → Value) : List Oper → Prop
  | [] => True
  | o :: l => readsIn B ρ o ∧ readsL B ρ l
theorem reads_of {B : Nat → Prop} {ops : Array Oper} {a : Act} (h : readsL B a.eval ops.toList) : reads B ops a := by
  unfold reads
  generalize ops.toList = l at *
  induction l with
  | nil => intro o ho; simp at ho
  | cons x l ih =>
    intro o ho
    rcases List.mem_cons.1 ho with rfl | ho
    · exact h.1
    · exact ih h.2 o ho
end Go.Proofs.YtaandcblndldmaaGreat
