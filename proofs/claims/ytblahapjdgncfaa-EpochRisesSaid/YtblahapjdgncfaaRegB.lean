/- Which operations of a region read at the most, and which only add blocks. No program in sight. -/
import Derived.Test.YtblahapjdgncfaaRegA
namespace Go.Proofs.Ytblahapjdgncfaa
open Go.RowKit
set_option linter.unusedVariables false
set_option linter.unusedSimpArgs false

def plainV : Value → Bool
  | .float _ _ => false
  | .complex _ _ _ => false
  | .iface _ _ => false
  | .chan _ => false
  | .pointer (some _) => false
  | .agg _ => false
  | _ => true
def nilV : Value → Bool
  | .pointer none => true
  | .nilIface => true
  | _ => false
def numV : Value → Bool
  | .int _ _ => true
  | .string _ => true
  | .bool _ => true
  | .tuple _ => true
  | _ => false
def sliceV : Value → Bool
  | .slice _ _ _ => true
  | _ => false
/-- a cell of a struct that is looked at alone -/
def cellV : Value → Bool
  | .int _ _ => true
  | .string _ => true
  | .bool _ => true
  | _ => false
def plainA : Value → Bool
  | .agg cs => cs.all cellV
  | v => cellV v
def aggP : Value → Bool
  | .agg cs => cs.all cellV
  | _ => false
def eqB : BinOp → Bool
  | .eql => true
  | .neq => true
  | _ => false
def binFin (op : BinOp) (x y : Value) : Bool := (eqB op && aggP x && aggP y) || if eqB op then (plainV x && plainV y) || nilV x || nilV y else numV x && numV y
def notMeth : Value → Bool
  | .func (.method _) _ _ => false
  | _ => true
/-- what is asked of the operands, at the end -/
def okFin (ρ : Operand → Value) (o : Oper) : Bool :=
  match o.op with
  | .binOp op _ x y _ => binFin op (ρ x) (ρ y)
  | .nilCheck x => notMeth (ρ x)
  | .convert _ _ x => numV (ρ x) || sliceV (ρ x)
  | .call c => match c.callee, c.args.toList with
    | .builtin .max, l => l.all fun x => numV (ρ x)
    | .builtin .min, l => l.all fun x => numV (ρ x)
    | _, _ => true
  | _ => true

/-- 0: it looks at no memory · 1: it reads memory · 2: it adds blocks · 3: another -/
def opKind (P : Program) (o : Oper) : Nat :=
  match o.op with
  | .move _ => 0
  | .assign _ => 0
  | .pick _ _ _ => 0
  | .extract _ _ => 0
  | .makeFunc _ _ _ => 0
  | .index _ _ _ => 0
  | .slice _ _ _ _ _ => 0
  | .indexAddr _ _ _ => 0
  | .field _ _ _ => 0
  | .makeInterface _ _ => 0
  | .build _ _ => 0
  | .unOp _ _ _ => 0
  | .nilCheck _ => 0
  | .binOp _ _ _ _ _ => 0
  | .fieldAddr s _ f => match P.underlying s with
    | some (.struct fs) => match fs[f]? with
      | some fd => if P.cellsOf fd.type = 0 then 3 else 0
      | none => 3
    | _ => 3
  | .convert src dst _ => match P.underlying src, P.underlying dst with
    | some (.int _), some (.int _) => 0
    | some (.slice e), some .string => (match P.underlying e with
      | some (.int .u8) => 1
      | _ => 3)
    | _, _ => 3
  | .load _ _ => 1
  | .call c => match c.callee with
    | .builtin .len => match (c.argTypes[0]?).bind P.underlying with
      | some (.slice _) => 0
      | some .string => 0
      | _ => 1
    | .builtin .max => 0
    | .builtin .min => 0
    | _ => 3
  | .alloc _ => 2
  | .box _ _ => 2
  | .buildSlice _ _ _ => 2
  | _ => 3

section
variable {P : Program} {m : Nat → Prop} {α β : Type}

theorem Calm.ite {c : Prop} [Decidable c] {a b : Sem α} (h1 : Calm P m a) (h2 : Calm P m b) : Calm P m (if c then a else b) := by
  split
  · exact h1
  · exact h2
theorem calm_under {t : TypeId} : Calm P m (Go.underlying t) := by
  refine .prog _ ?_
  show Calm P m (match P.underlying t with | some d => pure d | none => Go.stuck "no such type")
  split <;> first | exact .ret _ | exact Calm.halt _
theorem calm_asIntOf (v : Value) : Calm P m (asIntOf v) := by
  unfold asIntOf; split <;> first | exact .ret _ | exact Calm.halt _
theorem calm_asBool (v : Value) : Calm P m (asBool v) := by
  unfold asBool; split <;> first | exact .ret _ | exact Calm.halt _
theorem calm_sureAddr (v : Value) : Calm P m (Instr.sureAddr v) := by
  unfold Instr.sureAddr; split <;> first | exact .ret _ | exact Calm.halt _
theorem calm_asAgg (v : Value) : Calm P m (asAgg v) := by
  unfold asAgg; split <;> first | exact .ret _ | exact Calm.halt _
theorem calm_asAddr (v : Value) : Calm P m (asAddr v) := by
  unfold asAddr; split <;> first | exact .ret _ | exact Calm.halt _ | exact Calm.nilDeref
theorem calm_part (t : TypeId) (cs : Array Value) (off : Nat) : Calm P m (part t cs off) := by
  refine Calm.bind Calm.isAgg fun b => ?_
  split
  · exact Calm.bind Calm.size fun _ => .ret _
  · split <;> first | exact .ret _ | exact Calm.halt _
theorem calm_zero (t : TypeId) : Calm P m (zeroValue t) := by
  refine Calm.bind Calm.info fun i => ?_
  split <;> first | exact .ret _ | exact Calm.halt _
theorem calm_field (t : TypeId) (x : Value) (f : Nat) : Calm P m (Instr.field t x f) := by
  refine Calm.underlying fun d _ => ?_
  split
  · split
    · exact Calm.bind (calm_asAgg _) fun _ => calm_part _ _ _
    · exact Calm.halt _
  · exact Calm.halt _
theorem calm_sliceBound (x : Value) (y : Nat) (c : BoundsCode) : Calm P m (Instr.sliceBound x y c) := by
  refine Calm.bind (calm_asIntOf _) fun p => ?_
  split
  split
  · exact .ret _
  · exact Calm.boundsPanic _ _ _ _
theorem calm_sliceBounds (b : Bool) (len cap : Nat) (lo hi mx : Option Value) : Calm P m (Instr.sliceBounds b len cap lo hi mx) := by
  unfold Instr.sliceBounds
  dsimp only
  cases mx <;> cases hi <;> cases lo <;> dsimp only <;>
    repeat (first | exact .ret _ | exact Calm.halt _ | exact calm_sliceBound _ _ _ | (refine Calm.bind ?_ fun _ => ?_))
theorem calm_slice (t : TypeId) (x : Value) (lo hi mx : Option Value) : Calm P m (Instr.slice t x lo hi mx) := by
  refine Calm.underlying fun d _ => ?_
  split
  · split
    · exact Calm.bind (Calm.halt _) fun _ => Calm.bind (calm_sliceBounds _ _ _ _ _ _) fun _ => .ret _
    · exact Calm.bind (calm_sliceBounds _ _ _ _ _ _) fun _ => .ret _
  · exact Calm.bind (calm_sliceBounds _ _ _ _ _ _) fun _ => Calm.bind Calm.size fun _ => .ret _
  · refine Calm.bind (calm_asAddr _) fun _ => Calm.underlying fun d _ => ?_
    split
    · exact Calm.bind (calm_sliceBounds _ _ _ _ _ _) fun _ => Calm.bind Calm.size fun _ => .ret _
    · exact Calm.halt _
  · exact Calm.halt _
theorem calm_sliceAt (t : TypeId) (x : Value) (lo hi mx : Option Value) : Calm P m (Instr.sliceAt t x lo hi mx) := by
  refine Calm.underlying fun d _ => ?_
  split
  · exact Calm.bind (calm_sureAddr _) fun _ => Calm.bind (calm_sliceBounds _ _ _ _ _ _) fun _ => Calm.bind Calm.size fun _ => .ret _
  · exact calm_slice _ _ _ _ _
theorem calm_index (t : TypeId) (x i : Value) : Calm P m (Instr.index t x i) := by
  refine Calm.bind (calm_asIntOf _) fun p => ?_
  split
  refine Calm.underlying fun d _ => ?_
  split
  · split
    · exact Calm.bind Calm.size fun _ => calm_part _ _ _
    · exact Calm.boundsPanic _ _ _ _
  · split
    · exact .ret _
    · exact Calm.boundsPanic _ _ _ _
  · exact Calm.halt _
theorem calm_indexAt (t : TypeId) (x i : Value) : Calm P m (Instr.indexAt t x i) := by
  refine Calm.bind (calm_asIntOf _) fun p => ?_
  obtain ⟨k, i⟩ := p
  refine Calm.underlying fun d _ => ?_
  dsimp only
  repeat' (first | exact .ret _ | exact Calm.halt _ | exact Calm.boundsPanic _ _ _ _ | exact Calm.nilDeref | exact Calm.errorPanic _ | exact Calm.size | exact calm_sureAddr _ | (refine Calm.underlying fun _ _ => ?_) | (refine Calm.bind ?_ fun _ => ?_) | split)
theorem calm_fieldAt (s : TypeId) (x : Value) (f : Nat) (fs : Array Field) (fd : Field) (h1 : P.underlying s = some (.struct fs)) (h2 : fs[f]? = some fd) (h3 : ¬ P.cellsOf fd.type = 0) : Calm P m (Instr.fieldAt s x f) := by
  refine Calm.underlying fun d hd => ?_
  rw [h1] at hd
  obtain rfl : TypeDesc.struct fs = d := by simpa using hd
  simp only [h2]
  refine Calm.bind (calm_sureAddr _) fun a => ?_
  refine Calm.bind ?_ fun _ => .ret _
  unfold fieldPlace
  refine Calm.sizeOf fun i hi => ?_
  have : i.size = P.cellsOf fd.type := by simp [Program.cellsOf, hi]
  rw [if_neg (by rw [this]; exact h3)]
  exact .ret _
theorem calm_build (t : TypeId) (ps : Array (Nat × Value)) : Calm P m (Instr.build t ps) := by
  refine Calm.bind (calm_zero _) fun z => Calm.underlying fun d _ => ?_
  split
  · rename_i fields _
    refine Calm.bind ?_ fun places => ?_
    · rw [Array.mapM_eq_mapM_toList]
      refine Calm.bind ?_ fun _ => .ret _
      induction fields.toList with
      | nil => exact .ret _
      | cons f l ih =>
        rw [List.mapM_cons]
        exact Calm.bind (Calm.bind Calm.size fun _ => .ret _) fun _ => Calm.bind ih fun _ => .ret _
    · split <;> first | exact .ret _ | exact Calm.halt _
  · refine Calm.bind Calm.size fun _ => ?_
    split <;> first | exact .ret _ | exact Calm.halt _
  · exact Calm.halt _
theorem add_block (a : Addr) (i : Nat) : (a.add i).block = a.block := by unfold Addr.add; split <;> rfl
theorem calm_loadFrom (a : Addr) (h : m a.block) : ∀ (n i : Nat) (acc : Array Value), Calm P m (loadCellsFrom a i n acc)
  | 0, _, _ => .ret _
  | n + 1, i, acc => .load _ _ _ (by rw [add_block]; exact h) fun v => calm_loadFrom a h n (i + 1) (acc.push v)
theorem calm_loadVar (t : TypeId) (a : Addr) (h : m a.block) : Calm P m (loadVar t a) := by
  refine Calm.bind Calm.isAgg fun b => ?_
  split
  · exact Calm.bind Calm.size fun n => Calm.bind (calm_loadFrom _ h _ _ _) fun _ => .ret _
  · exact .load _ _ _ h fun _ => .ret _
theorem calm_loadAt (t : TypeId) (x : Value) (h : ∀ a, x = .pointer (some a) → m a.block) : Calm P m (Instr.loadAt t x) := by
  unfold Instr.loadAt
  by_cases hx : ∃ a, x = .pointer (some a)
  · obtain ⟨a, rfl⟩ := hx
    exact calm_loadVar t a (h a rfl)
  · have : Instr.sureAddr x = Go.stuck "an address expected (no nilCheck in front?)" := by
      unfold Instr.sureAddr
      split
      · rename_i a; exact absurd ⟨a, rfl⟩ hx
      · rfl
    rw [this]
    exact Calm.halt _
theorem calm_unary (op : UnOp) (x : Value) : Calm P m (Op.unary op x) := by
  unfold Op.unary
  split
  all_goals first
    | exact .ret _
    | exact Calm.halt _
    | (unfold Op.intArith; split <;> first | exact .ret _ | exact Calm.halt _)
    | (unfold Op.intBits; dsimp only; split <;> first | exact .ret _ | exact Calm.halt _)
theorem calm_len (ts : Array TypeId) (ty : TypeId) (vs : Array Value) (h : ∀ k, m k) : Calm P m (Builtin.len_ ts ty vs) := by
  unfold Builtin.len_
  split
  · refine Calm.underlying fun d _ => ?_
    split
    all_goals first
      | exact .ret _
      | exact Calm.halt _
      | (refine Calm.underlying fun d _ => ?_; split <;> first | exact .ret _ | exact Calm.halt _)
      | (refine .getObj _ _ (h _) fun o => ?_; show Calm P m (Sem.bind (Sem.pure o) _); simp only [Sem.bind]; split <;> first | exact .ret _ | exact Calm.halt _)
  · exact Calm.halt _
theorem calm_len_mute (ts : Array TypeId) (ty : TypeId) (vs : Array Value) (h : (∃ e, (ts[0]?).bind P.underlying = some (.slice e)) ∨ (ts[0]?).bind P.underlying = some .string) : Calm P m (Builtin.len_ ts ty vs) := by
  unfold Builtin.len_
  split
  · rename_i t x heq
    simp only [Prod.mk.injEq] at heq
    refine Calm.underlying fun d hd => ?_
    rw [heq.1] at h
    simp only [Option.bind_some] at h
    rw [hd] at h
    rcases h with ⟨e, he⟩ | he
    · obtain rfl : d = .slice e := by simpa using he
      split
      all_goals first | exact .ret _ | exact Calm.halt _ | (rename_i h1 h2; exact absurd h1 (by simp)) | (rename_i h1; exact absurd h1 (by simp))
    · obtain rfl : d = .string := by simpa using he
      split
      all_goals first | exact .ret _ | exact Calm.halt _ | (rename_i h1 h2; exact absurd h1 (by simp)) | (rename_i h1; exact absurd h1 (by simp))
  · exact Calm.halt _

theorem calm_intCmp (op : BinOp) (x y : Int) : Calm P m (Op.intCmp op x y) := by
  unfold Op.intCmp; split <;> first | exact .ret _ | exact Calm.halt _
theorem calm_stringOp (op : BinOp) (x y : ByteArray) : Calm P m (Op.stringOp op x y) := by
  unfold Op.stringOp; dsimp only; split <;> first | exact .ret _ | exact Calm.halt _ | (split <;> first | exact .ret _ | exact Calm.halt _)
theorem calm_int2 (op : BinOp) (t : TypeId) (k k' : IntKind) (a b : Int) : Calm P m (binOp op t (.int k a) (.int k' b)) := by
  cases op <;> simp only [binOp] <;> repeat' (first | exact .ret _ | exact Calm.halt _ | exact calm_intCmp _ _ _ | exact Calm.errorPanic _ | split | (unfold Op.shift) | (unfold Op.intArith) | (unfold Op.intDiv) | (unfold Op.intBits) | dsimp only)
theorem calm_str2 (op : BinOp) (t : TypeId) (a b : ByteArray) : Calm P m (binOp op t (.string a) (.string b)) := by
  cases op <;> simp only [binOp] <;> exact calm_stringOp _ _ _
theorem calm_eqIn (d : Nat) (t : TypeId) (x y : Value) (h : ((plainV x && plainV y) || nilV x || nilV y) = true) : Calm P m (Op.equalIn d t x y) := by
  cases d with
  | zero => exact Calm.halt _
  | succ d =>
    unfold Op.equalIn
    refine Calm.underlying fun td _ => ?_
    split
    all_goals first
      | exact .ret _
      | exact Calm.halt _
      | (split <;> first | exact .ret _ | exact Calm.halt _)
      | (exfalso; simp [plainV, nilV] at h; done)
      | skip
    all_goals (rename_i a b _; cases a <;> cases b <;> first | exact .ret _ | (exfalso; simp [plainV, nilV] at h; done))

theorem calm_eqGuard (op : BinOp) (t : TypeId) (X Y : Operand) (x y : Value) (h : ((plainV x && plainV y) || nilV x || nilV y) = true) : Calm P m (eqGuard op t X Y x y) := by
  have hin : ∀ d, Calm P m (Op.eqGuardIn d t .nilIface .nilIface) := by
    intro d
    cases d with
    | zero => exact Calm.halt _
    | succ d =>
      unfold Op.eqGuardIn
      refine Calm.underlying fun td _ => ?_
      split <;> first | exact .ret _ | (rename_i h1 _ _; exact absurd h1 (by simp))
  unfold eqGuard
  cases x <;> cases y <;> first
    | (exfalso; simp [plainV, nilV] at h; done)
    | (dsimp only; exact Calm.ite (.ret _) (.ret _))
    | (dsimp only
       refine Calm.ite (.ret _) (Calm.ite (.ret _) (Calm.bind (hin _) fun b => ?_))
       split <;> first | exact .ret _ | exact Calm.halt _)
theorem cellV_plain {v : Value} (h : cellV v = true) : plainA v = true := by
  cases v <;> simp [cellV] at h <;> rfl
theorem cellV_plainV {v : Value} (h : cellV v = true) : plainV v = true := by
  cases v <;> simp [cellV] at h <;> rfl
theorem sem_assoc (s : Sem α) {γ : Type} (f : α → Sem β) (g : β → Sem γ) : (s >>= f) >>= g = s >>= fun x => f x >>= g := by
  show (s.bind f).bind g = s.bind fun x => (f x).bind g
  induction s <;> simp [Sem.bind, *]
theorem calm_partA (t : TypeId) (xs : Array Value) (off : Nat) {K : Value → Sem β} (h : xs.all cellV = true) (hK : ∀ v, plainA v = true → Calm P m (K v)) : Calm P m (part t xs off >>= K) := by
  have hcell : ∀ (i : Nat) v, xs[i]? = some v → cellV v = true := fun i v hv => by
    rw [Array.all_eq_true_iff_forall_mem] at h
    exact h v (Array.mem_of_getElem? hv)
  have hext : ∀ a b, plainA (.agg (xs.extract a b)) = true := fun a b => by
    show (xs.extract a b).all cellV = true
    rw [Array.all_eq_true_iff_forall_mem] at h ⊢
    intro v hv
    refine h v ?_
    obtain ⟨i, hi⟩ := Array.getElem?_of_mem hv
    rw [Array.getElem?_extract] at hi
    split at hi
    · exact Array.mem_of_getElem? hi
    · cases hi
  unfold part
  rw [sem_assoc]
  refine Calm.bind Calm.isAgg fun b => ?_
  cases b with
  | true =>
    rw [if_pos rfl, sem_assoc]
    exact Calm.bind Calm.size fun n => hK _ (hext _ _)
  | false =>
    rw [if_neg (by simp)]
    split
    · rename_i v hv; exact hK _ (cellV_plain (hcell _ _ hv))
    · exact Calm.halt _
theorem calm_forInA {γ β : Type} (f : γ → β → Sem (ForInStep β)) (hf : ∀ x b, Calm P m (f x b)) : ∀ (l : List γ) (b : β), Calm P m (forIn l b f)
  | [], b => by rw [List.forIn_nil]; exact .ret _
  | x :: l, b => by
    rw [List.forIn_cons]
    refine Calm.bind (hf x b) fun r => ?_
    cases r with
    | done b => exact .ret _
    | yield b => exact calm_forInA f hf l b
theorem calm_eqA : ∀ (d : Nat) (t : TypeId) (x y : Value), plainA x = true → plainA y = true → Calm P m (Op.equalIn d t x y)
  | 0, _, _, _, _, _ => Calm.halt _
  | d + 1, t, x, y, hx, hy => by
    cases x <;> (try (exfalso; simp [plainA, cellV] at hx; done)) <;> cases y <;> (try (exfalso; simp [plainA, cellV] at hy; done))
    case agg.agg xs ys =>
      unfold Op.equalIn
      refine Calm.underlying fun td _ => ?_
      cases td <;> (try exact Calm.halt _)
      case struct fs =>
        refine Calm.prog _ ?_
        show Calm P m (if P.stoodInHeld t = true then _ else _)
        refine Calm.ite (Calm.halt _) ?_
        rw [← Array.forIn_toList]
        refine Calm.bind (calm_forInA _ (fun f b => ?_) _ _) fun r => ?_
        · split
          · refine calm_partA _ _ _ hx fun v hv => calm_partA _ _ _ hy fun u hu => ?_
            refine Calm.bind (calm_eqA d _ _ _ hv hu) fun r => ?_
            split <;> exact .ret _
          · exact .ret _
        · dsimp only
          split <;> exact .ret _
      case array len elem =>
        refine Calm.bind Calm.size fun n => ?_
        rw [Std.Legacy.Range.forIn_eq_forIn_range']
        refine Calm.bind (calm_forInA _ (fun f b => ?_) _ _) fun r => ?_
        · refine calm_partA _ _ _ hx fun v hv => calm_partA _ _ _ hy fun u hu => ?_
          refine Calm.bind (calm_eqA d _ _ _ hv hu) fun r => ?_
          split <;> exact .ret _
        · dsimp only
          split <;> exact .ret _
    all_goals first
      | (refine calm_eqIn _ _ _ _ ?_; simp [plainV]; done)
      | (unfold Op.equalIn
         refine Calm.underlying fun td _ => ?_
         cases td <;> exact Calm.halt _)
theorem calm_gA : ∀ (d : Nat) (t : TypeId) (x y : Value), plainA x = true → plainA y = true → Calm P m (Op.eqGuardIn d t x y)
  | 0, _, _, _, _, _ => Calm.halt _
  | d + 1, t, x, y, hx, hy => by
    cases x <;> (try (exfalso; simp [plainA, cellV] at hx; done)) <;> cases y <;> (try (exfalso; simp [plainA, cellV] at hy; done))
    case agg.agg xs ys =>
      unfold Op.eqGuardIn
      refine Calm.underlying fun td _ => ?_
      cases td <;> (try exact .ret _)
      case struct fs =>
        dsimp only
        rw [← Array.forIn_toList]
        refine Calm.bind (calm_forInA _ (fun f b => ?_) _ _) fun r => ?_
        · split
          · refine calm_partA _ _ _ hx fun v hv => calm_partA _ _ _ hy fun u hu => ?_
            refine Calm.bind (calm_gA d _ _ _ hv hu) fun r => ?_
            split <;> exact .ret _
          · exact .ret _
        · split <;> exact .ret _
      case array len elem =>
        refine Calm.bind Calm.size fun n => ?_
        rw [Std.Legacy.Range.forIn_eq_forIn_range']
        refine Calm.bind (calm_forInA _ (fun f b => ?_) _ _) fun r => ?_
        · refine calm_partA _ _ _ hx fun v hv => calm_partA _ _ _ hy fun u hu => ?_
          refine Calm.bind (calm_gA d _ _ _ hv hu) fun r => ?_
          split <;> exact .ret _
        · dsimp only
          split <;> exact .ret _
    all_goals
      (unfold Op.eqGuardIn
       refine Calm.underlying fun td _ => ?_
       cases td <;> exact .ret _)
theorem calm_binA (op : BinOp) (he : eqB op = true) (t : TypeId) (X Y : Operand) (x y : Value) (hx : aggP x = true) (hy : aggP y = true) : Calm P m (do eqGuard op t X Y x y; binOp op t x y) := by
  cases x <;> (try (exfalso; simp [aggP] at hx; done))
  cases y <;> (try (exfalso; simp [aggP] at hy; done))
  rename_i xs ys
  refine Calm.bind ?_ fun _ => ?_
  · unfold eqGuard
    dsimp only
    refine Calm.ite (.ret _) ?_
    refine .prog _ (.prog _ ?_)
    show Calm P m (if _ then _ else _)
    refine Calm.ite (.ret _) ?_
    refine Calm.bind (calm_gA _ _ _ _ hx hy) fun b => ?_
    split <;> first | exact .ret _ | exact Calm.halt _
  · cases op <;> simp [eqB] at he
    all_goals (simp only [binOp]; exact Calm.bind (calm_eqA _ _ _ _ hx hy) fun _ => .ret _)
theorem calm_binOp (op : BinOp) (t : TypeId) (X Y : Operand) (x y : Value) (h : binFin op x y = true) : Calm P m (do eqGuard op t X Y x y; binOp op t x y) := by
  unfold binFin at h
  by_cases hA : (eqB op && aggP x && aggP y) = true
  · simp only [Bool.and_eq_true] at hA
    exact calm_binA op hA.1.1 t X Y x y hA.1.2 hA.2
  rw [Bool.not_eq_true] at hA
  rw [hA, Bool.false_or] at h
  split at h
  · rename_i he
    refine Calm.bind (calm_eqGuard op t X Y x y h) fun _ => ?_
    cases op <;> simp [eqB] at he
    all_goals
      cases x <;> cases y <;> first
        | exact calm_int2 _ _ _ _ _ _
        | exact calm_str2 _ _ _ _
        | (exfalso; simp [plainV, nilV] at h; done)
        | (simp only [binOp]; exact Calm.bind (calm_eqIn _ _ _ _ h) fun _ => .ret _)
  · rename_i he
    refine Calm.bind ?_ fun _ => ?_
    · cases op <;> simp [eqB] at he <;> exact .ret _
    · cases x <;> simp [numV] at h <;> cases y <;> simp [numV] at h <;> first
        | exact calm_int2 _ _ _ _ _ _
        | exact calm_str2 _ _ _ _
        | (cases op <;> simp [eqB] at he <;> exact Calm.halt _)

theorem max2_num (x y : Value) (hx : numV x = true) (hy : numV y = true) : (∃ z, numV z = true ∧ Builtin.max2 x y = Sem.pure z) ∨ (∃ h, Builtin.max2 x y = Sem.halt h) := by
  cases x <;> simp [numV] at hx <;> cases y <;> simp [numV] at hy <;> first
    | exact .inl ⟨_, rfl, rfl⟩
    | exact .inr ⟨_, rfl⟩
theorem min2_num (x y : Value) (hx : numV x = true) (hy : numV y = true) : (∃ z, numV z = true ∧ Builtin.min2 x y = Sem.pure z) ∨ (∃ h, Builtin.min2 x y = Sem.halt h) := by
  cases x <;> simp [numV] at hx <;> cases y <;> simp [numV] at hy <;> first
    | exact .inl ⟨_, rfl, rfl⟩
    | exact .inr ⟨_, rfl⟩
theorem calm_fold (g : Value → Value → Sem Value) (hg : ∀ x y, numV x = true → numV y = true → (∃ z, numV z = true ∧ g x y = Sem.pure z) ∨ (∃ h, g x y = Sem.halt h)) :
    ∀ (l : List Value) (x : Value), numV x = true → (∀ v ∈ l, numV v = true) → Calm P m (l.foldlM g x)
  | [], x, _, _ => .ret _
  | y :: l, x, hx, hl => by
    rw [List.foldlM_cons]
    rcases hg x y hx (hl y (by simp)) with ⟨z, hz, he⟩ | ⟨h, he⟩
    · rw [he]; exact calm_fold g hg l z hz (fun v hv => hl v (by simp [hv]))
    · rw [he]; exact Calm.halt _

theorem calm_forIn {β : Type} (f : Value → β → Sem (ForInStep β)) (hf : ∀ x b, Calm P m (f x b)) : ∀ (l : List Value) (b : β), Calm P m (forIn l b f)
  | [], b => by rw [List.forIn_nil]; exact .ret _
  | x :: l, b => by
    rw [List.forIn_cons]
    refine Calm.bind (hf x b) fun r => ?_
    cases r with
    | done b => exact .ret _
    | yield b => exact calm_forIn f hf l b
theorem calm_bytesToString (y : Value) (h : ∀ a n c, y = .slice (some a) n c → m a.block) : Calm P m (Conv.bytesToString y) := by
  unfold Conv.bytesToString
  split
  · exact .ret _
  · refine Calm.bind (calm_loadFrom _ (h _ _ _ rfl) _ _ _) fun cs => ?_
    refine Calm.bind ?_ fun _ => .ret _
    rw [← Array.forIn_toList]
    refine calm_forIn _ ?_ _ _
    intro x b
    split <;> first | exact .ret _ | exact Calm.halt _
  · exact Calm.halt _

/-- what is read lies in the blocks B -/
def readsIn (B : Nat → Prop) (ρ : Operand → Value) (o : Oper) : Prop :=
  match o.op with
  | .load _ x => match ρ x with
    | .pointer (some a) => B a.block
    | _ => True
  | .convert _ _ x => match ρ x with
    | .slice (some a) _ _ => B a.block
    | _ => True
  | .call c => match c.callee with
    | .builtin .len => ∀ k, B k
    | _ => True
  | _ => True
/-- WHAT READS AT THE MOST: it is a reading, and its value is what it yields -/
theorem calm_op (o : Oper) (ρ : Operand → Value) (B : Nat → Prop) (hk : opKind P o ≤ 1) (hf : okFin ρ o = true) (hB : opKind P o = 1 → readsIn B ρ o) :
    ∃ s : Sem Value, execOp ρ o = (s >>= fun v => pure (.value v)) ∧ Calm P (fun k => opKind P o = 1 ∧ B k) s := by
  unfold opKind at hk hB ⊢
  unfold okFin at hf
  unfold readsIn at hB
  unfold execOp
  cases ho : o.op <;> simp only [ho] at hk hf hB ⊢
  all_goals first
    | (exfalso; omega)
    | exact ⟨pure _, rfl, .ret _⟩
    | exact ⟨_, rfl, calm_field _ _ _⟩
    | exact ⟨_, rfl, calm_index _ _ _⟩
    | exact ⟨_, rfl, calm_sliceAt _ _ _ _ _⟩
    | exact ⟨_, rfl, calm_indexAt _ _ _⟩
    | exact ⟨_, rfl, calm_build _ _⟩
    | exact ⟨_, rfl, calm_unary _ _⟩
    | exact ⟨_, rfl, calm_loadAt _ _ fun a ha => ⟨trivial, by have := hB trivial; rw [ha] at this; exact this⟩⟩
    | exact ⟨_, rfl, calm_binOp _ _ _ _ _ _ hf⟩
    | (rename_i c a b; exact ⟨asBool (ρ c) >>= fun x => pure (if x then ρ a else ρ b), by cases ρ c <;> rfl, Calm.bind (calm_asBool _) fun _ => .ret _⟩)
    | skip
  case nilCheck x =>
    cases hx : ρ x with
    | pointer a => cases a <;> first | exact ⟨Go.runtimePanic .nilDeref, rfl, Calm.nilDeref⟩ | exact ⟨pure _, rfl, .ret _⟩
    | nilIface => exact ⟨Go.runtimePanic .nilDeref, rfl, Calm.nilDeref⟩
    | nilFunc => exact ⟨Go.runtimePanic .nilDeref, rfl, Calm.nilDeref⟩
    | func fn first captured =>
      rw [hx] at hf
      cases fn <;> first | (exfalso; simp [notMeth] at hf; done) | exact ⟨pure _, rfl, .ret _⟩
    | _ => exact ⟨pure _, rfl, .ret _⟩
  case convert src dst x =>
    refine ⟨_, rfl, ?_⟩
    split at hk
    · rename_i k1 k hs hd
      refine Calm.underlying fun d1 h1 => Calm.underlying fun d2 h2 => ?_
      rw [hs] at h1
      rw [hd] at h2
      obtain rfl : TypeDesc.int k1 = d1 := by simpa using h1
      obtain rfl : TypeDesc.int k = d2 := by simpa using h2
      cases hx : ρ x <;> rw [hx] at hf <;> simp [numV, sliceV] at hf
      all_goals first
        | exact .ret _
        | exact Calm.halt _
    · rename_i e hs hd
      split at hk
      · rename_i he
        refine Calm.underlying fun d1 h1 => Calm.underlying fun d2 h2 => ?_
        rw [hs] at h1
        rw [hd] at h2
        obtain rfl : TypeDesc.slice e = d1 := by simpa using h1
        obtain rfl : TypeDesc.string = d2 := by simpa using h2
        have hb : ∀ y, (∀ a n c, y = .slice (some a) n c → B a.block) → Calm P (fun k => 1 = 1 ∧ B k) (do match ← Go.underlying e with | .int .u8 => Conv.bytesToString y | .int .i32 => Conv.runesToString y | _ => Go.stuck "Convert: a slice of what to string?") := by
          intro y hy
          refine Calm.underlying fun d3 h3 => ?_
          rw [he] at h3
          obtain rfl : TypeDesc.int .u8 = d3 := by simpa using h3
          exact calm_bytesToString y fun a n c h => ⟨rfl, hy a n c h⟩
        cases hx : ρ x <;> rw [hx] at hf <;> simp [numV, sliceV] at hf
        all_goals first
          | exact .ret _
          | exact hb _ (fun a n c h => by
              have := hB (by simp only [hs, hd, he])
              rw [hx, h] at this
              exact this)
      · exfalso; omega
    · exfalso; omega
  case makeInterface t x =>
    refine ⟨_, rfl, Calm.underlying fun d _ => ?_⟩
    split <;> first | exact .ret _ | exact Calm.halt _
  case fieldAddr t x f =>
    refine ⟨_, rfl, ?_⟩
    split at hk
    · rename_i fs hfs
      split at hk
      · rename_i fd hfd
        split at hk
        · exfalso; omega
        · rename_i hne; exact calm_fieldAt t _ f fs fd hfs hfd hne
      · exfalso; omega
    · exfalso; omega
  case extract x i =>
    refine ⟨_, rfl, ?_⟩
    unfold Instr.extract
    split <;> first | exact Calm.halt _ | (split <;> first | exact .ret _ | exact Calm.halt _)
  case call c =>
    obtain ⟨callee, cargs, ctypes⟩ := c
    cases callee with
    | value f => exfalso; simp at hk
    | invoke r n => exfalso; simp at hk
    | builtin b =>
      cases b <;> dsimp only at hk hf ⊢ <;> first | (exfalso; omega) | skip
      case len =>
        refine ⟨_, rfl, ?_⟩
        split
        · rename_i e he; exact calm_len_mute _ _ _ (.inl ⟨_, he⟩)
        · rename_i he; exact calm_len_mute _ _ _ (.inr he)
        · rename_i h1 h2
          refine calm_len _ _ _ fun k => ⟨rfl, hB ?_ k⟩
          dsimp only
          split
          · rename_i e he; exact absurd he (h1 e)
          · rename_i he; exact absurd he h2
          · rfl
      case max =>
        refine ⟨_, rfl, ?_⟩
        unfold Builtin.max_
        rw [List.all_eq_true] at hf
        have hall : ∀ v ∈ (cargs.map ρ).toList, numV v = true := by
          intro v hv; rw [Array.toList_map] at hv; obtain ⟨x, hx, rfl⟩ := List.mem_map.1 hv; exact hf x hx
        split
        · exact Calm.halt _
        · rename_i x rest hx
          rw [hx] at hall
          exact calm_fold _ max2_num _ _ (hall x (by simp)) (fun v hv => hall v (by simp [hv]))
      case min =>
        refine ⟨_, rfl, ?_⟩
        unfold Builtin.min_
        rw [List.all_eq_true] at hf
        have hall : ∀ v ∈ (cargs.map ρ).toList, numV v = true := by
          intro v hv; rw [Array.toList_map] at hv; obtain ⟨x, hx, rfl⟩ := List.mem_map.1 hv; exact hf x hx
        split
        · exact Calm.halt _
        · rename_i x rest hx
          rw [hx] at hall
          exact calm_fold _ min2_num _ _ (hall x (by simp)) (fun v hv => hall v (by simp [hv]))

/-- WHAT ONLY ADDS BLOCKS -/
inductive Adds (P : Program) {α : Type} : Sem α → Prop
  | ret (a : α) : Adds P (Sem.pure a)
  | prog (k : Program → Sem α) : Adds P (k P) → Adds P (Sem.program k)
  | new (o : Obj) (k : Nat → Sem α) : (∀ r, Adds P (k r)) → Adds P (Sem.new o k)
  | fails (s : Sem α) : (∀ w r w', s.run P w ≠ .ok r w') → Adds P s
theorem Adds.agree {s : Sem α} (h : Adds P s) : ∀ w r w', s.run P w = .ok r w' → Agree w w' := by
  induction h with
  | ret a => intro w r w' h; simp [Sem.run] at h; obtain ⟨_, rfl⟩ := h; exact Agree.refl _
  | prog k _ ih => intro w r w' h; exact ih w r w' h
  | new o k _ ih => intro w r w' h; exact (Agree.alloc w o).trans (ih _ _ _ _ h)
  | fails s h => intro w r w' h'; exact absurd h' (h w r w')
theorem Adds.of_calm {s : Sem α} (h : Calm P (fun _ => False) s) : Adds P s := by
  induction h with
  | ret a => exact .ret a
  | prog k _ ih => exact .prog k ih
  | load md a k hm _ ih => exact hm.elim
  | getObj r k hm _ ih => exact hm.elim
  | fails s h => exact .fails s h
theorem Adds.bind {s : Sem α} {f : α → Sem β} (hs : Adds P s) (hf : ∀ x, Adds P (f x)) : Adds P (s >>= f) := by
  show Adds P (s.bind f)
  induction hs with
  | ret a => exact hf a
  | prog k _ ih => exact .prog _ ih
  | new o k _ ih => exact .new _ _ ih
  | fails s h =>
    refine .fails _ fun w r w' h' => ?_
    have := Sem.run_bind' P s f w
    rw [this] at h'
    cases hr : s.run P w with
    | ok a w1 => exact h w a w1 hr
    | halt x w1 => rw [hr] at h'; simp [Result.andThen] at h'
theorem adds_newVar (t : TypeId) (v : Value) : Adds P (newVar t v) := .new _ _ fun _ => .ret _
theorem adds_op (o : Oper) (ρ : Operand → Value) (hk : opKind P o = 2) : ∃ s : Sem Value, execOp ρ o = (s >>= fun v => pure (.value v)) ∧ Adds P s := by
  unfold opKind at hk
  unfold execOp
  cases ho : o.op <;> simp only [ho] at hk ⊢
  all_goals first
    | (exfalso; omega)
    | skip
  case alloc e =>
    refine ⟨_, rfl, Adds.bind (.of_calm (calm_zero _)) fun z => ?_⟩
    exact Adds.bind (adds_newVar _ _) fun _ => .ret _
  case box e x => exact ⟨_, rfl, Adds.bind (adds_newVar _ _) fun _ => .ret _⟩
  case buildSlice t n ps =>
    refine ⟨_, rfl, ?_⟩
    unfold Instr.buildSlice
    dsimp only
    refine Adds.bind (.of_calm calm_under) fun d => ?_
    split
    · refine Adds.bind (.of_calm Calm.size) fun _ => ?_
      repeat' (first
        | exact .ret _
        | exact .of_calm (Calm.halt _)
        | exact .of_calm (calm_zero _)
        | exact .new _ _ fun _ => .ret _
        | (refine Adds.bind ?_ fun _ => ?_)
        | split)
    · exact .of_calm (Calm.halt _)
  all_goals (exfalso; revert hk; (repeat' split) <;> simp)

/-- the operands that 'okFin' looks at -/
def sens (o : Oper) : List Operand :=
  match o.op with
  | .binOp _ _ x y _ => [x, y]
  | .nilCheck x => [x]
  | .load _ x => [x]
  | .convert _ _ x => [x]
  | .call c => match c.callee with
    | .builtin .max => c.args.toList
    | .builtin .min => c.args.toList
    | _ => []
  | _ => []
theorem readsIn_congr {B : Nat → Prop} {ρ ρ' : Operand → Value} (o : Oper) (h : ∀ x ∈ sens o, ρ x = ρ' x) : readsIn B ρ o = readsIn B ρ' o := by
  unfold readsIn
  unfold sens at h
  cases ho : o.op <;> simp only [ho] at h ⊢
  case load t x => rw [h x (by simp)]
  case convert s d x => rw [h x (by simp)]
theorem okFin_congr {ρ ρ' : Operand → Value} (o : Oper) (h : ∀ x ∈ sens o, ρ x = ρ' x) : okFin ρ o = okFin ρ' o := by
  unfold okFin
  unfold sens at h
  cases ho : o.op <;> simp only [ho] at h ⊢
  case binOp op t x y u => rw [h x (by simp), h y (by simp)]
  case nilCheck x => rw [h x (by simp)]
  case convert s d x => rw [h x (by simp)]
  case call c =>
    obtain ⟨callee, cargs, ctypes⟩ := c
    cases callee with
    | builtin b =>
      cases b <;> dsimp only at h ⊢ <;> rw [Bool.eq_iff_iff, List.all_eq_true, List.all_eq_true] <;> exact ⟨fun hh x hx => by rw [← h x hx]; exact hh x hx, fun hh x hx => by rw [h x hx]; exact hh x hx⟩
    | _ => rfl
end
end Go.Proofs.Ytblahapjdgncfaa
