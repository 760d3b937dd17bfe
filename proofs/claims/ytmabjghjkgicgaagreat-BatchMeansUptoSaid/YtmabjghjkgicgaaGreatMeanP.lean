/- What operations come to at a path, and that the few come to the same. No program in sight. | What a tree's leaves answer behind operations that are done by new dots: it hangs on what the operations come to. No program in sight. | The same for sets and logs; what is answered. No program in sight. -/
import Derived.Test.YtmabjghjkgicgaaGreatBatT
/- MeanP -/
namespace Go.Proofs.YtmabjghjkgicgaaGreat
set_option linter.unusedVariables false
set_option linter.unusedSimpArgs false

def addN (p : List ByteArray) (o : Opn) : Int := if o.k = 1 ∧ o.p = p then o.n else 0
def setX (p : List ByteArray) (o : Opn) : Option ByteArray := if o.k = 2 ∧ o.p = p then some o.x else none
def sayX (p : List ByteArray) (o : Opn) : Option ByteArray := if o.k = 5 ∧ o.p = p then some o.x else none
def addsP (p : List ByteArray) (L : List Opn) : Int := (L.map (addN p)).sum
def setsP (p : List ByteArray) (L : List Opn) : Option ByteArray := (L.filterMap (setX p)).getLast?
def saysP (p : List ByteArray) (L : List Opn) : List ByteArray := L.filterMap (sayX p)
def putsP (p : List ByteArray) (s : ByteArray) (L : List Opn) : Prop := ∃ o ∈ L, o.k = 3 ∧ o.p = p ∧ o.x = s
def dropsP (p : List ByteArray) (d : Dt) (L : List Opn) : Prop := ∃ o ∈ L, o.k = 4 ∧ o.p = p ∧ d ∈ o.ds
def hasP (p : List ByteArray) (t : Int) (L : List Opn) : Prop := ∃ o ∈ L, o.p = p ∧ typeOf o.k = t
/-- what operations come to -/
structure SumEq (L M : List Opn) : Prop where
  adds : ∀ p, addsP p L = addsP p M
  sets : ∀ p, setsP p L = setsP p M
  says : ∀ p, saysP p L = saysP p M
  puts : ∀ p s, putsP p s L ↔ putsP p s M
  drops : ∀ p d, dropsP p d L ↔ dropsP p d M
  has : ∀ p t, hasP p t L ↔ hasP p t M
theorem SumEq.refl (L : List Opn) : SumEq L L := ⟨fun _ => rfl, fun _ => rfl, fun _ => rfl, fun _ _ => Iff.rfl, fun _ _ => Iff.rfl, fun _ _ => Iff.rfl⟩
theorem SumEq.trans {L M N : List Opn} (h : SumEq L M) (k : SumEq M N) : SumEq L N :=
  ⟨fun p => (h.adds p).trans (k.adds p), fun p => (h.sets p).trans (k.sets p), fun p => (h.says p).trans (k.says p), fun p s => (h.puts p s).trans (k.puts p s), fun p s => (h.drops p s).trans (k.drops p s), fun p s => (h.has p s).trans (k.has p s)⟩
theorem addsP_append (p : List ByteArray) (L M : List Opn) : addsP p (L ++ M) = addsP p L + addsP p M := by simp [addsP]
theorem setsP_append (p : List ByteArray) (L M : List Opn) : setsP p (L ++ M) = (setsP p M).or (setsP p L) := by
  simp only [setsP, List.filterMap_append, List.getLast?_append]
theorem saysP_append (p : List ByteArray) (L M : List Opn) : saysP p (L ++ M) = saysP p L ++ saysP p M := by simp [saysP]
theorem putsP_append (p : List ByteArray) (s : ByteArray) (L M : List Opn) : putsP p s (L ++ M) ↔ putsP p s L ∨ putsP p s M := by
  simp only [putsP, List.mem_append, or_and_right, exists_or]
theorem dropsP_append (p : List ByteArray) (s : Dt) (L M : List Opn) : dropsP p s (L ++ M) ↔ dropsP p s L ∨ dropsP p s M := by
  simp only [dropsP, List.mem_append, or_and_right, exists_or]
theorem hasP_append (p : List ByteArray) (s : Int) (L M : List Opn) : hasP p s (L ++ M) ↔ hasP p s L ∨ hasP p s M := by
  simp only [hasP, List.mem_append, or_and_right, exists_or]
theorem SumEq.append {L M L' M' : List Opn} (h : SumEq L M) (k : SumEq L' M') : SumEq (L ++ L') (M ++ M') :=
  ⟨fun p => by rw [addsP_append, addsP_append, h.adds, k.adds], fun p => by rw [setsP_append, setsP_append, h.sets, k.sets], fun p => by rw [saysP_append, saysP_append, h.says, k.says],
   fun p s => by rw [putsP_append, putsP_append, h.puts, k.puts], fun p s => by rw [dropsP_append, dropsP_append, h.drops, k.drops], fun p s => by rw [hasP_append, hasP_append, h.has, k.has]⟩
theorem split_at {α : Type} {L : List α} {q : Nat} {x : α} (h : L[q]? = some x) : ∃ A B, L = A ++ x :: B ∧ (∀ y, L.set q y = A ++ y :: B) ∧ L.eraseIdx q = A ++ B := by
  induction L generalizing q with
  | nil => simp at h
  | cons a L ih =>
    cases q with
    | zero =>
      simp at h
      subst h
      exact ⟨[], L, rfl, fun y => rfl, rfl⟩
    | succ q =>
      obtain ⟨A, B, h1, h2, h3⟩ := ih (q := q) (by simpa using h)
      exact ⟨a :: A, B, by rw [h1]; rfl, fun y => by rw [List.set_cons_succ, h2]; rfl, by rw [List.eraseIdx_cons_succ, h3]; rfl⟩
theorem one_adds (p : List ByteArray) (o : Opn) : addsP p [o] = addN p o := by simp [addsP]
theorem one_sets (p : List ByteArray) (o : Opn) : setsP p [o] = setX p o := by
  simp only [setsP, List.filterMap_cons, List.filterMap_nil]
  cases setX p o <;> rfl
theorem one_says (p : List ByteArray) (o : Opn) : saysP p [o] = (sayX p o).toList := by
  simp only [saysP, List.filterMap_cons, List.filterMap_nil]
  cases sayX p o <;> rfl
theorem one_puts (p : List ByteArray) (s : ByteArray) (o : Opn) : putsP p s [o] ↔ o.k = 3 ∧ o.p = p ∧ o.x = s := by simp [putsP]
theorem one_drops (p : List ByteArray) (s : Dt) (o : Opn) : dropsP p s [o] ↔ o.k = 4 ∧ o.p = p ∧ s ∈ o.ds := by simp [dropsP]
theorem one_has (p : List ByteArray) (s : Int) (o : Opn) : hasP p s [o] ↔ o.p = p ∧ typeOf o.k = s := by simp [hasP]
/-- two operations of one kind and path as one, at the first one's place -/
theorem sum_two {x o y : Opn} {B : List Opn} (h : SumEq ([y] ++ B) (([x] ++ B) ++ [o])) (A : List Opn) : SumEq (A ++ y :: B) ((A ++ x :: B) ++ [o]) := by
  have := (SumEq.refl A).append h
  simpa using this
theorem sum_add {x o : Opn} (B : List Opn) (hk : x.k = o.k) (hp : x.p = o.p) (h1 : o.k = 1) : SumEq ([{ x with n := x.n + o.n }] ++ B) (([x] ++ B) ++ [o]) := by
  refine ⟨fun p => ?_, fun p => ?_, fun p => ?_, fun p s => ?_, fun p s => ?_, fun p s => ?_⟩
  · simp only [addsP_append, one_adds, addN, hk, hp, h1]
    by_cases e : o.p = p
    · simp [e]; omega
    · simp [e]
  · simp only [setsP_append, one_sets, setX, hk, hp, h1]; simp
  · simp only [saysP_append, one_says, sayX, hk, hp, h1]; simp
  · simp only [putsP_append, one_puts, hk, hp, h1]; simp
  · simp only [dropsP_append, one_drops, hk, hp, h1]; simp
  · simp only [hasP_append, one_has, hk, hp]; grind
theorem sum_put {x o : Opn} (B : List Opn) (hk : x.k = o.k) (hp : x.p = o.p) (hx : x.x = o.x) (h3 : o.k = 3) : SumEq ([x] ++ B) (([x] ++ B) ++ [o]) := by
  refine ⟨fun p => ?_, fun p => ?_, fun p => ?_, fun p s => ?_, fun p s => ?_, fun p s => ?_⟩
  · simp only [addsP_append, one_adds, addN, hk, hp, h3]; simp
  · simp only [setsP_append, one_sets, setX, hk, hp, h3]; simp
  · simp only [saysP_append, one_says, sayX, hk, hp, h3]; simp
  · simp only [putsP_append, one_puts, hk, hp, hx, h3]; grind
  · simp only [dropsP_append, one_drops, hk, hp, h3]; simp
  · simp only [hasP_append, one_has, hk, hp]; grind
theorem sum_drop {x o : Opn} {y : List Dt} (B : List Opn) (hk : x.k = o.k) (hp : x.p = o.p) (hy : ∀ d, d ∈ y ↔ d ∈ x.ds ∨ d ∈ o.ds) (h4 : o.k = 4) : SumEq ([{ x with ds := y }] ++ B) (([x] ++ B) ++ [o]) := by
  refine ⟨fun p => ?_, fun p => ?_, fun p => ?_, fun p s => ?_, fun p s => ?_, fun p s => ?_⟩
  · simp only [addsP_append, one_adds, addN, hk, hp, h4]; simp
  · simp only [setsP_append, one_sets, setX, hk, hp, h4]; simp
  · simp only [saysP_append, one_says, sayX, hk, hp, h4]; simp
  · simp only [putsP_append, one_puts, hk, hp, h4]; simp
  · simp only [dropsP_append, one_drops, hk, hp, h4, hy]; grind
  · simp only [hasP_append, one_has, hk, hp]; grind
theorem sum_set {x o : Opn} (B : List Opn) (hk : x.k = o.k) (hp : x.p = o.p) (h2 : o.k = 2) : SumEq (B ++ [o]) (([x] ++ B) ++ [o]) := by
  refine ⟨fun p => ?_, fun p => ?_, fun p => ?_, fun p s => ?_, fun p s => ?_, fun p s => ?_⟩
  · simp only [addsP_append, one_adds, addN, hk, hp, h2]; simp
  · simp only [setsP_append, one_sets, setX, hk, hp, h2]
    by_cases e : o.p = p
    · simp [e]
    · simp [e]
  · simp only [saysP_append, one_says, sayX, hk, hp, h2]; simp
  · simp only [putsP_append, one_puts, hk, hp, h2]; simp
  · simp only [dropsP_append, one_drops, hk, hp, h2]; simp
  · simp only [hasP_append, one_has, hk, hp]; grind
theorem StepL.sum {L L' : List Opn} {o : Opn} (h : StepL L o L') : SumEq L' (L ++ [o]) := by
  rcases h with ⟨h1, h⟩ | ⟨h1, h⟩ | ⟨h1, h⟩ | ⟨h1, h⟩ | ⟨h1, rfl⟩
  · rcases h with ⟨q, x, hx, hm, _, rfl⟩ | ⟨_, rfl⟩
    · obtain ⟨A, B, rfl, h2, h3⟩ := split_at hx
      rw [h2]
      exact sum_two (sum_add B hm.1 hm.2.1 h1) A
    · exact SumEq.refl _
  · rcases h with ⟨q, x, hx, hm, _, rfl⟩ | ⟨_, rfl⟩
    · obtain ⟨A, B, rfl, h2, h3⟩ := split_at hx
      rw [h3]
      have := (SumEq.refl A).append (sum_set (x := x) (o := o) B hm.1 hm.2 h1)
      simpa using this
    · exact SumEq.refl _
  · rcases h with ⟨⟨x, hx, hm⟩, rfl⟩ | ⟨_, rfl⟩
    · obtain ⟨q, hq⟩ := List.getElem?_of_mem hx
      obtain ⟨A, B, rfl, h2, h3⟩ := split_at hq
      exact sum_two (sum_put B hm.1 hm.2.1 hm.2.2 h1) A
    · exact SumEq.refl _
  · rcases h with ⟨q, x, y, hx, hm, _, hy, rfl⟩ | ⟨_, rfl⟩
    · obtain ⟨A, B, rfl, h2, h3⟩ := split_at hx
      rw [h2]
      exact sum_two (sum_drop B hm.1 hm.2.1 hy.2 h1) A
    · exact SumEq.refl _
  · exact SumEq.refl _
theorem FewL.sum {L l L' : List Opn} (h : FewL L l L') : SumEq L' (L ++ l) := by
  induction l generalizing L with
  | nil => rw [show L' = L from h]; simpa using SumEq.refl L
  | cons o l ih =>
    obtain ⟨M, h1, h2⟩ := h
    have := (ih h2).trans (h1.sum.append (SumEq.refl l))
    simpa using this
end Go.Proofs.YtmabjghjkgicgaaGreat

/- MeanQ -/
namespace Go.Proofs.YtmabjghjkgicgaaGreat
set_option linter.unusedVariables false
set_option linter.unusedSimpArgs false

/-! the order of names -/
def ltS (a b : ByteArray) : Bool := Op.bytesLess a.toList b.toList
theorem bl_irrefl : ∀ x : List UInt8, Op.bytesLess x x = false
  | [] => by simp [Op.bytesLess]
  | a :: x => by simp [Op.bytesLess, bl_irrefl x]
theorem bl_trans : ∀ x y z : List UInt8, Op.bytesLess x y = true → Op.bytesLess y z = true → Op.bytesLess x z = true
  | [], [], _, h, _ => by simp [Op.bytesLess] at h
  | [], _ :: _, [], _, k => by simp [Op.bytesLess] at k
  | [], _ :: _, _ :: _, _, _ => by simp [Op.bytesLess]
  | _ :: _, [], _, h, _ => by simp [Op.bytesLess] at h
  | _ :: _, _ :: _, [], _, k => by simp [Op.bytesLess] at k
  | a :: x, b :: y, c :: z, h, k => by
    simp only [Op.bytesLess, Bool.or_eq_true, Bool.and_eq_true, decide_eq_true_eq, beq_iff_eq] at h k ⊢
    rcases h with h | ⟨rfl, h⟩ <;> rcases k with k | ⟨rfl, k⟩
    · exact .inl (UInt8.lt_trans h k)
    · exact .inl h
    · exact .inl k
    · exact .inr ⟨rfl, bl_trans x y z h k⟩
theorem bl_total : ∀ x y : List UInt8, Op.bytesLess x y = false → Op.bytesLess y x = false → x = y
  | [], [], _, _ => rfl
  | [], _ :: _, h, _ => by simp [Op.bytesLess] at h
  | _ :: _, [], _, k => by simp [Op.bytesLess] at k
  | a :: x, b :: y, h, k => by
    simp only [Op.bytesLess, Bool.or_eq_false_iff, decide_eq_false_iff_not, Bool.and_eq_false_iff, beq_eq_false_iff_ne] at h k
    have hab : a = b := UInt8.le_antisymm (UInt8.not_lt.1 k.1) (UInt8.not_lt.1 h.1)
    subst hab
    rw [bl_total x y (h.2.resolve_left (by simp)) (k.2.resolve_left (by simp))]
theorem ltS_irrefl (a : ByteArray) : ltS a a = false := bl_irrefl _
theorem ltS_trans {a b c : ByteArray} (h : ltS a b = true) (k : ltS b c = true) : ltS a c = true := bl_trans _ _ _ h k
theorem ltS_total {a b : ByteArray} (h : ltS a b = false) (k : ltS b a = false) : a = b := by
  have := bl_total _ _ h k
  rw [Lib.toList_data, Lib.toList_data] at this
  exact ByteArray.ext (Array.ext' this)
theorem ltS_asymm {a b : ByteArray} (h : ltS a b = true) : ltS b a = false := by
  cases e : ltS b a with
  | false => rfl
  | true => have := ltS_trans h e; rw [ltS_irrefl] at this; cases this
def risesS (l : List ByteArray) : Prop := l.Pairwise (fun a b => ltS a b = true)
/-- rising names are told by what they are -/
theorem rises_uniq {l m : List ByteArray} (h : risesS l) (k : risesS m) (hm : ∀ s, s ∈ l ↔ s ∈ m) : l = m := by
  induction l generalizing m with
  | nil =>
    cases m with
    | nil => rfl
    | cons b m => exact absurd ((hm b).2 (.head _)) (by simp)
  | cons a l ih =>
    cases m with
    | nil => exact absurd ((hm a).1 (.head _)) (by simp)
    | cons b m =>
      have h1 := List.pairwise_cons.1 h
      have k1 := List.pairwise_cons.1 k
      have hab : a = b := by
        rcases List.mem_cons.1 ((hm a).1 (.head _)) with e | e
        · exact e
        · rcases List.mem_cons.1 ((hm b).2 (.head _)) with f | f
          · exact f.symm
          · have := ltS_trans (h1.1 b f) (k1.1 a e); rw [ltS_irrefl] at this; cases this
      subst hab
      rw [ih h1.2 k1.2 fun s => ?_]
      constructor
      · intro hs
        rcases List.mem_cons.1 ((hm s).1 (.tail _ hs)) with rfl | e
        · have := h1.1 _ hs; rw [ltS_irrefl] at this; cases this
        · exact e
      · intro hs
        rcases List.mem_cons.1 ((hm s).2 (.tail _ hs)) with rfl | e
        · have := k1.1 _ hs; rw [ltS_irrefl] at this; cases this
        · exact e
/-- a text among some that rise, once -/
noncomputable def onceP (l : List ByteArray) (s : ByteArray) : List ByteArray := @ite _ (s ∈ l) (Classical.propDecidable _) l (l.takeWhile (fun y => ltS y s) ++ s :: l.dropWhile (fun y => ltS y s))
theorem mem_onceP {l : List ByteArray} {s u : ByteArray} : u ∈ onceP l s ↔ u = s ∨ u ∈ l := by
  unfold onceP
  by_cases h : s ∈ l
  · rw [if_pos h]
    constructor
    · exact .inr
    · rintro (rfl | h')
      · exact h
      · exact h'
  · rw [if_neg h, mem_insert]
theorem rises_once {l : List ByteArray} {s : ByteArray} (h : risesS l) : risesS (onceP l s) := by
  unfold onceP
  by_cases hs : s ∈ l
  · rw [if_pos hs]; exact h
  · rw [if_neg hs]
    refine insert_pairwise (lt := fun a b => ltS a b = true) (fun y => ltS y s) (fun {a b c} => ltS_trans) (fun y _ hy => hy) (fun y hy hn => ?_) h
    cases e : ltS s y with
    | true => rfl
    | false => exact absurd (ltS_total hn e ▸ hy) hs
noncomputable def oncesP (l : List ByteArray) : List ByteArray := l.foldl onceP []
theorem mem_foldl_once {l A : List ByteArray} {u : ByteArray} : u ∈ l.foldl onceP A ↔ u ∈ A ∨ u ∈ l := by
  induction l generalizing A with
  | nil => simp
  | cons a l ih => rw [List.foldl_cons, ih, mem_onceP]; simp; grind
theorem rises_foldl_once {l A : List ByteArray} (h : risesS A) : risesS (l.foldl onceP A) := by
  induction l generalizing A with
  | nil => exact h
  | cons a l ih => exact ih (rises_once h)
theorem onces_eq {l m : List ByteArray} (h : ∀ s, s ∈ l ↔ s ∈ m) : oncesP l = oncesP m :=
  rises_uniq (rises_foldl_once List.Pairwise.nil) (rises_foldl_once List.Pairwise.nil) fun s => by unfold oncesP; rw [mem_foldl_once, mem_foldl_once]; simp [h s]

/-! leaves behind operations -/
def freshA : Ac := (15, 4)
def evAt (t0 : Int) (i : Nat) (o : Opn) : Ev := ⟨(freshA, (i : Int) + 1), t0 + i, o.k, o.n, o.x, o.ds⟩
abbrev Look := List ByteArray → Int → Option Lf
def stepF (t0 : Int) (F : Look) (o : Opn) (i : Nat) : Look := fun p k => if p = o.p ∧ k = typeOf o.k then some (applyP ((F p k).getD (bare k)) (evAt t0 i o)) else F p k
def runF (t0 : Int) (F : Look) (L : List Opn) : Look := L.zipIdx.foldl (fun F x => stepF t0 F x.1 x.2) F
theorem runF_snoc (t0 : Int) (F : Look) (L : List Opn) (o : Opn) : runF t0 F (L ++ [o]) = stepF t0 (runF t0 F L) o L.length := by
  simp [runF, List.zipIdx_append]
theorem snoc_ind {α : Type} {P : List α → Prop} (h0 : P []) (hs : ∀ L o, P L → P (L ++ [o])) (L : List α) : P L := by
  have : ∀ n (L : List α), L.length = n → P L := by
    intro n
    induction n with
    | zero => intro L hL; rw [List.eq_nil_of_length_eq_zero hL]; exact h0
    | succ n ih =>
      intro L hL
      have hne : L ≠ [] := by intro h; rw [h] at hL; cases hL
      rw [← List.dropLast_concat_getLast hne]
      exact hs _ _ (ih _ (by rw [List.length_dropLast]; omega))
  exact this _ L rfl
theorem run_has (t0 : Int) (F : Look) (L : List Opn) (p : List ByteArray) (k : Int) : (runF t0 F L p k).isSome = true ↔ (F p k).isSome = true ∨ hasP p k L := by
  refine snoc_ind (P := fun L => (runF t0 F L p k).isSome = true ↔ (F p k).isSome = true ∨ hasP p k L) ?_ ?_ L
  · simp [runF, hasP]
  · intro L o ih
    rw [runF_snoc, hasP_append, one_has]
    unfold stepF
    by_cases h : p = o.p ∧ k = typeOf o.k
    · rw [if_pos h]; simp [h.1, h.2]
    · rw [if_neg h, ih]
      constructor
      · rintro (h1 | h1)
        · exact .inl h1
        · exact .inr (.inl h1)
      · rintro (h1 | h1 | h1)
        · exact .inl h1
        · exact .inr h1
        · exact absurd ⟨h1.1.symm, h1.2.symm⟩ h
def base (F : Look) (p : List ByteArray) (k : Int) : Lf := (F p k).getD (bare k)
theorem base_step (t0 : Int) (F : Look) (o : Opn) (i : Nat) (p : List ByteArray) (k : Int) : base (stepF t0 F o i) p k = if p = o.p ∧ k = typeOf o.k then applyP (base F p k) (evAt t0 i o) else base F p k := by
  unfold base stepF
  by_cases h : p = o.p ∧ k = typeOf o.k
  · rw [if_pos h, if_pos h]; rfl
  · rw [if_neg h, if_neg h]
theorem wrap_add (a b : Int) : IntKind.wrap .i64 (IntKind.wrap .i64 a + b) = IntKind.wrap .i64 (a + b) := by
  obtain ⟨q, hq⟩ := wrapped a
  rw [hq, show a + q * 18446744073709551616 + b = (a + b) + q * 18446744073709551616 by omega, wrap_shift]
theorem run_num (t0 : Int) (F : Look) (L : List Opn) (p : List ByteArray) (h : IntKind.wrap .i64 (base F p 1).n = (base F p 1).n) :
    (base (runF t0 F L) p 1).n = IntKind.wrap .i64 ((base F p 1).n + addsP p L) := by
  refine snoc_ind (P := fun L => (base (runF t0 F L) p 1).n = IntKind.wrap .i64 ((base F p 1).n + addsP p L)) ?_ ?_ L
  · simp [runF, addsP, h]
  · intro L o ih
    rw [runF_snoc, base_step, addsP_append, one_adds]
    by_cases hh : p = o.p ∧ (1 : Int) = typeOf o.k
    · rw [if_pos hh]
      have hk := type1 hh.2.symm
      have : addN p o = o.n := by unfold addN; rw [if_pos ⟨hk, hh.1.symm⟩]
      rw [this]
      show (applyP _ _).n = _
      have e1 : (applyP (base (runF t0 F L) p 1) (evAt t0 L.length o)).n = IntKind.wrap .i64 ((base (runF t0 F L) p 1).n + o.n) := by
        unfold applyP
        rw [if_pos (show (evAt t0 L.length o).k = 1 from hk)]
        rfl
      rw [e1, ih, wrap_add]
      congr 1
      omega
    · rw [if_neg hh, ih]
      have : addN p o = 0 := by
        unfold addN
        rw [if_neg]
        rintro ⟨h1, h2⟩
        exact hh ⟨h2.symm, by rw [h1]; rfl⟩
      rw [this]
      simp
theorem run_text (t0 : Int) (F : Look) (L : List Opn) (p : List ByteArray) (h : (base F p 2).t < t0) (h1 : 1 ≤ t0) :
    (setsP p L = none → base (runF t0 F L) p 2 = base F p 2) ∧ (∀ x, setsP p L = some x → (base (runF t0 F L) p 2).x = x ∧ 1 ≤ (base (runF t0 F L) p 2).t) ∧ (base (runF t0 F L) p 2).t < t0 + L.length := by
  refine snoc_ind (P := fun L => (setsP p L = none → base (runF t0 F L) p 2 = base F p 2) ∧ (∀ x, setsP p L = some x → (base (runF t0 F L) p 2).x = x ∧ 1 ≤ (base (runF t0 F L) p 2).t) ∧ (base (runF t0 F L) p 2).t < t0 + L.length) ?_ ?_ L
  · exact ⟨fun _ => rfl, fun x hx => by simp [setsP] at hx, by simpa [runF] using h⟩
  · rintro L o ⟨i1, i2, i3⟩
    rw [runF_snoc, base_step, setsP_append, one_sets]
    by_cases hh : p = o.p ∧ (2 : Int) = typeOf o.k
    · rw [if_pos hh]
      have hk := type2 hh.2.symm
      have hs : setX p o = some o.x := by unfold setX; rw [if_pos ⟨hk, hh.1.symm⟩]
      have ha : applyP (base (runF t0 F L) p 2) (evAt t0 L.length o) = { base (runF t0 F L) p 2 with t := t0 + L.length, d := (freshA, (L.length : Int) + 1), x := o.x } := by
        unfold applyP
        rw [if_neg (show ¬ (evAt t0 L.length o).k = 1 by show ¬ o.k = 1; omega), if_pos (show (evAt t0 L.length o).k = 2 from hk), if_pos]
        · rfl
        · right
          unfold aheadT
          simp only [Bool.or_eq_true, decide_eq_true_eq]
          left
          exact i3
      rw [ha, hs]
      refine ⟨fun e => by simp at e, fun x hx => ?_, ?_⟩
      · simp at hx
        subst hx
        exact ⟨rfl, by show 1 ≤ t0 + (L.length : Int); omega⟩
      · show t0 + (L.length : Int) < _
        simp; omega
    · rw [if_neg hh]
      have hs : setX p o = none := by
        unfold setX
        rw [if_neg]
        rintro ⟨h1, h2⟩
        exact hh ⟨h2.symm, by rw [h1]; rfl⟩
      rw [hs]
      simp only [Option.none_or]
      exact ⟨i1, i2, by simp; omega⟩
end Go.Proofs.YtmabjghjkgicgaaGreat

/- MeanR -/
namespace Go.Proofs.YtmabjghjkgicgaaGreat
set_option linter.unusedVariables false
set_option linter.unusedSimpArgs false

theorem takeWhile_all {α : Type} {p : α → Bool} {l : List α} (h : ∀ x ∈ l, p x = true) : l.takeWhile p = l := by
  induction l with
  | nil => rfl
  | cons a l ih => rw [List.takeWhile_cons_of_pos (h a (.head _)), ih fun x hx => h x (.tail _ hx)]
theorem dropWhile_all {α : Type} {p : α → Bool} {l : List α} (h : ∀ x ∈ l, p x = true) : l.dropWhile p = [] := by
  induction l with
  | nil => rfl
  | cons a l ih => rw [List.dropWhile_cons_of_pos (h a (.head _)), ih fun x hx => h x (.tail _ hx)]
/-- no dot of the new actor -/
def oldDots (l : List Dt) : Prop := ∀ d ∈ l, d.1 ≠ freshA
def PutBy (t0 : Int) (p : List ByteArray) (L : List Opn) (x : It) : Prop := ∃ (i : Nat) (o : Opn), L[i]? = some o ∧ o.k = 3 ∧ o.p = p ∧ x = putI (evAt t0 i o)
theorem PutBy.snoc {t0 : Int} {p : List ByteArray} {L : List Opn} {o : Opn} {x : It} : PutBy t0 p (L ++ [o]) x ↔ PutBy t0 p L x ∨ (o.k = 3 ∧ o.p = p ∧ x = putI (evAt t0 L.length o)) := by
  constructor
  · rintro ⟨i, u, h, h1, h2, h3⟩
    by_cases hi : i < L.length
    · rw [List.getElem?_append_left hi] at h
      exact .inl ⟨i, u, h, h1, h2, h3⟩
    · rw [List.getElem?_append_right (by omega)] at h
      have hz : i - L.length = 0 := by
        rcases Nat.eq_zero_or_pos (i - L.length) with e | e
        · exact e
        · rw [List.getElem?_eq_none (by simp; omega)] at h; cases h
      rw [hz] at h
      simp at h
      subst h
      have : i = L.length := by omega
      subst this
      exact .inr ⟨h1, h2, h3⟩
  · rintro (⟨i, u, h, h1, h2, h3⟩ | ⟨h1, h2, h3⟩)
    · exact ⟨i, u, by rw [List.getElem?_append_left (List.getElem?_eq_some_iff.1 h).1]; exact h, h1, h2, h3⟩
    · exact ⟨L.length, o, by simp, h1, h2, h3⟩
theorem PutBy.dot {t0 : Int} {p : List ByteArray} {L : List Opn} {x : It} (h : PutBy t0 p L x) : x.d.1 = freshA ∧ x.d.2 ≤ L.length := by
  obtain ⟨i, o, h1, _, _, rfl⟩ := h
  have := (List.getElem?_eq_some_iff.1 h1).1
  exact ⟨rfl, by show (i : Int) + 1 ≤ _; omega⟩
structure SetIs (t0 : Int) (p : List ByteArray) (L : List Opn) (g0 g : Lf) : Prop where
  items : ∀ x, x ∈ g.items ↔ (x ∈ g0.items ∧ ¬ dropsP p x.d L) ∨ PutBy t0 p L x
  tombs : ∀ d, d ∈ g.tombs ↔ d ∈ g0.tombs ∨ dropsP p d L
theorem run_set (t0 : Int) (F : Look) (L : List Opn) (p : List ByteArray) (hi : oldDots (dotsOf (base F p 3).items)) (ht : oldDots (base F p 3).tombs) (hd : ∀ d ∈ (base F p 3).tombs, d ∉ dotsOf (base F p 3).items) (hL : ∀ o ∈ L, oldDots o.ds) :
    SetIs t0 p L (base F p 3) (base (runF t0 F L) p 3) := by
  refine snoc_ind (P := fun L => (∀ o ∈ L, oldDots o.ds) → SetIs t0 p L (base F p 3) (base (runF t0 F L) p 3)) ?_ ?_ L hL
  · intro _
    refine ⟨fun x => ?_, fun d => ?_⟩
    · simp [runF, dropsP, PutBy]
    · simp [runF, dropsP]
  · intro L o ih hL
    have ih := ih fun u hu => hL u (by simp [hu])
    have hdr : ∀ d, dropsP p d L → d.1 ≠ freshA := fun d ⟨u, hu, _, _, hm⟩ => hL u (by simp [hu]) d hm
    have hto : ∀ d, d ∈ (base (runF t0 F L) p 3).tombs → d.1 ≠ freshA := fun d h => ((ih.tombs d).1 h).elim (ht d) (hdr d)
    rw [runF_snoc, base_step]
    by_cases hh : p = o.p ∧ (3 : Int) = typeOf o.k
    · rw [if_pos hh]
      rcases type3 hh.2.symm with hk | hk
      · have he : (evAt t0 L.length o).d ∉ (base (runF t0 F L) p 3).tombs := fun h => hto _ h rfl
        have ha : applyP (base (runF t0 F L) p 3) (evAt t0 L.length o) = { base (runF t0 F L) p 3 with items := layP (base (runF t0 F L) p 3).items (putI (evAt t0 L.length o)) } := by
          unfold applyP
          rw [if_neg (show ¬ (evAt t0 L.length o).k = 1 by show ¬ o.k = 1; omega), if_neg (show ¬ (evAt t0 L.length o).k = 2 by show ¬ o.k = 2; omega), if_pos (show (evAt t0 L.length o).k = 3 from hk), if_neg he]
        have hn : (putI (evAt t0 L.length o)).d ∉ dotsOf (base (runF t0 F L) p 3).items := by
          intro h
          obtain ⟨x, hx, hxd⟩ := mem_dotsOf.1 h
          rcases (ih.items x).1 hx with ⟨h1, _⟩ | h1
          · exact hi _ (mem_dotsOf.2 ⟨x, h1, hxd⟩) rfl
          · have := h1.dot.2
            rw [hxd] at this
            have e : (putI (evAt t0 L.length o)).d.2 = (L.length : Int) + 1 := rfl
            rw [e] at this
            omega
        rw [ha]
        refine ⟨fun x => ?_, fun d => ?_⟩
        · show x ∈ layP _ _ ↔ _
          rw [mem_layP, ih.items, PutBy.snoc, dropsP_append, one_drops]
          constructor
          · rintro ((⟨h1, h2⟩ | h1) | ⟨h1, _⟩)
            · exact .inl ⟨h1, fun h => h.elim h2 fun h => by omega⟩
            · exact .inr (.inl h1)
            · exact .inr (.inr ⟨hk, hh.1.symm, h1⟩)
          · rintro (⟨h1, h2⟩ | h1 | ⟨_, _, h1⟩)
            · exact .inl (.inl ⟨h1, fun h => h2 (.inl h)⟩)
            · exact .inl (.inr h1)
            · exact .inr ⟨h1, hn⟩
        · show d ∈ (base (runF t0 F L) p 3).tombs ↔ _
          rw [ih.tombs, dropsP_append, one_drops]
          constructor
          · rintro (h1 | h1)
            · exact .inl h1
            · exact .inr (.inl h1)
          · rintro (h1 | h1 | ⟨h1, _⟩)
            · exact .inl h1
            · exact .inr h1
            · omega
      · have ha : applyP (base (runF t0 F L) p 3) (evAt t0 L.length o) = { base (runF t0 F L) p 3 with tombs := buryAll (base (runF t0 F L) p 3).tombs o.ds, items := leftP (base (runF t0 F L) p 3).items (buryAll (base (runF t0 F L) p 3).tombs o.ds) } := by
          unfold applyP
          rw [if_neg (show ¬ (evAt t0 L.length o).k = 1 by show ¬ o.k = 1; omega), if_neg (show ¬ (evAt t0 L.length o).k = 2 by show ¬ o.k = 2; omega), if_neg (show ¬ (evAt t0 L.length o).k = 3 by show ¬ o.k = 3; omega), if_pos (show (evAt t0 L.length o).k = 4 from hk)]
          rfl
        have hno : ∀ d ∈ o.ds, d.1 ≠ freshA := hL o (by simp)
        rw [ha]
        have htm : ∀ d, d ∈ buryAll (base (runF t0 F L) p 3).tombs o.ds ↔ d ∈ (base F p 3).tombs ∨ dropsP p d (L ++ [o]) := fun d => by
          rw [mem_buryAll, ih.tombs, dropsP_append, one_drops]
          constructor
          · rintro ((h1 | h1) | h1)
            · exact .inl h1
            · exact .inr (.inl h1)
            · exact .inr (.inr ⟨hk, hh.1.symm, h1⟩)
          · rintro (h1 | h1 | ⟨_, _, h1⟩)
            · exact .inl (.inl h1)
            · exact .inl (.inr h1)
            · exact .inr h1
        refine ⟨fun x => ?_, fun d => htm d⟩
        show x ∈ leftP _ _ ↔ _
        unfold leftP
        rw [List.mem_filter, ih.items, decide_eq_true_eq, htm, PutBy.snoc]
        constructor
        · rintro ⟨⟨h1, h2⟩ | h1, h3⟩
          · exact .inl ⟨h1, fun h => h3 (.inr h)⟩
          · exact .inr (.inl h1)
        · rintro (⟨h1, h2⟩ | h1 | ⟨h1, _⟩)
          · refine ⟨.inl ⟨h1, fun h => h2 ((dropsP_append ..).2 (.inl h))⟩, ?_⟩
            rintro (h | h)
            · exact hd _ h (mem_dotsOf.2 ⟨x, h1, rfl⟩)
            · exact h2 h
          · refine ⟨.inr h1, ?_⟩
            rintro (h | h)
            · exact ht _ h h1.dot.1
            · rcases (dropsP_append ..).1 h with h | h
              · exact hdr _ h h1.dot.1
              · exact hno _ ((one_drops ..).1 h).2.2 h1.dot.1
          · omega
    · rw [if_neg hh]
      have hnk : ∀ k, (k = 3 ∨ k = 4) → ¬ (o.k = k ∧ o.p = p) := fun k hk h => hh ⟨h.2.symm, by rw [h.1]; rcases hk with rfl | rfl <;> rfl⟩
      refine ⟨fun x => ?_, fun d => ?_⟩
      · rw [ih.items, PutBy.snoc, dropsP_append, one_drops]
        constructor
        · rintro (⟨h1, h2⟩ | h1)
          · exact .inl ⟨h1, fun h => h.elim h2 fun h => hnk 4 (.inr rfl) ⟨h.1, h.2.1⟩⟩
          · exact .inr (.inl h1)
        · rintro (⟨h1, h2⟩ | h1 | ⟨h1, h2, _⟩)
          · exact .inl ⟨h1, fun h => h2 (.inl h)⟩
          · exact .inr h1
          · exact absurd ⟨h1, h2⟩ (hnk 3 (.inl rfl))
      · rw [ih.tombs, dropsP_append, one_drops]
        constructor
        · rintro (h1 | h1)
          · exact .inl h1
          · exact .inr (.inl h1)
        · rintro (h1 | h1 | ⟨h1, h2, _⟩)
          · exact .inl h1
          · exact .inr h1
          · exact absurd ⟨h1, h2⟩ (hnk 4 (.inr rfl))
theorem puts_text {t0 : Int} {p : List ByteArray} {L : List Opn} {s : ByteArray} : (∃ x, PutBy t0 p L x ∧ x.x = s) ↔ putsP p s L := by
  constructor
  · rintro ⟨x, ⟨i, o, h1, h2, h3, rfl⟩, h4⟩
    exact ⟨o, List.mem_of_getElem? h1, h2, h3, h4⟩
  · rintro ⟨o, h1, h2, h3, h4⟩
    obtain ⟨i, hi⟩ := List.getElem?_of_mem h1
    exact ⟨_, ⟨i, o, hi, h2, h3, rfl⟩, h4⟩
theorem run_log (t0 : Int) (F : Look) (L : List Opn) (p : List ByteArray) (hi : oldDots (dotsOf (base F p 4).items)) (ht : ∀ x ∈ (base F p 4).items, x.t < t0) :
    (base (runF t0 F L) p 4).items.map (·.x) = (base F p 4).items.map (·.x) ++ saysP p L ∧ (∀ x ∈ (base (runF t0 F L) p 4).items, x.t < t0 + L.length ∧ (x.d.1 = freshA → x.d.2 ≤ L.length)) := by
  refine snoc_ind (P := fun L => (base (runF t0 F L) p 4).items.map (·.x) = (base F p 4).items.map (·.x) ++ saysP p L ∧ (∀ x ∈ (base (runF t0 F L) p 4).items, x.t < t0 + L.length ∧ (x.d.1 = freshA → x.d.2 ≤ L.length))) ?_ ?_ L
  · refine ⟨by simp [runF, saysP], fun x hx => ?_⟩
    exact ⟨by have := ht x hx; simpa using this, fun h => absurd h (hi _ (mem_dotsOf.2 ⟨x, hx, rfl⟩))⟩
  · rintro L o ⟨i1, i2⟩
    rw [runF_snoc, base_step, saysP_append, one_says]
    by_cases hh : p = o.p ∧ (4 : Int) = typeOf o.k
    · rw [if_pos hh]
      have hk := type4 hh.2.symm
      have hs : sayX p o = some o.x := by unfold sayX; rw [if_pos ⟨hk, hh.1.symm⟩]
      have hl : layP (base (runF t0 F L) p 4).items (sayI (evAt t0 L.length o)) = (base (runF t0 F L) p 4).items ++ [sayI (evAt t0 L.length o)] := by
        unfold layP
        have hn : (sayI (evAt t0 L.length o)).d ∉ dotsOf (base (runF t0 F L) p 4).items := by
          intro h
          obtain ⟨x, hx, hxd⟩ := mem_dotsOf.1 h
          have := (i2 x hx).2 (by rw [hxd]; rfl)
          rw [hxd] at this
          have e : (sayI (evAt t0 L.length o)).d.2 = (L.length : Int) + 1 := rfl
          rw [e] at this
          omega
        have hall : ∀ y ∈ (base (runF t0 F L) p 4).items, aheadT y.t y.d (sayI (evAt t0 L.length o)).t (sayI (evAt t0 L.length o)).d = true := fun y hy => by
          unfold aheadT
          simp only [Bool.or_eq_true, decide_eq_true_eq]
          exact .inl (i2 y hy).1
        rw [if_neg hn, takeWhile_all hall, dropWhile_all hall]
      have ha : applyP (base (runF t0 F L) p 4) (evAt t0 L.length o) = { base (runF t0 F L) p 4 with items := (base (runF t0 F L) p 4).items ++ [sayI (evAt t0 L.length o)] } := by
        unfold applyP
        rw [if_neg (show ¬ (evAt t0 L.length o).k = 1 by show ¬ o.k = 1; omega), if_neg (show ¬ (evAt t0 L.length o).k = 2 by show ¬ o.k = 2; omega), if_neg (show ¬ (evAt t0 L.length o).k = 3 by show ¬ o.k = 3; omega), if_neg (show ¬ (evAt t0 L.length o).k = 4 by show ¬ o.k = 4; omega), hl]
      rw [ha, hs]
      refine ⟨?_, fun x hx => ?_⟩
      · show List.map _ (_ ++ _) = _
        rw [List.map_append, i1]
        simp [sayI, evAt]
      · rcases List.mem_append.1 hx with hx | hx
        · have := i2 x hx
          refine ⟨by simp; omega, fun h => ?_⟩
          have := this.2 h
          simp; omega
        · simp at hx
          subst hx
          refine ⟨?_, fun _ => ?_⟩
          · show t0 + (L.length : Int) < _; simp; omega
          · show (L.length : Int) + 1 ≤ _; simp
    · rw [if_neg hh]
      have hs : sayX p o = none := by
        unfold sayX
        rw [if_neg]
        rintro ⟨h1, h2⟩
        exact hh ⟨h2.symm, by rw [h1]; rfl⟩
      rw [hs]
      refine ⟨by simpa using i1, fun x hx => ?_⟩
      have := i2 x hx
      refine ⟨by simp; omega, fun h => ?_⟩
      have := this.2 h
      simp; omega
/-- an answer: is there something, a number, texts -/
structure An where
  is : Bool
  n : Int
  l : List ByteArray
noncomputable def askL (k : Int) (g : Option Lf) : An :=
  let x := g.getD (bare k)
  if k = 1 then ⟨g.isSome, x.n, []⟩
  else if k = 2 then ⟨decide (0 < x.t), x.n, if 0 < x.t then [x.x] else []⟩
  else if k = 3 then ⟨g.isSome, x.n, oncesP (x.items.map (·.x))⟩
  else ⟨g.isSome, x.n, x.items.map (·.x)⟩
theorem askL_1 (g : Option Lf) : askL 1 g = ⟨g.isSome, (g.getD (bare 1)).n, []⟩ := by simp [askL]
theorem askL_2 (g : Option Lf) : askL 2 g = ⟨decide (0 < (g.getD (bare 2)).t), (g.getD (bare 2)).n, if 0 < (g.getD (bare 2)).t then [(g.getD (bare 2)).x] else []⟩ := by simp [askL]
theorem askL_3 (g : Option Lf) : askL 3 g = ⟨g.isSome, (g.getD (bare 3)).n, oncesP ((g.getD (bare 3)).items.map (·.x))⟩ := by simp [askL]
theorem askL_4 (g : Option Lf) : askL 4 g = ⟨g.isSome, (g.getD (bare 4)).n, (g.getD (bare 4)).items.map (·.x)⟩ := by simp [askL]
/-- what is asked of the leaves ahead -/
structure OldF (t0 : Int) (F : Look) : Prop where
  may : ∀ p k g, F p k = some g → MayLf g ∧ g.k = k ∧ IntKind.wrap .i64 g.n = g.n ∧ g.t < t0 ∧ (∀ x ∈ g.items, x.t < t0) ∧ oldDots (dotsOf g.items) ∧ oldDots g.tombs
  pos : 1 ≤ t0
theorem OldF.base {t0 : Int} {F : Look} (h : OldF t0 F) (p : List ByteArray) (k : Int) : IntKind.wrap .i64 (base F p k).n = (base F p k).n ∧ (base F p k).t < t0 ∧ (∀ x ∈ (base F p k).items, x.t < t0) ∧ oldDots (dotsOf (base F p k).items) ∧ oldDots (base F p k).tombs ∧ (k = 3 → ∀ d ∈ (base F p k).tombs, d ∉ dotsOf (base F p k).items) := by
  unfold Go.Proofs.YtmabjghjkgicgaaGreat.base
  cases e : F p k with
  | none => exact ⟨by show IntKind.wrap .i64 0 = 0; decide +kernel, h.pos, by simp [bare], by simp [bare, dotsOf, oldDots], by simp [bare, oldDots], by simp [bare]⟩
  | some g =>
    obtain ⟨h1, h2, h3, h4, h5, h6, h7⟩ := h.may p k g e
    refine ⟨h3, h4, h5, h6, h7, fun hk => ?_⟩
    rcases h1 with h1 | h1 | h1 | h1
    · omega
    · omega
    · exact h1.2.2.2.2.2.2
    · omega
theorem run_n (t0 : Int) (F : Look) (L : List Opn) (p : List ByteArray) (k : Int) (hk : k ≠ 1) : (base (runF t0 F L) p k).n = (base F p k).n := by
  refine snoc_ind (P := fun L => (base (runF t0 F L) p k).n = (base F p k).n) ?_ ?_ L
  · rfl
  · intro L o ih
    rw [runF_snoc, base_step]
    by_cases hh : p = o.p ∧ k = typeOf o.k
    · rw [if_pos hh]
      have h1 : ¬ (evAt t0 L.length o).k = 1 := fun e => hk (by rw [hh.2, show o.k = 1 from e]; rfl)
      unfold applyP
      rw [if_neg h1]
      repeat' split
      all_goals exact ih
    · rw [if_neg hh, ih]
/-- THE PLAIN LAW: what operations come to is all that their leaves answer -/
theorem few_ans {t0 : Int} {F : Look} (h : OldF t0 F) {L M : List Opn} (hs : SumEq L M) (hL : ∀ o ∈ L, oldDots o.ds) (hM : ∀ o ∈ M, oldDots o.ds) (p : List ByteArray) {k : Int} (hk : k = 1 ∨ k = 2 ∨ k = 3 ∨ k = 4) :
    askL k (runF t0 F L p k) = askL k (runF t0 F M p k) := by
  obtain ⟨b1, b2, b3, b4, b5, b6⟩ := h.base p k
  have his : (runF t0 F L p k).isSome = (runF t0 F M p k).isSome := by
    rw [Bool.eq_iff_iff, run_has, run_has, hs.has]
  have hx : ∀ G : Look, (G p k).getD (bare k) = base G p k := fun _ => rfl
  rcases hk with rfl | rfl | rfl | rfl
  · rw [askL_1, askL_1]
    simp only [hx, his]
    rw [run_num _ _ _ _ b1, run_num _ _ _ _ b1, hs.adds]
  · rw [askL_2, askL_2]
    simp only [hx]
    obtain ⟨l1, l2, _⟩ := run_text t0 F L p b2 h.pos
    obtain ⟨m1, m2, _⟩ := run_text t0 F M p b2 h.pos
    rw [hs.sets] at l1 l2
    cases e : setsP p M with
    | none => rw [l1 e, m1 e]
    | some x =>
      obtain ⟨l3, l4⟩ := l2 x e
      obtain ⟨m3, m4⟩ := m2 x e
      rw [l3, m3, run_n _ _ _ _ _ (by decide), run_n _ _ _ _ _ (by decide), if_pos (by omega), if_pos (by omega), decide_eq_true (show 0 < (base (runF t0 F L) p 2).t by omega), decide_eq_true (show 0 < (base (runF t0 F M) p 2).t by omega)]
  · rw [askL_3, askL_3]
    simp only [hx, his]
    rw [run_n _ _ _ _ _ (by decide), run_n _ _ _ _ _ (by decide)]
    have l := run_set t0 F L p b4 b5 (b6 rfl) hL
    have m := run_set t0 F M p b4 b5 (b6 rfl) hM
    have key : ∀ {K : List Opn} {g : Lf}, SetIs t0 p K (base F p 3) g → ∀ s, s ∈ g.items.map (·.x) ↔ (∃ x ∈ (base F p 3).items, ¬ dropsP p x.d K ∧ x.x = s) ∨ putsP p s K := fun {K g} hK s => by
      rw [← puts_text (t0 := t0), List.mem_map]
      constructor
      · rintro ⟨x, hx, rfl⟩
        rcases (hK.items x).1 hx with h1 | h1
        · exact .inl ⟨x, h1.1, h1.2, rfl⟩
        · exact .inr ⟨x, h1, rfl⟩
      · rintro (⟨x, h1, h2, h3⟩ | ⟨x, h1, h2⟩)
        · exact ⟨x, (hK.items x).2 (.inl ⟨h1, h2⟩), h3⟩
        · exact ⟨x, (hK.items x).2 (.inr h1), h2⟩
    rw [onces_eq (l := (base (runF t0 F L) p 3).items.map (·.x)) (m := (base (runF t0 F M) p 3).items.map (·.x)) fun s => by rw [key l, key m]; simp only [hs.puts, hs.drops]]
  · rw [askL_4, askL_4]
    simp only [hx, his]
    rw [run_n _ _ _ _ _ (by decide), run_n _ _ _ _ _ (by decide), (run_log t0 F L p b4 b3).1, (run_log t0 F M p b4 b3).1, hs.says]
end Go.Proofs.YtmabjghjkgicgaaGreat
