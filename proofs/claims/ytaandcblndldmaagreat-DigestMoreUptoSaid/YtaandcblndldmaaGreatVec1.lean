/- Maps in memory as plain functions of their keys: made, looked up, written, ranged over. No program in sight. | Keys that are structs of two integers. No program in sight. | Actors as keys; which actors and dots may be; which is ahead: contracts of package dot and of cmp. | dot.compare, dot.Compare. | Maps of numbers by actors; dot.numbers. | maps.Keys over a map keyed by actors; slices.AppendSeq, slices.Collect of it. -/
import Derived.Test.YtaandcblndldmaaGreatBase
import Derived.Maps.OwnOps
import Derived.Maps.RangeWalk
import Derived.Sort.MapsRangeIn
import Derived.DeepKeys5
import Derived.Test.YtaandcblndldmaaGreatDotP
import Derived.Sort.Grow
import Derived.RangeFuncNested
import Derived.RangeFuncBound
import Derived.RangeFuncCalls
import Derived.RangeFuncLeaves
import Derived.Shelf.Abstract
import Derived.Shelf.RegionOpen
import Derived.OwnWalkIn
import Derived.TacticsInMore
import Derived.LoopNIn
import Derived.LoopIn
/- MapA -/
namespace Go.Proofs.YtaandcblndldmaaGreat
open Go.RowKit
open Go.Maps (Keyed)
set_option linter.unusedVariables false
set_option linter.unusedSimpArgs false

/-- an element of whatever type, held as it is -/
def heldE (v : Value) : Option (DataW Value × List MemPlace) := some (.held v, [])

section
variable {α : Type} {P : Program} {k : TypeId} {mk : α → Value} {w : World} {b n : Nat} {f : α → Option Value}

/-- what keys are -/
structure KeyAs (P : Program) (k : TypeId) (mk : α → Value) : Prop where
  law : Keyed P k
  form : ∀ v l, keyOf P k v = some l → ∃ a, v = mk a
  inj : ∀ a b, mk a = mk b → a = b

/-- the datum D holds f -/
def HoldsF (P : Program) (k : TypeId) (mk : α → Value) (D : DataW Value) (f : α → Option Value) : Prop :=
  Maps.IsMap D ∧ ∀ a l, keyOf P k (mk a) = some l → Maps.has D l = (f a).isSome ∧ ∀ v, f a = some v → ∀ z, D.atKey l z = .held v

/-- block b is a map of at most n keys that holds f -/
def MapF (w : World) (P : Program) (k : TypeId) (mk : α → Value) (b n : Nat) (f : α → Option Value) : Prop :=
  ∃ D : DataW Value, w.ownsMap P k heldE b n D ∧ HoldsF P k mk D f

theorem MapF.made (w : World) : MapF (w.alloc (.map #[] 0)) P k mk w.heap.size 0 (fun _ => none) :=
  ⟨.map [], World.ownsMap_made w P k heldE, ⟨[], rfl⟩, fun a l _ => ⟨rfl, fun v h => by cases h⟩⟩
theorem MapF.lt (h : MapF w P k mk b n f) : b < w.heap.size := by obtain ⟨D, h, _⟩ := h; exact h.lt
theorem MapF.chg {F : List Nat} {w' : World} (h : MapF w P k mk b n f) (hc : Chg F w w') (hb : b ∉ F) : MapF w' P k mk b n f := by
  obtain ⟨D, ⟨es, clock, h1, h2⟩, h3⟩ := h
  exact ⟨D, ⟨es, clock, heap_chg h1 hc hb, h2⟩, h3⟩
theorem MapF.below {w' : World} (h : MapF w P k mk b n f) (hb : Below w.heap.size w w') : MapF w' P k mk b n f := h.chg (F := []) (Chg.of_below hb) (by simp)
theorem MapF.alloc (h : MapF w P k mk b n f) (o : Obj) : MapF (w.alloc o) P k mk b n f := h.chg (F := []) (Chg.alloc _ _ _) (by simp)
theorem MapF.look {t e : TypeId} (h : MapF w P k mk b n f) (K : KeyAs P k mk) (ht : P.underlying t = some (.map k e)) {z : Value} (hz : (zeroValue e).run P w = .ok z w) {a : α} {l : Lit} (hk : keyOf P k (mk a) = some l) :
    (Instr.lookup t (.map (some b)) (mk a) false).run P w = .ok ((f a).getD z) w := by
  obtain ⟨D, h1, h2, h3⟩ := h
  obtain ⟨v, ps, hr, hv⟩ := h1.lookup K.law ht hz (zd := .held z) (zp := []) rfl hk
  obtain ⟨h4, h5⟩ := h3 a l hk
  have hv' : D.atKey l (.held z) = .held v := by simp [heldE] at hv; exact hv.1.symm
  rw [hr]
  cases hf : f a with
  | none =>
    rw [hf] at h4
    rw [Maps.atKey_of_not_has h4] at hv'
    injection hv' with e
    subst e; rfl
  | some u =>
    rw [h5 u hf] at hv'
    injection hv' with e
    subst e; rfl

theorem MapF.update [DecidableEq α] {t e : TypeId} (h : MapF w P k mk b n f) (K : KeyAs P k mk) (ht : P.underlying t = some (.map k e)) (hn : n < maxLen) {a : α} {l : Lit} (hk : keyOf P k (mk a) = some l) (val : Value) :
    ∃ w', (Instr.mapUpdate t (.map (some b)) (mk a) val).run P w = .ok () w' ∧ MapF w' P k mk b (n + 1) (fun x => if x = a then some val else f x) ∧ w.grownBy w' (some b) := by
  obtain ⟨D, h1, h2, h3⟩ := h
  obtain ⟨w', hr, ho, hg⟩ := h1.update K.law ht hn hk (d := .held val) (ps := []) rfl
  refine ⟨w', hr, ⟨D.put l (.held val), ho, h2.put _ _, fun x lx hx => ?_⟩, hg⟩
  dsimp only
  by_cases e : x = a
  · subst e
    rw [hk] at hx
    cases hx
    rw [if_pos rfl]
    exact ⟨Maps.has_put_same h2 (K.law.key hk) _, fun v hv z => by cases hv; exact Maps.atKey_put_same h2 (K.law.key hk) _ _⟩
  · rw [if_neg e]
    have hne : lx ≠ l := fun e' => e (K.inj _ _ (K.law.inj hx (e' ▸ hk)))
    obtain ⟨h4, h5⟩ := h3 x lx hx
    exact ⟨(Maps.has_put_other hne _).trans h4, fun v hv z => (Maps.atKey_put_other hne _ _).trans (h5 v hv z)⟩

/-- 'for .. range m' under way: which keys are still to come, how many -/
def RangeF (w : World) (P : Program) (k : TypeId) (mk : α → Value) (b r n : Nat) (f : α → Option Value) (left : α → Bool) (cnt : Nat) : Prop :=
  ∃ (D : DataW Value) (L : Lit → Bool), w.ranges P k heldE b r n D L cnt ∧ HoldsF P k mk D f ∧ ∀ a l, keyOf P k (mk a) = some l → left a = L l
theorem RangeF.left_eq {r : Nat} {left : α → Bool} {cnt : Nat} (h : RangeF w P k mk b r n f left cnt) : w.rangeLeft b r = cnt := by
  obtain ⟨D, L, h1, _⟩ := h
  exact h1.left_eq
theorem RangeF.lt {r : Nat} {left : α → Bool} {cnt : Nat} (h : RangeF w P k mk b r n f left cnt) : r < w.heap.size := by
  obtain ⟨D, L, h1, _⟩ := h
  exact h1.lt
theorem RangeF.chg {F : List Nat} {w' : World} {r : Nat} {left : α → Bool} {cnt : Nat} (h : RangeF w P k mk b r n f left cnt) (hc : Chg F w w') (hb : b ∉ F) (hr : r ∉ F) : RangeF w' P k mk b r n f left cnt := by
  obtain ⟨D, L, ⟨es, clock, since, seen, c0, h1, h2, h3, h4, h5, h6⟩, h7, h8⟩ := h
  exact ⟨D, L, ⟨es, clock, since, seen, c0, heap_chg h1 hc hb, h2, h3, h4, heap_chg h5 hc hr, h6⟩, h7, h8⟩

theorem size_le {D : DataW Value} (h : w.ownsMap P k heldE b n D) : Maps.size D ≤ n := by
  obtain ⟨es, clock, h1, h2, h3, rfl⟩ := h
  show ((es.toList.map _).foldr DataW.insert []).length ≤ n
  rw [length_sorted]; simpa using h3

theorem MapF.range (h : MapF w P k mk b n f) (K : KeyAs P k mk) {t e : TypeId} (ht : P.underlying t = some (.map k e)) :
    ∃ w' cnt, (Instr.range t (.map (some b))).run P w = .ok (.pointer (some ⟨w.heap.size, 0, none⟩)) w' ∧ RangeF w' P k mk b w.heap.size n f (fun a => (f a).isSome) cnt ∧ cnt ≤ n ∧ w.grownBy w' none ∧ w'.heap.size = w.heap.size + 1 := by
  obtain ⟨D, h1, h2, h3⟩ := h
  obtain ⟨w', hr, g1, g2, g3⟩ := h1.range K.law ht
  exact ⟨w', _, hr, ⟨D, _, g1, ⟨h2, h3⟩, fun a l hl => (h3 a l hl).1.symm⟩, size_le h1, g2, g3⟩

theorem RangeF.next [DecidableEq α] {r : Nat} {left : α → Bool} {cnt : Nat} (h : RangeF w P k mk b r n f left cnt) (K : KeyAs P k mk) (ty : TypeId) :
    (cnt = 0 ∧ (∀ a l, keyOf P k (mk a) = some l → left a = false) ∧ (Instr.next (.pointer (some ⟨r, 0, none⟩)) false ty).run P w = .ok (.tuple #[.bool false]) w) ∨
    ∃ x v l w' cnt', keyOf P k (mk x) = some l ∧ left x = true ∧ f x = some v ∧ (Instr.next (.pointer (some ⟨r, 0, none⟩)) false ty).run P w = .ok (.tuple #[.bool true, mk x, v]) w' ∧
      RangeF w' P k mk b r n f (fun y => left y && !decide (y = x)) cnt' ∧ cnt' < cnt ∧ w.grownBy w' (some r) ∧ w'.heap.size = w.heap.size ∧ (Instr.entry (.pointer (some ⟨r, 0, none⟩))).run P w' = .ok (.tuple #[mk x, v]) w' := by
  obtain ⟨D, L, h1, h2, h3⟩ := h
  rcases h1.next K.law ty with ⟨h0, hl, hrun⟩ | ⟨key, v, kl, y, w', cnt', hkey, hlk, hv, hat, hrun, hrg, hlt, hgr, hsz, hen⟩
  · exact .inl ⟨h0, fun a l ha => (h3 a l ha).trans (hl l), hrun⟩
  · obtain ⟨x, rfl⟩ := K.form key kl hkey
    obtain ⟨h4, h5⟩ := h2.2 x kl hkey
    have hat' := hat (.held undef)
    have hvy : y.1 = .held v := by simp [heldE] at hv; rw [← hv]
    rw [hvy] at hat'
    have hfx : f x = some v := by
      cases hf : f x with
      | none =>
        rw [hf] at h4
        have h6 := hat (.lit (.int .i64 0))
        rw [Maps.atKey_of_not_has h4, hvy] at h6
        cases h6
      | some u => rw [h5 u hf] at hat'; injection hat' with e; rw [e]
    refine .inr ⟨x, v, kl, w', cnt', hkey, (h3 x kl hkey).trans hlk, hfx, hrun, ⟨D, _, hrg, h2, fun a l ha => ?_⟩, hlt, hgr, hsz, hen⟩
    dsimp only
    rw [h3 a l ha]
    congr 1
    by_cases e : a = x
    · subst e
      rw [hkey] at ha
      cases ha
      rw [WideAt.sameKey_self (K.law.key hkey)]; simp
    · have hne : l ≠ kl := fun e' => e (K.inj _ _ (K.law.inj ha (e' ▸ hkey)))
      rw [Maps.sameKey_ne hne]; simp [e]
end

section
variable {α : Type} {P : Program} {k : TypeId} {mk : α → Value} {w : World} {ops : Array Oper} {rest : List Oper} {o : Oper} {a : Act} {Q : Exit → Act → World → Prop}
theorem wpList_look_F (K : KeyAs P k mk) (hg : o.guard = none) (m x : Operand) (t : TypeId) (hop : o.op = Op.lookup t m x false) (e : TypeId) (ht : P.underlying t = some (.map k e)) (z : Value) (hz : ∀ w, (zeroValue e).run P w = .ok z w) (b n : Nat) (f : α → Option Value)
    (hm : a.eval m = .map (some b)) (h : MapF w P k mk b n f) (c : α) (l : Lit) (hx : a.eval x = mk c) (hk : keyOf P k (mk c) = some l)
    (hK : wpList P ops Q rest (a.put o.dst ((f c).getD z)) w) : wpList P ops Q (o :: rest) a w := by
  refine wpList_plain hg fun K' hK' => ?_
  unfold Oper.wp
  simp [execOp, hop, hm, hx, h.look K ht (hz w) hk, Result.andThen]
  exact hK' _ _ hK
theorem wpList_update_F [DecidableEq α] (K : KeyAs P k mk) (hg : o.guard = none) (m x v : Operand) (t : TypeId) (hop : o.op = Op.mapUpdate t m x v) (e : TypeId) (ht : P.underlying t = some (.map k e)) (b n : Nat) (f : α → Option Value)
    (hm : a.eval m = .map (some b)) (h : MapF w P k mk b n f) (hn : n < maxLen) (c : α) (l : Lit) (val : Value) (hx : a.eval x = mk c) (hv : a.eval v = val) (hk : keyOf P k (mk c) = some l)
    (hK : ∀ w', MapF w' P k mk b (n + 1) (fun x => if x = c then some val else f x) → w.grownBy w' (some b) → wpList P ops Q rest (a.put o.dst undef) w') : wpList P ops Q (o :: rest) a w := by
  refine wpList_plain hg fun K' hK' => ?_
  obtain ⟨w', hrun, r1, r2⟩ := h.update K ht hn hk val
  unfold Oper.wp
  simp [execOp, hop, hm, hx, hv, hrun, Result.andThen]
  exact hK' _ _ (hK w' r1 r2)
theorem wpList_range_F (K : KeyAs P k mk) (hg : o.guard = none) (m : Operand) (t : TypeId) (hop : o.op = Op.range t m) (e : TypeId) (ht : P.underlying t = some (.map k e)) (b n : Nat) (f : α → Option Value)
    (hm : a.eval m = .map (some b)) (h : MapF w P k mk b n f)
    (hK : ∀ w' cnt, RangeF w' P k mk b w.heap.size n f (fun a => (f a).isSome) cnt → cnt ≤ n → w.grownBy w' none → w'.heap.size = w.heap.size + 1 → wpList P ops Q rest (a.put o.dst (.pointer (some ⟨w.heap.size, 0, none⟩))) w') : wpList P ops Q (o :: rest) a w := by
  refine wpList_plain hg fun K' hK' => ?_
  obtain ⟨w', cnt, hrun, r1, r2, r3, r4⟩ := h.range K ht
  unfold Oper.wp
  simp [execOp, hop, hm, hrun, Result.andThen]
  exact hK' _ _ (hK w' cnt r1 r2 r3 r4)
theorem wpList_next_F [DecidableEq α] (K : KeyAs P k mk) (hg : o.guard = none) (it : Operand) (hop : o.op = Op.next it false) (b r n : Nat) (f : α → Option Value) (left : α → Bool) (cnt : Nat)
    (hit : a.eval it = .pointer (some ⟨r, 0, none⟩)) (h : RangeF w P k mk b r n f left cnt)
    (hDone : cnt = 0 → (∀ a l, keyOf P k (mk a) = some l → left a = false) → wpList P ops Q rest (a.put o.dst (.tuple #[.bool false])) w)
    (hMore : ∀ x v l w' cnt', keyOf P k (mk x) = some l → left x = true → f x = some v → RangeF w' P k mk b r n f (fun y => left y && !decide (y = x)) cnt' → cnt' < cnt → w.grownBy w' (some r) → w'.heap.size = w.heap.size →
      (Instr.entry (.pointer (some ⟨r, 0, none⟩))).run P w' = .ok (.tuple #[mk x, v]) w' → wpList P ops Q rest (a.put o.dst (.tuple #[.bool true, mk x, v])) w') : wpList P ops Q (o :: rest) a w := by
  refine wpList_plain hg fun K' hK' => ?_
  unfold Oper.wp
  rcases h.next K o.type with ⟨h0, hl, hrun⟩ | ⟨x, v, l, w', cnt', h1, h2, h3, hrun, h4⟩
  · simp [execOp, hop, hit, hrun, Result.andThen]
    exact hK' _ _ (hDone h0 hl)
  · simp [execOp, hop, hit, hrun, Result.andThen]
    exact hK' _ _ (hMore x v l w' cnt' h1 h2 h3 h4.1 h4.2.1 h4.2.2.1 h4.2.2.2.1 h4.2.2.2.2)

variable {F : Fence} {nf : Nat}
theorem wpListIn_range_F (K : KeyAs P k mk) (hg : o.guard = none) (m : Operand) (t : TypeId) (hop : o.op = Op.range t m) (e : TypeId) (ht : P.underlying t = some (.map k e)) (b n : Nat) (f : α → Option Value)
    (hm : a.eval m = .map (some b)) (h : MapF w P k mk b n f)
    (hK : ∀ w' cnt, RangeF w' P k mk b w.heap.size n f (fun a => (f a).isSome) cnt → cnt ≤ n → w.grownBy w' none → w'.heap.size = w.heap.size + 1 → wpListIn F nf P ops Q rest (a.put o.dst (.pointer (some ⟨w.heap.size, 0, none⟩))) w') : wpListIn F nf P ops Q (o :: rest) a w := by
  refine wpListIn_plain hg fun K' hK' => ?_
  obtain ⟨w', cnt, hrun, r1, r2, r3, r4⟩ := h.range K ht
  unfold Oper.wpIn
  refine ⟨?_, ?_⟩
  · simp [Oper.about, hop]
  · rw [Oper.semAt_plain F _ _ (by rw [hop]; intro c hc'; cases hc')]
    simp [execOp, hop, hm, hrun, Result.andThen]
    exact hK' _ _ (hK w' cnt r1 r2 r3 r4)
theorem wpListIn_next_F [DecidableEq α] (K : KeyAs P k mk) (hg : o.guard = none) (it : Operand) (hop : o.op = Op.next it false) (b r n : Nat) (f : α → Option Value) (left : α → Bool) (cnt : Nat)
    (hit : a.eval it = .pointer (some ⟨r, 0, none⟩)) (h : RangeF w P k mk b r n f left cnt)
    (hDone : cnt = 0 → (∀ a l, keyOf P k (mk a) = some l → left a = false) → wpListIn F nf P ops Q rest (a.put o.dst (.tuple #[.bool false])) w)
    (hMore : ∀ x v l w' cnt', keyOf P k (mk x) = some l → left x = true → f x = some v → RangeF w' P k mk b r n f (fun y => left y && !decide (y = x)) cnt' → cnt' < cnt → w.grownBy w' (some r) → w'.heap.size = w.heap.size →
      (Instr.entry (.pointer (some ⟨r, 0, none⟩))).run P w' = .ok (.tuple #[mk x, v]) w' → wpListIn F nf P ops Q rest (a.put o.dst (.tuple #[.bool true, mk x, v])) w') : wpListIn F nf P ops Q (o :: rest) a w := by
  refine wpListIn_plain hg fun K' hK' => ?_
  unfold Oper.wpIn
  refine ⟨by simp [Oper.about, hop], ?_⟩
  rw [Oper.semAt_plain F _ _ (by rw [hop]; intro c hc'; cases hc')]
  rcases h.next K o.type with ⟨h0, hl, hrun⟩ | ⟨x, v, l, w', cnt', h1, h2, h3, hrun, h4⟩
  · simp [execOp, hop, hit, hrun, Result.andThen]
    exact hK' _ _ (hDone h0 hl)
  · simp [execOp, hop, hit, hrun, Result.andThen]
    exact hK' _ _ (hMore x v l w' cnt' h1 h2 h3 h4.1 h4.2.1 h4.2.2.1 h4.2.2.2.1 h4.2.2.2.2)
end
end Go.Proofs.YtaandcblndldmaaGreat

/- MapB -/
namespace Go.Proofs.YtaandcblndldmaaGreat
open Go.RowKit
set_option linter.unusedVariables false
set_option linter.unusedSimpArgs false
theorem wf8 (r : Int) : (Lit.int .u8 r).wf = true ↔ 0 ≤ r ∧ r ≤ 255 := by simp [Lit.wf, IntKind.min, IntKind.max, IntKind.signed, IntKind.bits]
theorem wf32 (r : Int) : (Lit.int .u32 r).wf = true ↔ 0 ≤ r ∧ r ≤ 4294967295 := by simp [Lit.wf, IntKind.min, IntKind.max, IntKind.signed, IntKind.bits]
theorem wf64 (r : Int) : (Lit.int .u64 r).wf = true ↔ 0 ≤ r ∧ r ≤ 18446744073709551615 := by simp [Lit.wf, IntKind.min, IntKind.max, IntKind.signed, IntKind.bits]
section
variable {P : Program}
def litOf (q : IntKind) (v : Value) : Option (List Lit) :=
  match v with
  | .int q' n => if q' = q ∧ (Lit.int q n).wf = true then some [.int q n] else none
  | _ => none
theorem keyLits_one {d : Nat} {t : TypeId} {q : IntKind} (hu : P.underlying t = some (.int q)) (v : Value) : P.keyLits (d + 1) t [v] = litOf q v := by
  unfold Program.keyLits litOf
  rw [hu]
  cases v <;> rfl
theorem litOf_some {q : IntKind} {v : Value} {L : List Lit} (h : litOf q v = some L) : ∃ n, v = .int q n ∧ (Lit.int q n).wf = true := by
  unfold litOf at h
  split at h
  · split at h
    · rename_i hc; obtain ⟨rfl, hw⟩ := hc; exact ⟨_, rfl, hw⟩
    · cases h
  · cases h
theorem keyLits_two {d : Nat} {k : TypeId} {f0 f1 : Field} {q0 q1 : IntKind} (hu : P.underlying k = some (.struct #[f0, f1])) (n0 : (f0.name != "_") = true) (n1 : (f1.name != "_") = true) (o0 : f0.offset = 0) (o1 : f1.offset = 1)
    (c : P.cellsOf k = 2) (c0 : P.cellsOf f0.type = 1) (c1 : P.cellsOf f1.type = 1) (u0 : P.underlying f0.type = some (.int q0)) (u1 : P.underlying f1.type = some (.int q1)) (x y : Value) :
    P.keyLits (d + 2) k [x, y] = (litOf q0 x).bind fun a => (litOf q1 y).map fun b => a ++ b := by
  rw [show d + 2 = (d + 1) + 1 from rfl]
  unfold Program.keyLits
  rw [hu]
  simp only [c, List.length_cons, List.length_nil, Nat.zero_add, Nat.reduceAdd, true_and]
  rw [if_pos (by simp [n0, n1])]
  simp only [List.mapM_cons, List.mapM_nil, o0, o1, c0, c1, List.drop_zero, List.drop_succ_cons, List.take_succ_cons, List.take_zero, keyLits_one u0, keyLits_one u1]
  cases litOf q0 x <;> cases litOf q1 y <;> simp
theorem key2_form {k : TypeId} {f0 f1 : Field} {q0 q1 : IntKind} (hu : P.underlying k = some (.struct #[f0, f1])) (n0 : (f0.name != "_") = true) (n1 : (f1.name != "_") = true) (o0 : f0.offset = 0) (o1 : f1.offset = 1)
    (c : P.cellsOf k = 2) (c0 : P.cellsOf f0.type = 1) (c1 : P.cellsOf f1.type = 1) (u0 : P.underlying f0.type = some (.int q0)) (u1 : P.underlying f1.type = some (.int q1)) (hs : 1 ≤ P.types.size) (v : Value) (l : Lit) (h : keyOf P k v = some l) :
    ∃ a b, v = .agg #[.int q0 a, .int q1 b] ∧ (Lit.int q0 a).wf = true ∧ (Lit.int q1 b).wf = true := by
  obtain ⟨xs, L, rfl, hL, _⟩ := keyOf_top (by rw [hu]) h
  have hlen : xs.toList.length = 2 := by
    have h' := hL
    unfold Program.keyLits at h'
    rw [hu] at h'
    simp only [c] at h'
    split at h'
    · rename_i hc; exact hc.1
    · cases h'
  obtain ⟨d, hd⟩ : ∃ d, P.types.size = d + 1 := ⟨P.types.size - 1, by omega⟩
  rw [hd] at hL
  obtain ⟨l⟩ := xs
  match l, hlen with
  | [x, y], _ =>
    have h2 : P.keyLits (d + 2) k [x, y] = some L := hL
    rw [keyLits_two hu n0 n1 o0 o1 c c0 c1 u0 u1] at h2
    cases h0 : litOf q0 x with
    | none => rw [h0] at h2; cases h2
    | some A =>
      rw [h0] at h2
      cases h1 : litOf q1 y with
      | none => rw [h1] at h2; cases h2
      | some B =>
        obtain ⟨a, rfl, ha⟩ := litOf_some h0
        obtain ⟨b, rfl, hb⟩ := litOf_some h1
        exact ⟨a, b, rfl, ha, hb⟩
theorem key2_ok {k : TypeId} {f0 f1 : Field} {q0 q1 : IntKind} (hu : P.underlying k = some (.struct #[f0, f1])) (n0 : (f0.name != "_") = true) (n1 : (f1.name != "_") = true) (o0 : f0.offset = 0) (o1 : f1.offset = 1)
    (c : P.cellsOf k = 2) (c0 : P.cellsOf f0.type = 1) (c1 : P.cellsOf f1.type = 1) (u0 : P.underlying f0.type = some (.int q0)) (u1 : P.underlying f1.type = some (.int q1)) (hs : 1 ≤ P.types.size) (hk : P.keyType k = true) {a b : Int} (ha : (Lit.int q0 a).wf = true) (hb : (Lit.int q1 b).wf = true) :
    ∃ l, keyOf P k (.agg #[.int q0 a, .int q1 b]) = some l := by
  obtain ⟨d, hd⟩ : ∃ d, P.types.size = d + 1 := ⟨P.types.size - 1, by omega⟩
  have h2 := keyLits_two (d := d) hu n0 n1 o0 o1 c c0 c1 u0 u1 (.int q0 a) (.int q1 b)
  have hf : (Value.agg #[.int q0 a, .int q1 b]).formed P k = true := by simp [Value.formed, hu, c]
  have hl : (Value.agg #[.int q0 a, .int q1 b]).cells.toList = [.int q0 a, .int q1 b] := by simp [Value.cells]
  unfold keyOf
  rw [hu]
  simp only [hk, hf, hl, hd, Bool.and_self, if_true]
  rw [show d + 1 + 1 = d + 2 from rfl, h2]
  simp [litOf, ha, hb]
end
end Go.Proofs.YtaandcblndldmaaGreat

/- DotA -/
namespace Go.Proofs.YtaandcblndldmaaGreat
open Go.RowKit
set_option linter.unusedVariables false
set_option linter.unusedSimpArgs false

theorem mixed : Tryz.prog.follows .mixedOrders = true := by kernel_rfl
theorem laidOutP : laidOutB Tryz.prog = true := by kernel_rfl
def mkA (a : Ac) : Value := .agg #[.int .u8 a.1, .int .u32 a.2]
theorem mkA_inj (a b : Ac) (h : mkA a = mkA b) : a = b := by
  obtain ⟨r, i⟩ := a
  obtain ⟨r', i'⟩ := b
  simp [mkA] at h
  exact Prod.ext h.1 h.2
theorem keyedA : Maps.Keyed Tryz.prog 24 := Maps.Keyed.of_law (deep_law_gate laidOutP (of_decide_eq_true (by kernel_rfl)) (of_decide_eq_true (by kernel_rfl)) (by kernel_rfl) (by kernel_rfl))
theorem keyA_form (v : Value) (l : Lit) (h : keyOf Tryz.prog 24 v = some l) : ∃ a, v = mkA a ∧ okA a := by
  obtain ⟨r, i, rfl, h1, h2⟩ := key2_form Tryz.underlying24 (by decide) (by decide) rfl rfl (by kernel_rfl) (by kernel_rfl) (by kernel_rfl) Tryz.underlying5 Tryz.underlying22 (of_decide_eq_true (by kernel_rfl)) v l h
  exact ⟨(r, i), rfl, (wf8 r).1 h1, (wf32 i).1 h2⟩
theorem keyA_ok {a : Ac} (h : okA a) : ∃ l, keyOf Tryz.prog 24 (mkA a) = some l :=
  key2_ok Tryz.underlying24 (by decide) (by decide) rfl rfl (by kernel_rfl) (by kernel_rfl) (by kernel_rfl) Tryz.underlying5 Tryz.underlying22 (of_decide_eq_true (by kernel_rfl)) (by kernel_rfl) ((wf8 a.1).2 h.1) ((wf32 a.2).2 h.2)
theorem keyA_inv {a : Ac} {l : Lit} (h : keyOf Tryz.prog 24 (mkA a) = some l) : okA a := by
  obtain ⟨b, hb, hok⟩ := keyA_form _ _ h
  rw [mkA_inj _ _ hb]; exact hok
theorem keysA : KeyAs Tryz.prog 24 mkA := ⟨keyedA, fun v l h => by obtain ⟨a, ha, _⟩ := keyA_form v l h; exact ⟨a, ha⟩, mkA_inj⟩

/-! which may be -/
theorem mayActor_any (r i : Int) (w : World) : Calls Tryz.prog 91 #[.agg #[.int .u8 r, .int .u32 i]] w fun e w' => e = .returned (.bool (mayA (r, i))) ∧ Below w.heap.size w w' := by
  have hB : ∀ o, Below w.heap.size w (w.alloc o) := fun o => (Below.refl _ _).alloc (Nat.le_refl _) _
  by_cases h1 : r < 16
  · by_cases h2 : 1 ≤ i
    · by_cases h3 : i ≤ 4
      · have e : mayA (r, i) = true := by simp [mayA, h1, h2, h3]
        rw [e]
        clear e
        go_enter Tryz.func91, Tryz.ntmps91
        go_wp2
        go_ret
        exact ⟨rfl, hB _⟩
      · have e : mayA (r, i) = false := by simp [mayA, h1, h2, h3] <;> omega
        rw [e]
        clear e
        go_enter Tryz.func91, Tryz.ntmps91
        go_wp2
        go_ret
        exact ⟨rfl, hB _⟩
    · have e : mayA (r, i) = false := by simp [mayA, h1, h2] <;> omega
      rw [e]
      clear e
      go_enter Tryz.func91, Tryz.ntmps91
      go_wp2
      go_ret
      exact ⟨rfl, hB _⟩
  · have e : mayA (r, i) = false := by simp [mayA, h1] <;> omega
    rw [e]
    clear e
    go_enter Tryz.func91, Tryz.ntmps91
    go_wp2
    go_ret
    exact ⟨rfl, hB _⟩

theorem may_any (r i s : Int) (w : World) : Calls Tryz.prog 129 #[.agg #[.int .u8 r, .int .u32 i, .int .u64 s]] w fun e w' => e = .returned (.bool (may ((r, i), s))) ∧ Below w.heap.size w w' := by
  have hm : ∀ b, mayA (r, i) = b → Calls Tryz.prog 91 #[.agg #[.int .u8 r, .int .u32 i]] (w.alloc (.cells #[.int .u8 r, .int .u32 i, .int .u64 s] 49)) fun e w' => e = .returned (.bool b) ∧ Below w.heap.size w w' ∧ (∀ j, w'.cell? ⟨w.heap.size, j, none⟩ = #[Value.int .u8 r, .int .u32 i, .int .u64 s][j]?) := by
    intro b hb
    refine (mayActor_any r i _).mono ?_
    rintro e w' ⟨rfl, hbl⟩
    obtain ⟨h1, h2, h3⟩ := new1 hbl
    rw [hb]
    exact ⟨rfl, h3, cells_at h1⟩
  cases hA : mayA (r, i) with
  | false =>
    have hm' := hm _ hA
    have e : may ((r, i), s) = false := by simp [may, hA]
    rw [e]
    clear e hm hA
    go_enter Tryz.func129, Tryz.ntmps129
    go_wp2_with (go_at_call 91; refine hm'.mono ?_; rintro e w' ⟨rfl, hb, hc⟩)
    go_ret
    exact ⟨rfl, hb⟩
  | true =>
    have hm' := hm _ hA
    clear hm
    by_cases h1 : 1 ≤ s
    · by_cases h2 : s ≤ 1048576
      · have e : may ((r, i), s) = true := by simp [may, hA, h1, h2]
        rw [e]
        clear e hA
        go_enter Tryz.func129, Tryz.ntmps129
        go_wp2_with (go_at_call 91; refine hm'.mono ?_; rintro e w' ⟨rfl, hb, hc⟩)
        go_ret
        exact ⟨rfl, hb⟩
      · have e : may ((r, i), s) = false := by simp [may, hA, h1, h2] <;> omega
        have h2' : decide (s ≤ 1048576) = false := by simpa using h2
        rw [e]
        clear e hA
        go_enter Tryz.func129, Tryz.ntmps129
        go_wp2_with (go_at_call 91; refine hm'.mono ?_; rintro e w' ⟨rfl, hb, hc⟩)
        go_ret
        exact ⟨rfl, hb⟩
    · have e : may ((r, i), s) = false := by simp [may, hA, h1] <;> omega
      rw [e]
      clear e hA
      go_enter Tryz.func129, Tryz.ntmps129
      go_wp2_with (go_at_call 91; refine hm'.mono ?_; rintro e w' ⟨rfl, hb, hc⟩)
      go_ret
      exact ⟨rfl, hb⟩

/-! which is ahead -/
def cmpI (x y : Int) : Int := if x < y then -1 else if y < x then 1 else 0
def orI : List Int → Int
  | [] => 0
  | x :: xs => if x = 0 then orI xs else x
def cmpA (a b : Ac) : Int := orI [cmpI a.1 b.1, cmpI a.2 b.2]
theorem cmpu8 (x y : Int) (w : World) : Calls Tryz.prog 127 #[.int .u8 x, .int .u8 y] w fun e w' => e = .returned (.int .i64 (cmpI x y)) ∧ w = w' := by
  by_cases h1 : x < y
  · have e : cmpI x y = -1 := by simp [cmpI, h1]
    rw [e]
    clear e
    go_enter Tryz.func127, Tryz.ntmps127
    go_wp2
    go_ret
    exact ⟨rfl, rfl⟩
  · by_cases h2 : y < x
    · have e : cmpI x y = 1 := by simp [cmpI, h1, h2]
      rw [e]
      clear e
      go_enter Tryz.func127, Tryz.ntmps127
      go_wp2
      go_ret
      exact ⟨rfl, rfl⟩
    · have e : cmpI x y = 0 := by simp [cmpI, h1, h2]
      rw [e]
      clear e
      go_enter Tryz.func127, Tryz.ntmps127
      go_wp2
      go_ret
      exact ⟨rfl, rfl⟩
theorem cmpu32 (x y : Int) (w : World) : Calls Tryz.prog 128 #[.int .u32 x, .int .u32 y] w fun e w' => e = .returned (.int .i64 (cmpI x y)) ∧ w = w' := by
  by_cases h1 : x < y
  · have e : cmpI x y = -1 := by simp [cmpI, h1]
    rw [e]
    clear e
    go_enter Tryz.func128, Tryz.ntmps128
    go_wp2
    go_ret
    exact ⟨rfl, rfl⟩
  · by_cases h2 : y < x
    · have e : cmpI x y = 1 := by simp [cmpI, h1, h2]
      rw [e]
      clear e
      go_enter Tryz.func128, Tryz.ntmps128
      go_wp2
      go_ret
      exact ⟨rfl, rfl⟩
    · have e : cmpI x y = 0 := by simp [cmpI, h1, h2]
      rw [e]
      clear e
      go_enter Tryz.func128, Tryz.ntmps128
      go_wp2
      go_ret
      exact ⟨rfl, rfl⟩
theorem cmpu64 (x y : Int) (w : World) : Calls Tryz.prog 88 #[.int .u64 x, .int .u64 y] w fun e w' => e = .returned (.int .i64 (cmpI x y)) ∧ w = w' := by
  by_cases h1 : x < y
  · have e : cmpI x y = -1 := by simp [cmpI, h1]
    rw [e]
    clear e
    go_enter Tryz.func88, Tryz.ntmps88
    go_wp2
    go_ret
    exact ⟨rfl, rfl⟩
  · by_cases h2 : y < x
    · have e : cmpI x y = 1 := by simp [cmpI, h1, h2]
      rw [e]
      clear e
      go_enter Tryz.func88, Tryz.ntmps88
      go_wp2
      go_ret
      exact ⟨rfl, rfl⟩
    · have e : cmpI x y = 0 := by simp [cmpI, h1, h2]
      rw [e]
      clear e
      go_enter Tryz.func88, Tryz.ntmps88
      go_wp2
      go_ret
      exact ⟨rfl, rfl⟩
theorem or_any (g : Nat) (xs : List Int) (w : World) (hx : ∀ j x, xs[j]? = some x → w.cell? ⟨g, j, none⟩ = some (.int .i64 x)) (hn : xs.length ≤ 1000) :
    Calls Tryz.prog 87 #[.slice (some ⟨g, 0, none⟩) xs.length xs.length] w fun e w' => e = .returned (.int .i64 (orI xs)) ∧ w = w' := by
  have Hx := Lib.hid hx
  clear hx
  go_enter Tryz.func87, Tryz.ntmps87
  go_wp2_with fail
  go_loop [8] (fun i => ∃ k : Nat, k ≤ xs.length ∧ i = .int .i64 k ∧ Hid (orI (xs.drop k) = orI xs)) (fun i => xs.length - (intOf i).toNat)
  case atStart => exact ⟨0, Nat.zero_le _, rfl, Lib.hid rfl⟩
  case round =>
    obtain ⟨k, hk, rfl, ho⟩ := hrel
    by_cases hlt : k < xs.length
    · obtain ⟨x, hx⟩ : ∃ x, xs[k]? = some x := ⟨xs[k], by simp [hlt]⟩
      have hc := Hx.out k x hx
      have hd : xs.drop k = x :: xs.drop (k + 1) := by
        obtain ⟨h, rfl⟩ := List.getElem?_eq_some_iff.1 hx
        exact List.drop_eq_getElem_cons h
      by_cases h0 : x = 0
      · subst h0
        have Hd : Hid (orI (xs.drop (k + 1)) = orI xs) := by
          have := ho.out; rw [hd] at this; exact Lib.hid (by simpa [orI] using this)
        clear hd hx
        go_wp2_with fail
        go_round
        case rel => exact ⟨k + 1, by omega, by go_num, Hd⟩
        case measure => simp [intOf]; omega
      · have Hd : Hid (x = orI xs) := by
          have := ho.out; rw [hd] at this; exact Lib.hid (by simpa [orI, h0] using this)
        have h0' : (x != 0) = true := by simpa using h0
        clear hd hx
        go_wp2_with fail
        go_ret
        exact ⟨by rw [← Hd.out]; rfl, rfl⟩
    · have hd : xs.drop k = [] := List.drop_eq_nil_of_le (by omega)
      have Hd : Hid (0 = orI xs) := by
        have := ho.out; rw [hd] at this; exact Lib.hid (by simpa [orI] using this)
      clear hd
      go_wp2_with fail
      go_ret
      exact ⟨by rw [← Hd.out]; rfl, rfl⟩
end Go.Proofs.YtaandcblndldmaaGreat

/- DotB -/
namespace Go.Proofs.YtaandcblndldmaaGreat
open Go.RowKit
set_option linter.unusedVariables false
set_option linter.unusedSimpArgs false

theorem below_grow (w : World) (q : Nat) (os : Array Obj) : Below w.heap.size w (Sort.grow (w.drewN q) os) := by
  refine ⟨rfl, rfl, rfl, by simp [Sort.grow, World.drewN], fun k hk => ?_⟩
  have h : (w.drewN q).heap = w.heap := rfl
  simp only [Sort.grow, h]
  rw [Array.getElem?_append_left hk]

theorem at_new3 (w : World) (o1 o2 o3 : Obj) : (((w.alloc o1).alloc o2).alloc o3).drew.heap[w.heap.size + 1 + 1]? = some o3 := by
  have h := heap_new ((w.alloc o1).alloc o2) o3
  rw [World.size_alloc, World.size_alloc] at h
  exact h
/-- blocks and draws came, nothing else -/
def Grown (w w' : World) : Prop := ∃ q os, w' = Sort.grow (w.drewN q) os
theorem Grown.refl (w : World) : Grown w w := ⟨0, #[], by simp [Sort.grow, World.drewN]⟩
theorem Grown.alloc {w w' : World} (h : Grown w w') (o : Obj) : Grown w (w'.alloc o) := by
  obtain ⟨q, os, rfl⟩ := h
  exact ⟨q, os ++ #[o], by rw [Sort.alloc_eq_grow, Sort.grow_grow]⟩
theorem Grown.drew {w w' : World} (h : Grown w w') : Grown w w'.drew := by
  obtain ⟨q, os, rfl⟩ := h
  exact ⟨q + 1, os, by simp [Sort.grow, World.drewN, World.drew]; omega⟩
theorem Grown.trans {a b c : World} (h : Grown a b) (k : Grown b c) : Grown a c := by
  obtain ⟨q, os, rfl⟩ := h
  obtain ⟨q', os', rfl⟩ := k
  exact ⟨q + q', os ++ os', by simp [Sort.grow, World.drewN]; omega⟩
theorem Grown.below {w w' : World} (h : Grown w w') : Below w.heap.size w w' := by
  obtain ⟨q, os, rfl⟩ := h
  exact below_grow w q os
theorem two_at {W : World} {g : Nat} {x y : Int} {t : TypeId} (h : W.heap[g]? = some (.cells #[.int .i64 x, .int .i64 y] t (0, 0))) : ∀ j z, [x, y][j]? = some z → W.cell? ⟨g, j, none⟩ = some (.int .i64 z) := by
  intro j z hj
  rw [cells_at h]
  match j with
  | 0 => simp at hj; subst hj; rfl
  | 1 => simp at hj; subst hj; rfl
  | j + 2 => simp at hj

theorem compare_any (r i r' i' : Int) (w : World) :
    Calls Tryz.prog 122 #[.agg #[.int .u8 r, .int .u32 i], .agg #[.int .u8 r', .int .u32 i']] w fun e w' => e = .returned (.int .i64 (cmpA (r, i) (r', i'))) ∧ Grown w w' := by
  go_enter Tryz.func122, Tryz.ntmps122
  go_wp2_with fail
  refine region_text [([0, 1, 2, 3, 5, 6, 7, 8], false), ([4], true), ([9, 10, 11, 12], false)] mixed (by kernel_rfl) ?_
  simp only [wpSegs, List.map_cons, List.map_nil, List.getD_cons_succ, List.getD_cons_zero]
  go_wp2_with fail
  refine (cmpu8 _ _ _).mono ?_
  rintro e w' ⟨rfl, rfl⟩
  go_wp2_with fail
  refine And.intro (Agree.refl _) ?_
  go_wp2_with fail
  refine (cmpu32 _ _ _).mono ?_
  rintro e w' ⟨rfl, rfl⟩
  go_wp2_with fail
  refine (or_any _ [cmpI r r', cmpI i i'] _ (two_at (t := 3) ?hx) (by simp)).mono ?_
  case hx => first | exact heap_new _ _ | exact at_new3 _ _ _ _
  rintro e w' ⟨rfl, rfl⟩
  go_wp2_with fail
  refine And.intro (by kernel_rfl) ?_
  go_wp2_with fail
  go_ret
  exact ⟨rfl, ((((Grown.refl w).alloc _).alloc _).alloc _).drew⟩

def cmpDD (a b : Dt) : Int := orI [cmpA a.1 b.1, cmpI a.2 b.2]
theorem compareD_any (r i s r' i' s' : Int) (w : World) :
    Calls Tryz.prog 58 #[.agg #[.int .u8 r, .int .u32 i, .int .u64 s], .agg #[.int .u8 r', .int .u32 i', .int .u64 s']] w fun e w' => e = .returned (.int .i64 (cmpDD ((r, i), s) ((r', i'), s'))) ∧ Grown w w' := by
  go_enter Tryz.func58, Tryz.ntmps58
  go_wp2_with fail
  refine region_text [([0, 1, 2, 3, 5, 6, 7, 8], false), ([4], true), ([9, 10, 11, 12], false)] mixed (by kernel_rfl) ?_
  simp only [wpSegs, List.map_cons, List.map_nil, List.getD_cons_succ, List.getD_cons_zero]
  go_wp2_with fail
  refine (compare_any _ _ _ _ _).mono ?_
  rintro e w1 ⟨rfl, hg⟩
  have hbl := hg.below
  go_wp2_with fail
  refine And.intro (Agree.of_below hbl) ?_
  clear hbl
  go_wp2_with fail
  refine (cmpu64 _ _ _).mono ?_
  rintro e w' ⟨rfl, rfl⟩
  go_wp2_with fail
  refine (or_any _ [cmpA (r, i) (r', i'), cmpI s s'] _ (two_at (t := 3) ?hx) (by simp)).mono ?_
  case hx => first | exact heap_new _ _ | exact at_new3 _ _ _ _
  rintro e w' ⟨rfl, rfl⟩
  go_wp2_with fail
  refine And.intro (by kernel_rfl) ?_
  go_wp2_with fail
  go_ret
  exact ⟨rfl, (((((Grown.refl w).alloc _).alloc _).drew).trans hg).alloc _⟩
theorem cmpDD_eq (a b : Dt) : cmpDD a b = cmpD a b := by
  obtain ⟨⟨r, i⟩, s⟩ := a
  obtain ⟨⟨r', i'⟩, s'⟩ := b
  simp only [cmpDD, cmpA, cmpI, orI, cmpD, lessD, decide_eq_true_eq]
  rcases Int.lt_trichotomy r r' with h | h | h
  · simp [h, show ¬ r' < r by omega]
  · subst h
    rcases Int.lt_trichotomy i i' with h | h | h
    · simp [h, show ¬ i' < i by omega]
    · subst h
      rcases Int.lt_trichotomy s s' with h | h | h
      · simp [h, show ¬ s' < s by omega]
      · subst h; simp
      · simp [h, show ¬ s < s' by omega]
    · simp [h, show ¬ i < i' by omega, show ¬ i = i' by omega]
  · simp [h, show ¬ r < r' by omega, show ¬ r = r' by omega]
theorem cmpA_neg (a b : Ac) : cmpA a b < 0 ↔ ltA a b := by
  obtain ⟨r, i⟩ := a
  obtain ⟨r', i'⟩ := b
  simp only [cmpA, cmpI, orI, ltA]
  rcases Int.lt_trichotomy r r' with h | h | h
  · simp [h]
  · subst h
    rcases Int.lt_trichotomy i i' with h | h | h
    · simp [h]
    · subst h; simp
    · simp [h, show ¬ i < i' by omega]
  · simp [h, show ¬ r < r' by omega, show ¬ r = r' by omega]
theorem cmpD_neg (a b : Dt) : cmpD a b < 0 ↔ lessD a b = true := by
  unfold cmpD
  split
  · rename_i h; simp [h]
  · rename_i h
    split <;> simp [h]
end Go.Proofs.YtaandcblndldmaaGreat

/- DotC -/
namespace Go.Proofs.YtaandcblndldmaaGreat
open Go.RowKit
set_option linter.unusedVariables false
set_option linter.unusedSimpArgs false

/-- the cells of dots -/
def dcell (d : Dt) : List Value := [.int .u8 d.1.1, .int .u32 d.1.2, .int .u64 d.2]
def dcells (v : List Dt) : List Value := v.flatMap dcell
theorem dcells_length (v : List Dt) : (dcells v).length = v.length * 3 := by
  induction v with
  | nil => rfl
  | cons x v ih => simp only [dcells, List.flatMap_cons, List.length_append, List.length_cons] at ih ⊢; rw [ih]; simp [dcell]; omega
theorem dcells_snoc (v : List Dt) (d : Dt) : dcells (v ++ [d]) = dcells v ++ dcell d := by simp [dcells]
theorem dcells_append (v u : List Dt) : dcells (v ++ u) = dcells v ++ dcells u := by simp [dcells]
theorem dcells_one (v : List Dt) : ∀ u ∈ dcells v, u.oneCell' = true := by
  intro u hu
  obtain ⟨d, _, hd⟩ := List.mem_flatMap.1 hu
  simp [dcell] at hd
  rcases hd with rfl | rfl | rfl <;> rfl
theorem dcells_at {v : List Dt} {k : Nat} {d : Dt} (h : v[k]? = some d) : ∀ j, j < 3 → (dcells v)[k * 3 + j]? = (dcell d)[j]? := by
  induction v generalizing k with
  | nil => simp at h
  | cons x v ih =>
    intro j hj
    cases k with
    | zero =>
      simp at h
      subst h
      simp only [dcells, List.flatMap_cons]
      rw [List.getElem?_append_left (by simp [dcell]; omega)]
      congr 1; omega
    | succ k =>
      simp at h
      have := ih h j hj
      simp only [dcells, List.flatMap_cons] at this ⊢
      rw [List.getElem?_append_right (by simp [dcell]; omega), ← this]
      congr 1; simp [dcell]; omega
/-- a slice that reads as the vector v -/
def Vec (w : World) (a : Option Addr) (c : Nat) (v : List Dt) : Prop := Sl w 3 a v.length c (dcells v)
theorem Vec.below {w w' : World} {a : Option Addr} {c : Nat} {v : List Dt} (h : Vec w a c v) (hb : Below w.heap.size w w') : Vec w' a c v := Sl.below h hb
theorem Vec.at {w : World} {a : Option Addr} {c : Nat} {v : List Dt} (h : Vec w a c v) {k : Nat} {d : Dt} (hd : v[k]? = some d) :
    ∃ ad, a = some ad ∧ w.cell? (ad.add (k * 3)) = some (.int .u8 d.1.1) ∧ w.cell? ⟨(ad.add (k * 3)).block, (ad.add (k * 3)).off + 1, none⟩ = some (.int .u32 d.1.2) ∧ w.cell? ⟨(ad.add (k * 3)).block, (ad.add (k * 3)).off + 2, none⟩ = some (.int .u64 d.2) ∧ ad.block < w.heap.size := by
  have hk : k < v.length := (List.getElem?_eq_some_iff.1 hd).1
  obtain ⟨_, _, _, ⟨_, h0, _⟩ | ⟨ad, rfl, hc⟩⟩ := h
  · omega
  · have h0 := hc (k * 3) (.int .u8 d.1.1) (by simpa [dcell] using dcells_at hd 0 (by omega))
    have h1 := hc (k * 3 + 1) (.int .u32 d.1.2) (by simpa [dcell] using dcells_at hd 1 (by omega))
    have h2 := hc (k * 3 + 2) (.int .u64 d.2) (by simpa [dcell] using dcells_at hd 2 (by omega))
    rw [← Go.Deep.add_add] at h1 h2
    have e1 : (ad.add (k * 3)).add 1 = ⟨(ad.add (k * 3)).block, (ad.add (k * 3)).off + 1, none⟩ := rfl
    have e2 : (ad.add (k * 3)).add 2 = ⟨(ad.add (k * 3)).block, (ad.add (k * 3)).off + 2, none⟩ := rfl
    refine ⟨ad, rfl, h0, e1 ▸ h1, e2 ▸ h2, ?_⟩
    have := World.block_lt_of_cell? w _ h0
    have hb : (ad.add (k * 3)).block = ad.block := by unfold Addr.add; split <;> rfl
    rwa [hb] at this

/-- a map of numbers that reads as g -/
def NumsAt (w : World) (b n : Nat) (g : Ac → Int) : Prop :=
  ∃ f, MapF w Tryz.prog 24 mkA b n f ∧ ∀ a, okA a → (f a = none ∧ g a = 0) ∨ f a = some (.int .u64 (g a))
theorem NumsAt.made (w : World) : NumsAt (w.alloc (.map #[] 0)) w.heap.size 0 (fun _ => 0) := ⟨_, MapF.made w, fun a _ => .inl ⟨rfl, rfl⟩⟩
theorem NumsAt.lt {w : World} {b n : Nat} {g : Ac → Int} (h : NumsAt w b n g) : b < w.heap.size := by obtain ⟨f, h, _⟩ := h; exact h.lt
theorem NumsAt.chg {F : List Nat} {w w' : World} {b n : Nat} {g : Ac → Int} (h : NumsAt w b n g) (hc : Chg F w w') (hb : b ∉ F) : NumsAt w' b n g := by
  obtain ⟨f, h1, h2⟩ := h
  exact ⟨f, h1.chg hc hb, h2⟩
theorem NumsAt.below {w w' : World} {b n : Nat} {g : Ac → Int} (h : NumsAt w b n g) (hb : Below w.heap.size w w') : NumsAt w' b n g := h.chg (F := []) (Chg.of_below hb) (by simp)
theorem NumsAt.alloc {w : World} {b n : Nat} {g : Ac → Int} (h : NumsAt w b n g) (o : Obj) : NumsAt (w.alloc o) b n g := h.chg (F := []) (Chg.alloc _ _ _) (by simp)
theorem NumsAt.congr {w : World} {b n : Nat} {g g' : Ac → Int} (h : NumsAt w b n g) (hg : ∀ a, okA a → g a = g' a) : NumsAt w b n g' := by
  obtain ⟨f, h1, h2⟩ := h
  exact ⟨f, h1, fun a ha => by rw [← hg a ha]; exact h2 a ha⟩
theorem zeroU64 (w : World) : (zeroValue 26).run Tryz.prog w = .ok (.int .u64 0) w := Tryz.zeroValue26 w
section
variable {w : World} {ops : Array Oper} {rest : List Oper} {o : Oper} {a : Act} {Q : Exit → Act → World → Prop}
theorem wpList_look_N (hg : o.guard = none) (m x : Operand) (hop : o.op = Op.lookup 150 m x false) (b n : Nat) (g : Ac → Int)
    (hm : a.eval m = .map (some b)) (h : NumsAt w b n g) (r i : Int) (hx : a.eval x = .agg #[.int .u8 r, .int .u32 i]) (hk : okA (r, i))
    (hK : wpList Tryz.prog ops Q rest (a.put o.dst (.int .u64 (g (r, i)))) w) : wpList Tryz.prog ops Q (o :: rest) a w := by
  obtain ⟨f, h1, h2⟩ := h
  obtain ⟨l, hl⟩ := keyA_ok hk
  refine wpList_look_F keysA hg m x _ hop _ Tryz.underlying150 (.int .u64 0) zeroU64 b n f hm h1 (r, i) l hx hl ?_
  rcases h2 _ hk with ⟨h3, h4⟩ | h3
  · rw [h3, ← h4]; rw [h4] at hK; simpa [h4] using hK
  · rw [h3]; exact hK
theorem wpList_update_N (hg : o.guard = none) (m x v : Operand) (hop : o.op = Op.mapUpdate 150 m x v) (b n : Nat) (g : Ac → Int)
    (hm : a.eval m = .map (some b)) (h : NumsAt w b n g) (hn : n < 1000000000) (r i u : Int) (hx : a.eval x = .agg #[.int .u8 r, .int .u32 i]) (hk : okA (r, i)) (hv : a.eval v = .int .u64 u)
    (hK : ∀ w', NumsAt w' b (n + 1) (fun x => if x = (r, i) then u else g x) → Chg [b] w w' → wpList Tryz.prog ops Q rest (a.put o.dst undef) w') : wpList Tryz.prog ops Q (o :: rest) a w := by
  obtain ⟨f, h1, h2⟩ := h
  obtain ⟨l, hl⟩ := keyA_ok hk
  refine wpList_update_F keysA hg m x v _ hop _ Tryz.underlying150 b n f hm h1 (by unfold maxLen; omega) (r, i) l (.int .u64 u) hx hv hl ?_
  intro w' h3 h4
  refine hK w' ⟨_, h3, fun c hc => ?_⟩ (Chg.grown h4)
  by_cases e : c = (r, i)
  · simp [e]
  · simp only [e, if_false]; exact h2 c hc
end

theorem take_snoc' {α : Type} {v : List α} {k : Nat} {d : α} (h : v[k]? = some d) : v.take (k + 1) = v.take k ++ [d] := by
  obtain ⟨hk, rfl⟩ := List.getElem?_eq_some_iff.1 h
  rw [List.take_succ_eq_append_getElem hk]

set_option maxHeartbeats 1000000 in
theorem numbers_any (a : Option Addr) (c : Nat) (v : List Dt) (w : World) (hv : Vec w a c v) (hok : okV v) (hn : v.length ≤ 1100000) :
    Calls Tryz.prog 111 #[.slice a v.length c] w fun e w' => ∃ b n, e = .returned (.map (some b)) ∧ w.heap.size ≤ b ∧ n ≤ v.length ∧ NumsAt w' b n (getN v) ∧ Below w.heap.size w w' := by
  have hmm := @run_makeMap Tryz.prog
  have Hv := Lib.hid hv
  have Hok := Lib.hid hok
  clear hv hok
  go_enter Tryz.func111, Tryz.ntmps111
  go_wp2_with fail
  go_loopw [9] (fun i wr => ∃ k n : Nat, k ≤ v.length ∧ i = .int .i64 k ∧ n ≤ k ∧ NumsAt wr w.heap.size n (getN (v.take k)) ∧ Below w.heap.size w wr) (fun i _ => v.length - (intOf i).toNat)
  case atStart => exact ⟨0, 0, Nat.zero_le _, rfl, Nat.le_refl _, NumsAt.made w, (Below.refl _ _).alloc (Nat.le_refl _) _⟩
  case round =>
    obtain ⟨k, n, hk, rfl, hnk, hN, hB⟩ := hrel
    have HN := Lib.hid hN
    have hs := hB.size
    have HB := Lib.hid hB
    clear hN hB hmm
    by_cases hlt : k < v.length
    · obtain ⟨⟨⟨r, i⟩, s⟩, hx⟩ : ∃ x, v[k]? = some x := ⟨v[k], by simp [hlt]⟩
      obtain ⟨ad, had, c0, c1, c2, hlt0⟩ := (Hv.out.below HB.out).at hx
      have had' := had
      subst had'
      have hokd := Hok.out _ (List.mem_of_getElem? hx)
      have Hx := Lib.hid hx
      dsimp only at c0 c1 c2
      clear hx had
      go_wp2_with fail
      refine (may_any r i s _).mono ?_
      rintro e w1 ⟨rfl, hb⟩
      obtain ⟨hb0, hz, hB1⟩ := new1 hb
      have d0 := cells_at hb0
      clear hb hb0 c0 c1 c2
      have HN1 := Lib.hid (HN.out.below hB1)
      have HB1 := Lib.hid (HB.out.trans (hB1.mono hs))
      have hl1 := HN1.out.lt
      cases hm : may ((r, i), s) with
      | false =>
        have Hm := Lib.hid hm
        clear hm
        go_wp2_with fail
        go_roundw
        case rel => exact ⟨k + 1, n, by omega, by go_num, by omega, HN1.out.congr (fun a ha => by rw [take_snoc' Hx.out, getN_snoc, if_neg (by rw [Hm.out]; simp)]), HB1.out⟩
        case measure => simp [intOf]; omega
      | true =>
        have Hm := Lib.hid hm
        clear hm
        go_wp2_with fail
        refine region_text [([0, 1, 2, 3, 4, 5, 7, 8], false), ([6], true), ([9, 10], false)] mixed (by kernel_rfl) ?_
        simp only [wpSegs, List.map_cons, List.map_nil, List.getD_cons_succ, List.getD_cons_zero]
        go_wp2_with (at_lookup; go_must (refine wpList_look_N rfl _ _ rfl _ _ _ rfl HN1.out r i rfl hokd.1 ?_))
        refine And.intro (Agree.refl _) ?_
        go_wp2_with (at_mapUpdate; go_must (refine wpList_update_N rfl _ _ _ rfl _ _ _ rfl HN1.out (by omega) r i _ rfl hokd.1 rfl ?_))
        all_goals
          intro w2 hN2 hC2
          have HN2 := Lib.hid hN2
          have HB2 := Lib.hid (HB1.out.drew.trans (hC2.below (B := w.heap.size) (Nat.le_of_lt hl1) (by simp)))
          clear hN2 hC2 d0
          go_wp2_with fail
          refine And.intro (by kernel_rfl) ?_
          go_wp2_with fail
          go_roundw
          case rel =>
            refine ⟨k + 1, n + 1, by omega, by go_num, by omega, HN2.out.congr (fun a ha => ?_), HB2.out⟩
            rw [take_snoc' Hx.out, getN_snoc]
            by_cases e : a = (r, i)
            · subst e; rw [if_pos rfl, if_pos ⟨Hm.out, rfl⟩]; show _ = max _ s; omega
            · rw [if_neg e, if_neg (fun h => e h.2.symm)]
          case measure => simp [intOf]; omega
    · have e : v.take k = v := List.take_of_length_le (by omega)
      have HN' : Hid (NumsAt wr w.heap.size n (getN v)) := by have := HN.out; rw [e] at this; exact Lib.hid this
      clear e
      go_wp2_with fail
      go_ret
      exact ⟨_, n, rfl, Nat.le_refl _, by omega, HN'.out, HB.out⟩
end Go.Proofs.YtaandcblndldmaaGreat

/- DotD -/
namespace Go.Proofs.YtaandcblndldmaaGreat
open Go.RowKit Go.Shelf
set_option linter.unusedVariables false
set_option linter.unusedSimpArgs false
attribute [local go_sem] Oper.semAt_some

theorem Tryz.info_actor : (Tryz.prog.info? 24).map (fun i => (i.zero, i.size, i.bytes)) = some (some (.agg #[.int .u8 0, .int .u32 0]), 2, 8) := by kernel_rfl

section
variable {α : Type} {P : Program} {k : TypeId} {mk : α → Value} {w w' : World} {b n r : Nat} {f : α → Option Value} {left : α → Bool} {cnt : Nat}
theorem RangeF.of_walks (h : RangeF w P k mk b r n f left cnt) (hk : KeepsWalks w w') : RangeF w' P k mk b r n f left cnt := by
  obtain ⟨D, L, h1, h2⟩ := h
  exact ⟨D, L, h1.of_walks hk, h2⟩
theorem RangeF.iter_walk (h : RangeF w P k mk b r n f left cnt) : ∃ o : Obj, w.heap[r]? = some o ∧ o.isWalk = true := by
  obtain ⟨D, L, h1, h2⟩ := h
  exact h1.iter_walk
theorem RangeF.alloc (h : RangeF w P k mk b r n f left cnt) (o : Obj) : RangeF (w.alloc o) P k mk b r n f left cnt := h.of_walks (KeepsWalks.alloc _ _)
end

/-- nothing is still to come -/
def NoneLeft (left : Ac → Bool) : Prop := ∀ a, okA a → left a = false
/-- an entry has come -/
structure NextA (w : World) (b r n : Nat) (f : Ac → Option Value) (left : Ac → Bool) (cnt : Nat) (rr ii : Int) (v : Value) (w' : World) (cnt' : Nat) : Prop where
  ok : okA (rr, ii)
  was : left (rr, ii) = true
  val : f (rr, ii) = some v
  rng : RangeF w' Tryz.prog 24 mkA b r n f (fun y => left y && !decide (y = (rr, ii))) cnt'
  lt : cnt' < cnt
  grown : w.grownBy w' (some r)
  size : w'.heap.size = w.heap.size
section
variable {w : World} {ops : Array Oper} {rest : List Oper} {o : Oper} {a : Act} {Q : Exit → Act → World → Prop} {F : Fence} {nf : Nat}
theorem wpList_next_A (hg : o.guard = none) (it : Operand) (hop : o.op = Op.next it false) (b r n : Nat) (f : Ac → Option Value) (left : Ac → Bool) (cnt : Nat)
    (hit : a.eval it = .pointer (some ⟨r, 0, none⟩)) (h : RangeF w Tryz.prog 24 mkA b r n f left cnt)
    (hDone : NoneLeft left → wpList Tryz.prog ops Q rest (a.put o.dst (.tuple #[.bool false])) w)
    (hMore : ∀ rr ii v w' cnt', NextA w b r n f left cnt rr ii v w' cnt' → (Instr.entry (.pointer (some ⟨r, 0, none⟩))).run Tryz.prog w' = .ok (.tuple #[.agg #[.int .u8 rr, .int .u32 ii], v]) w' →
      wpList Tryz.prog ops Q rest (a.put o.dst (.tuple #[.bool true, .agg #[.int .u8 rr, .int .u32 ii], v])) w') : wpList Tryz.prog ops Q (o :: rest) a w :=
  wpList_next_F keysA hg it hop b r n f left cnt hit h (fun _ h => hDone fun a ha => by obtain ⟨l, hl⟩ := keyA_ok ha; exact h a l hl)
    (fun x v l w' cnt' h1 h2 h3 h4 h5 h6 h7 h8 => hMore x.1 x.2 v w' cnt' ⟨keyA_inv h1, h2, h3, h4, h5, h6, h7⟩ h8)
theorem wpListIn_next_A (hg : o.guard = none) (it : Operand) (hop : o.op = Op.next it false) (b r n : Nat) (f : Ac → Option Value) (left : Ac → Bool) (cnt : Nat)
    (hit : a.eval it = .pointer (some ⟨r, 0, none⟩)) (h : RangeF w Tryz.prog 24 mkA b r n f left cnt)
    (hDone : NoneLeft left → wpListIn F nf Tryz.prog ops Q rest (a.put o.dst (.tuple #[.bool false])) w)
    (hMore : ∀ rr ii v w' cnt', NextA w b r n f left cnt rr ii v w' cnt' → (Instr.entry (.pointer (some ⟨r, 0, none⟩))).run Tryz.prog w' = .ok (.tuple #[.agg #[.int .u8 rr, .int .u32 ii], v]) w' →
      wpListIn F nf Tryz.prog ops Q rest (a.put o.dst (.tuple #[.bool true, .agg #[.int .u8 rr, .int .u32 ii], v])) w') : wpListIn F nf Tryz.prog ops Q (o :: rest) a w :=
  wpListIn_next_F keysA hg it hop b r n f left cnt hit h (fun _ h => hDone fun a ha => by obtain ⟨l, hl⟩ := keyA_ok ha; exact h a l hl)
    (fun x v l w' cnt' h1 h2 h3 h4 h5 h6 h7 h8 => hMore x.1 x.2 v w' cnt' ⟨keyA_inv h1, h2, h3, h4, h5, h6, h7⟩ h8)
end

/-- the keys of f, each once -/
def KeysIn (f : Ac → Option Value) (n : Nat) (ss : List Ac) : Prop := ss.length ≤ n ∧ ss.Nodup ∧ (∀ a ∈ ss, okA a) ∧ ∀ a, okA a → (a ∈ ss ↔ (f a).isSome = true)
/-- so far -/
structure Came (f : Ac → Option Value) (left : Ac → Bool) (ss : List Ac) : Prop where
  nd : ss.Nodup
  ok : ∀ a ∈ ss, okA a
  ne : ∀ a ∈ ss, left a = false
  mem : ∀ a, okA a → (a ∈ ss ↔ (f a).isSome = true ∧ left a = false)
theorem Came.start (f : Ac → Option Value) : Came f (fun a => (f a).isSome) [] := ⟨List.nodup_nil, by simp, by simp, fun a _ => by cases h : f a <;> simp [h]⟩
theorem Came.step {f : Ac → Option Value} {left : Ac → Bool} {ss : List Ac} (h : Came f left ss) {x : Ac} {v : Value} (hok : okA x) (hl : left x = true) (hf : f x = some v) : Came f (fun y => left y && !decide (y = x)) (ss ++ [x]) := by
  have hx : x ∉ ss := fun hx => by have := h.ne x hx; rw [hl] at this; cases this
  refine ⟨List.nodup_append.2 ⟨h.nd, by simp, fun a ha b hb => by simp at hb; subst hb; intro e; subst e; exact hx ha⟩, fun a ha => ?_, fun a ha => ?_, fun a hoka => ?_⟩
  · rcases List.mem_append.1 ha with ha | ha
    · exact h.ok a ha
    · simp at ha; subst ha; exact hok
  · rcases List.mem_append.1 ha with ha | ha
    · simp [h.ne a ha]
    · simp at ha; subst ha; simp
  · rw [List.mem_append, List.mem_singleton, h.mem a hoka]
    by_cases e : a = x
    · subst e; simp [hf, hl]
    · simp [e]
theorem Came.done {f : Ac → Option Value} {left : Ac → Bool} {ss : List Ac} (h : Came f left ss) (hl : NoneLeft left) {n : Nat} (hn : ss.length ≤ n) : KeysIn f n ss :=
  ⟨hn, h.nd, h.ok, fun a ha => by rw [h.mem a ha, hl a ha]; simp⟩

set_option maxRecDepth 100000 in
set_option maxHeartbeats 1000000 in
theorem keys1_in (F : Fence) (n : Nat) (h10 : F.fn 200) (hro : F.round = none) (hn : 1 ≤ n) (l Bm b nn : Nat) (f : Ac → Option Value) (J Jx : List Ac → World → Prop)
    (hY : ∀ pre x W, J pre W → pre.length < nn → YieldAt F (n - 1) Tryz.prog l #[mkA x] W fun e W' => (e = .returned (.bool true) ∧ J (pre ++ [x]) W' ∧ KeepsWalks W W') ∨ (e = .returned (.bool false) ∧ Jx (pre ++ [x]) W'))
    (W : World) (hJ : AbidesFrom W.heap.size J) (hm : W.cell? ⟨Bm, 0, none⟩ = some (.map (some b))) (hown : MapF W Tryz.prog 24 mkA b nn f) (h0 : J [] W) :
    CallsIn F n Tryz.prog 200 #[.func (.yield l) #[] #[], .pointer (some ⟨Bm, 0, none⟩)] W fun e W' => (∃ v, e = .returned v) ∧ ((∃ ss, KeysIn f nn ss ∧ J ss W') ∨ ∃ pre, Jx pre W') := by
  refine callsIn_of_wp Tryz.func200 rfl h10 ?_ hro
  simp only [Tryz.ntmps200, List.size_toArray, List.length_cons, List.length_nil, Nat.reduceAdd, Nat.reduceSub, Array.replicate_succ, Array.replicate_zero, List.push_toArray, List.append_toArray, List.nil_append, List.cons_append]
  gi_wp2_with (gi_at_range; refine wpListIn_range_F keysA rfl _ _ rfl _ Tryz.underlying150 b nn f rfl hown ?_; intro w0 cnt0 hrg0 hcn0 hg0 hs0)
  go_frame
  gi_loopw [3] (fun _ wr => ∃ (left : Ac → Bool) (cnt : Nat) (ss : List Ac), RangeF wr Tryz.prog 24 mkA b W.heap.size nn f left cnt ∧ ss.length + cnt ≤ nn ∧ Came f left ss ∧ J ss wr)
    (fun _ wr => wr.rangeLeft b W.heap.size)
  case atStart =>
    exact ⟨_, _, [], hrg0, by simpa using hcn0, Came.start f, hJ [] W w0 none h0 hg0 (fun r e => by cases e)⟩
  case round =>
    obtain ⟨left, cnt, ss, hrg, hcs, hC, hJs⟩ := hrel
    gi_wp2_with (gi_at_next; refine wpListIn_next_A rfl _ rfl b W.heap.size nn f left cnt rfl hrg ?_ ?_)
    · intro hl0
      gi_wp2
      go_end0
      exact ⟨⟨_, rfl⟩, .inl ⟨ss, hC.done hl0 (by omega), hJs⟩⟩
    · intro rr ii v w2 cnt2 hN hen
      have hJ2 : J ss w2 := hJ ss wr w2 (some W.heap.size) hJs hN.grown (fun r e => by cases e; exact ⟨Nat.le_refl _, hrg.iter_walk⟩)
      have hJ3 : J ss (w2.alloc (.cells #[.int .u8 rr, .int .u32 ii] 24)) := hJ ss w2 _ none hJ2 (World.grownBy_alloc _ _ _) (fun r e => by cases e)
      have hlt := hN.lt
      obtain ⟨fn, tmps, assign, body, hy, hR⟩ := hY ss (rr, ii) _ hJ3 (by omega)
      have hrg3 := hN.rng.alloc (.cells #[.int .u8 rr, .int .u32 ii] 24)
      simp only [mkA] at hy
      gi_wp2
      refine hR.mono ?_
      rintro e W3 (⟨rfl, hJ4, hk3⟩ | ⟨rfl, hJx3⟩)
      · gi_wp2
        have hrg4 := hrg3.of_walks hk3
        go_roundw
        case rel => exact ⟨_, cnt2, ss ++ [(rr, ii)], hrg4, by simp; omega, hC.step hN.ok hN.was hN.val, hJ4⟩
        case measure => rw [hrg4.left_eq, hrg.left_eq]; exact hlt
      · gi_wp2
        refine bodyPost_ret (results_none rfl _ _ _) rfl ?_
        exact ⟨⟨_, rfl⟩, .inr ⟨ss ++ [(rr, ii)], hJx3⟩⟩

/-- maps.Keys(m) hands back an iterator over m's keys -/
theorem keys_stops (F : Fence) (n : Nat) (h10 : F.fn 200) (hro : F.round = none) (hn : 1 ≤ n) (Bm b nn : Nat) (f : Ac → Option Value) (w : World)
    (hm : w.heap[Bm]? = some (.cells #[.map (some b)] 150 (0, 0))) (hown : MapF w Tryz.prog 24 mkA b nn f) :
    SeqStopsK F n Tryz.prog 200 #[.pointer (some ⟨Bm, 0, none⟩)] (fun x : Ac => #[mkA x]) KeepsWalks (KeysIn f nn) (fun _ => True) nn w := fun l J Jx W hW hJ _ hY h0 => by
  have hc : W.cell? ⟨Bm, 0, none⟩ = some (.map (some b)) := by rw [cells_at ((hW.block Bm (heap_lt hm)).trans hm)]; rfl
  refine (keys1_in F n h10 hro hn l Bm b nn f J Jx hY W hJ hc (hown.below hW) h0).mono ?_
  rintro e W' ⟨hv, h | ⟨pre, h⟩⟩
  · exact ⟨hv, .inl h⟩
  · exact ⟨hv, .inr ⟨pre, trivial, h⟩⟩

def acell (a : Ac) : List Value := [.int .u8 a.1, .int .u32 a.2]
def acells (l : List Ac) : List Value := l.flatMap acell
theorem acells_snoc (l : List Ac) (a : Ac) : acells (l ++ [a]) = acells l ++ acell a := by simp [acells]
theorem acells_length (v : List Ac) : (acells v).length = v.length * 2 := by
  induction v with
  | nil => rfl
  | cons x v ih => simp only [acells, List.flatMap_cons, List.length_append, List.length_cons] at ih ⊢; rw [ih]; simp [acell]; omega
/-- block B holds an actor -/
def BoxA (W : World) (B : Nat) (x : Ac) : Prop := W.heap[B]? = some (.cells #[.int .u8 x.1, .int .u32 x.2] 24 (0, 0))
theorem boxA_own {β : Type} (B : Nat) (x : Ac) : Own (fun (_ : β) W => BoxA W B x) := fun s X Y row hs hg hrow =>
  (hg.block B (heap_lt hs) (fun e' => by obtain ⟨o, ho, hc⟩ := hrow B e'.symm; rw [show X.heap[B]? = _ from hs] at ho; cases ho; cases hc)).trans hs

set_option maxRecDepth 100000 in
set_option maxHeartbeats 2000000 in
/-- slices.AppendSeq(nil, seq) -/
theorem appendSeq_in (F : Fence) (n : Nat) (h11 : F.fn 228) (hro : F.round = none) (hn : 2 ≤ n) (g : Nat) (lb : Array Value) (hFg : F.fn g) (eg : ∀ args w, (callFunc g args).run Tryz.prog w = .ok (.enter g args) w)
    (S : List Ac → Prop) (N : Nat) (hN : N ≤ 1100000) (w : World) (hseq : SeqStopsK F (n - 1) Tryz.prog g lb (fun x : Ac => #[mkA x]) KeepsWalks S (fun _ => True) N w) :
    CallsIn F n Tryz.prog 228 #[.slice none 0 0, .func (.func g) #[] lb] w fun e w' => ∃ a c ss, e = .returned (.slice a (List.length ss) c) ∧ S ss ∧ w'.ownsRow w.heap.size 24 2 (.slice a ss.length c) ss.length (acells ss) ∧ Below w.heap.size w w' := by
  have h1 : 1 ≤ n := by omega
  obtain ⟨i0, hi, hz0, hz1, hz2⟩ := info_parts Tryz.info_actor
  refine callsIn_of_wp_marks Tryz.func228 rfl h11 ?_ hro
  simp only [Tryz.ntmps228, List.size_toArray, List.length_cons, List.length_nil, Nat.reduceAdd, Nat.reduceSub, Array.replicate_succ, Array.replicate_zero, List.push_toArray, List.append_toArray, List.nil_append, List.cons_append]
  gi_wp2
  have bO := Boxed.new w 188 (.slice none 0 0)
  have hB0 : Below w.heap.size w (w.alloc (.cells #[.slice none 0 0] 188)) := (Below.refl _ w).alloc (Nat.le_refl _) _
  refine wpIn_rangeFunc_ownH hro h1 (gf := g) (lb := lb) rfl hFg eg hseq walksK_t walksK_b hB0 (fun _ => rfl)
    (fun pre W => (∃ v, Boxed W w.heap.size 188 v ∧ W.ownsRow w.heap.size 24 2 v pre.length (acells pre) ∧ True) ∧ Below w.heap.size w W)
    (fun _ _ _ => False)
    (OwnFrom.and (Own.from (holdsRow_own w.heap.size w.heap.size 188 24 2 (fun pre => pre.length) (fun pre => acells pre) (fun _ _ => True)) _) (ownFrom_below (Nat.le_refl _) (by simp)))
    (fun _ _ _ _ _ hs _ _ => hs)
    ⟨⟨_, bO, World.ownsRow_nil _ _ _ _, trivial⟩, hB0⟩
    (fun x a' W => ∃ Bx, BoxA W Bx x ∧ a' = { tmps := #[.slice none 0 0, .func (.func g) #[] lb, .pointer (some ⟨w.heap.size, 0, none⟩), undef, .slice none 0 0, .pointer (some ⟨Bx, 0, none⟩), .func (.func g) #[] lb, mkA x, undef, undef, undef, undef, undef], defers := [] })
    (fun x a' => fun s X Y row hs hg hr => by
      obtain ⟨Bx, hx, ha⟩ := hs
      exact ⟨Bx, Own.from (boxA_own Bx x) _ s X Y row hx hg hr, ha⟩) ?assign ?body ?done ?stop
  case assign =>
    rintro l pre x W K ⟨⟨v, hv, hrow, _⟩, hB⟩ hK
    obtain ⟨r, i⟩ := x
    simp only [mkA]
    gi_wp2
    exact hK _ _ ((KeepsOthers.alloc _ _).from _) (KeepsWalks.alloc _ _) ⟨⟨v, hv.alloc _, hrow.alloc _, trivial⟩, hB.alloc hB.size _⟩ ⟨W.heap.size, heap_new _ _, rfl⟩
  case body =>
    rintro l pre x a' W hl hr ⟨⟨v, hv, hrow, _⟩, hB⟩ ⟨Bx, hbx, rfl⟩ hlt
    have hc := hv.cell
    have cx := cells_at hbx
    obtain ⟨r, i⟩ := x
    dsimp only at cx
    gi_wp2_with (gi_at_builtin; refine wpListIn_append_own _ rfl _ _ 188 rfl w.heap.size 24 i0 (.agg #[.int .u8 0, .int .u32 0]) 2 8 Tryz.underlying188 hi hz0 hz1 hz2 rfl (by decide) _ _ _ rfl (hrow.alloc _) ⟨W.heap.size, 0, none⟩ 1 1 [.int .u8 r, .int .u32 i] rfl rfl (World.news_of_block (cs := #[.int .u8 r, .int .u32 i]) (t := 24) (fr := (0, 0)) (heap_alloc_new W _)) (by simp [Value.oneCell']) (by unfold maxLen; omega) (by omega) (by have := hB.size; simp; omega) ?_; intro v' w1 hown' hgrow _; obtain ⟨g', cap', rfl⟩ := ownsRow_succ hown'; obtain ⟨hv1, hv2, hr2, hk2, hb2⟩ := hv.appended (by decide) hrow hB.size (Nat.le_refl _) hown' hgrow; have hc1 := hv1.cell; have hf1 := hv1.frozen)
    refine ⟨hk2.from _, ?_, ⟨_, hv2, ?_, trivial⟩, hB.trans hb2⟩
    · exact ⟨hk2.size, fun k o hk ho => hk2.same k o hk (Obj.not_cells_of_walk ho)⟩
    · rw [acells_snoc]; simpa [acell] using hr2
  case done =>
    rintro D ys W hD hS ⟨⟨v, hv, hrow, _⟩, hB⟩ hK
    have hc := hv.cell
    obtain ⟨a, c, rfl⟩ := owns_slice hrow
    gi_wp2
    refine ⟨by simp, .inl ⟨_, _, rfl, run_takeDeferred hK, ?_⟩⟩
    exact ⟨_, results_tmp rfl _ _ _, a, c, ys, rfl, hS, ownsRow_putObj hrow _ hK rfl, hB.trans (belowK_b (w := w) (Nat.le_refl _) W D _ _ (by simp at hD; omega) hK rfl rfl)⟩
  case stop =>
    rintro D c pre W _ _ h _
    exact h.elim
end Go.Proofs.YtaandcblndldmaaGreat
