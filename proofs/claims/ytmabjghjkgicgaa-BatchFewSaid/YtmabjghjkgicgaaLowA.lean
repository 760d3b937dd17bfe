/- Maps in memory as plain functions of their keys: made, looked up, written, ranged over; keys that are structs of two integers. No program in sight. -/
import Derived.Test.YtmabjghjkgicgaaBase
import Derived.Maps.OwnOps
import Derived.Maps.RangeWalk
import Derived.Sort.MapsRangeIn
import Derived.DeepKeys5
import Derived.Test.YtmabjghjkgicgaaDotP
import Derived.Sort.Grow
import Derived.RangeFuncNested
import Derived.RangeFuncBound
import Derived.RangeFuncCalls
import Derived.RangeFuncLeaves
import Derived.Shelf.Abstract
import Derived.Shelf.RegionOpen
import Derived.OwnWalkIn
import Derived.TacticsInMore
import Derived.LoopNIn
import Derived.LoopIn
/- MapA -/
namespace Go.Proofs.Ytmabjghjkgicgaa
open Go.RowKit
open Go.Maps (Keyed)
set_option linter.unusedVariables false
set_option linter.unusedSimpArgs false

/-- an element of whatever type, held as it is -/
def heldE (v : Value) : Option (DataW Value × List MemPlace) := some (.held v, [])

section
variable {α : Type} {P : Program} {k : TypeId} {mk : α → Value} {w : World} {b n : Nat} {f : α → Option Value}

/-- what keys are -/
structure KeyAs (P : Program) (k : TypeId) (mk : α → Value) : Prop where
  law : Keyed P k
  form : ∀ v l, keyOf P k v = some l → ∃ a, v = mk a
  inj : ∀ a b, mk a = mk b → a = b

/-- the datum D holds f -/
def HoldsF (P : Program) (k : TypeId) (mk : α → Value) (D : DataW Value) (f : α → Option Value) : Prop :=
  Maps.IsMap D ∧ ∀ a l, keyOf P k (mk a) = some l → Maps.has D l = (f a).isSome ∧ ∀ v, f a = some v → ∀ z, D.atKey l z = .held v

/-- block b is a map of at most n keys that holds f -/
def MapF (w : World) (P : Program) (k : TypeId) (mk : α → Value) (b n : Nat) (f : α → Option Value) : Prop :=
  ∃ D : DataW Value, w.ownsMap P k heldE b n D ∧ HoldsF P k mk D f

theorem MapF.made (w : World) : MapF (w.alloc (.map #[] 0)) P k mk w.heap.size 0 (fun _ => none) :=
  ⟨.map [], World.ownsMap_made w P k heldE, ⟨[], rfl⟩, fun a l _ => ⟨rfl, fun v h => by cases h⟩⟩
theorem MapF.lt (h : MapF w P k mk b n f) : b < w.heap.size := by obtain ⟨D, h, _⟩ := h; exact h.lt
theorem MapF.congr (h : MapF w P k mk b n f) {g : α → Option Value} (hg : ∀ a l, keyOf P k (mk a) = some l → f a = g a) : MapF w P k mk b n g := by
  obtain ⟨D, h1, h2, h3⟩ := h
  exact ⟨D, h1, h2, fun a l hl => by rw [← hg a l hl]; exact h3 a l hl⟩
theorem MapF.mono (h : MapF w P k mk b n f) {m : Nat} (hm : n ≤ m) : MapF w P k mk b m f := by
  obtain ⟨D, h1, h2⟩ := h
  exact ⟨D, h1.mono hm, h2⟩
theorem MapF.chg {F : List Nat} {w' : World} (h : MapF w P k mk b n f) (hc : Chg F w w') (hb : b ∉ F) : MapF w' P k mk b n f := by
  obtain ⟨D, ⟨es, clock, h1, h2⟩, h3⟩ := h
  exact ⟨D, ⟨es, clock, heap_chg h1 hc hb, h2⟩, h3⟩
theorem MapF.below {w' : World} (h : MapF w P k mk b n f) (hb : Below w.heap.size w w') : MapF w' P k mk b n f := h.chg (F := []) (Chg.of_below hb) (by simp)
theorem MapF.alloc (h : MapF w P k mk b n f) (o : Obj) : MapF (w.alloc o) P k mk b n f := h.chg (F := []) (Chg.alloc _ _ _) (by simp)
theorem MapF.drew (h : MapF w P k mk b n f) : MapF w.drew P k mk b n f := h

theorem MapF.look {t e : TypeId} (h : MapF w P k mk b n f) (K : KeyAs P k mk) (ht : P.underlying t = some (.map k e)) {z : Value} (hz : (zeroValue e).run P w = .ok z w) {a : α} {l : Lit} (hk : keyOf P k (mk a) = some l) :
    (Instr.lookup t (.map (some b)) (mk a) false).run P w = .ok ((f a).getD z) w := by
  obtain ⟨D, h1, h2, h3⟩ := h
  obtain ⟨v, ps, hr, hv⟩ := h1.lookup K.law ht hz (zd := .held z) (zp := []) rfl hk
  obtain ⟨h4, h5⟩ := h3 a l hk
  have hv' : D.atKey l (.held z) = .held v := by simp [heldE] at hv; exact hv.1.symm
  rw [hr]
  cases hf : f a with
  | none =>
    rw [hf] at h4
    rw [Maps.atKey_of_not_has h4] at hv'
    injection hv' with e
    subst e; rfl
  | some u =>
    rw [h5 u hf] at hv'
    injection hv' with e
    subst e; rfl

theorem MapF.update [DecidableEq α] {t e : TypeId} (h : MapF w P k mk b n f) (K : KeyAs P k mk) (ht : P.underlying t = some (.map k e)) (hn : n < maxLen) {a : α} {l : Lit} (hk : keyOf P k (mk a) = some l) (val : Value) :
    ∃ w', (Instr.mapUpdate t (.map (some b)) (mk a) val).run P w = .ok () w' ∧ MapF w' P k mk b (n + 1) (fun x => if x = a then some val else f x) ∧ w.grownBy w' (some b) := by
  obtain ⟨D, h1, h2, h3⟩ := h
  obtain ⟨w', hr, ho, hg⟩ := h1.update K.law ht hn hk (d := .held val) (ps := []) rfl
  refine ⟨w', hr, ⟨D.put l (.held val), ho, h2.put _ _, fun x lx hx => ?_⟩, hg⟩
  dsimp only
  by_cases e : x = a
  · subst e
    rw [hk] at hx
    cases hx
    rw [if_pos rfl]
    exact ⟨Maps.has_put_same h2 (K.law.key hk) _, fun v hv z => by cases hv; exact Maps.atKey_put_same h2 (K.law.key hk) _ _⟩
  · rw [if_neg e]
    have hne : lx ≠ l := fun e' => e (K.inj _ _ (K.law.inj hx (e' ▸ hk)))
    obtain ⟨h4, h5⟩ := h3 x lx hx
    exact ⟨(Maps.has_put_other hne _).trans h4, fun v hv z => (Maps.atKey_put_other hne _ _).trans (h5 v hv z)⟩

/-- 'for .. range m' under way: which keys are still to come, how many -/
def RangeF (w : World) (P : Program) (k : TypeId) (mk : α → Value) (b r n : Nat) (f : α → Option Value) (left : α → Bool) (cnt : Nat) : Prop :=
  ∃ (D : DataW Value) (L : Lit → Bool), w.ranges P k heldE b r n D L cnt ∧ HoldsF P k mk D f ∧ ∀ a l, keyOf P k (mk a) = some l → left a = L l
theorem RangeF.map {r : Nat} {left : α → Bool} {cnt : Nat} (h : RangeF w P k mk b r n f left cnt) : MapF w P k mk b n f := by
  obtain ⟨D, L, h1, h2, _⟩ := h
  exact ⟨D, h1.owns, h2⟩
theorem RangeF.left_eq {r : Nat} {left : α → Bool} {cnt : Nat} (h : RangeF w P k mk b r n f left cnt) : w.rangeLeft b r = cnt := by
  obtain ⟨D, L, h1, _⟩ := h
  exact h1.left_eq
theorem RangeF.lt {r : Nat} {left : α → Bool} {cnt : Nat} (h : RangeF w P k mk b r n f left cnt) : r < w.heap.size := by
  obtain ⟨D, L, h1, _⟩ := h
  exact h1.lt
theorem RangeF.chg {F : List Nat} {w' : World} {r : Nat} {left : α → Bool} {cnt : Nat} (h : RangeF w P k mk b r n f left cnt) (hc : Chg F w w') (hb : b ∉ F) (hr : r ∉ F) : RangeF w' P k mk b r n f left cnt := by
  obtain ⟨D, L, ⟨es, clock, since, seen, c0, h1, h2, h3, h4, h5, h6⟩, h7, h8⟩ := h
  exact ⟨D, L, ⟨es, clock, since, seen, c0, heap_chg h1 hc hb, h2, h3, h4, heap_chg h5 hc hr, h6⟩, h7, h8⟩

theorem size_le {D : DataW Value} (h : w.ownsMap P k heldE b n D) : Maps.size D ≤ n := by
  obtain ⟨es, clock, h1, h2, h3, rfl⟩ := h
  show ((es.toList.map _).foldr DataW.insert []).length ≤ n
  rw [length_sorted]; simpa using h3

theorem MapF.range (h : MapF w P k mk b n f) (K : KeyAs P k mk) {t e : TypeId} (ht : P.underlying t = some (.map k e)) :
    ∃ w' cnt, (Instr.range t (.map (some b))).run P w = .ok (.pointer (some ⟨w.heap.size, 0, none⟩)) w' ∧ RangeF w' P k mk b w.heap.size n f (fun a => (f a).isSome) cnt ∧ cnt ≤ n ∧ w.grownBy w' none ∧ w'.heap.size = w.heap.size + 1 := by
  obtain ⟨D, h1, h2, h3⟩ := h
  obtain ⟨w', hr, g1, g2, g3⟩ := h1.range K.law ht
  exact ⟨w', _, hr, ⟨D, _, g1, ⟨h2, h3⟩, fun a l hl => (h3 a l hl).1.symm⟩, size_le h1, g2, g3⟩

theorem RangeF.next [DecidableEq α] {r : Nat} {left : α → Bool} {cnt : Nat} (h : RangeF w P k mk b r n f left cnt) (K : KeyAs P k mk) (ty : TypeId) :
    (cnt = 0 ∧ (∀ a l, keyOf P k (mk a) = some l → left a = false) ∧ (Instr.next (.pointer (some ⟨r, 0, none⟩)) false ty).run P w = .ok (.tuple #[.bool false]) w) ∨
    ∃ x v l w' cnt', keyOf P k (mk x) = some l ∧ left x = true ∧ f x = some v ∧ (Instr.next (.pointer (some ⟨r, 0, none⟩)) false ty).run P w = .ok (.tuple #[.bool true, mk x, v]) w' ∧
      RangeF w' P k mk b r n f (fun y => left y && !decide (y = x)) cnt' ∧ cnt' < cnt ∧ w.grownBy w' (some r) ∧ w'.heap.size = w.heap.size ∧ (Instr.entry (.pointer (some ⟨r, 0, none⟩))).run P w' = .ok (.tuple #[mk x, v]) w' := by
  obtain ⟨D, L, h1, h2, h3⟩ := h
  rcases h1.next K.law ty with ⟨h0, hl, hrun⟩ | ⟨key, v, kl, y, w', cnt', hkey, hlk, hv, hat, hrun, hrg, hlt, hgr, hsz, hen⟩
  · exact .inl ⟨h0, fun a l ha => (h3 a l ha).trans (hl l), hrun⟩
  · obtain ⟨x, rfl⟩ := K.form key kl hkey
    obtain ⟨h4, h5⟩ := h2.2 x kl hkey
    have hat' := hat (.held undef)
    have hvy : y.1 = .held v := by simp [heldE] at hv; rw [← hv]
    rw [hvy] at hat'
    have hfx : f x = some v := by
      cases hf : f x with
      | none =>
        rw [hf] at h4
        have h6 := hat (.lit (.int .i64 0))
        rw [Maps.atKey_of_not_has h4, hvy] at h6
        cases h6
      | some u => rw [h5 u hf] at hat'; injection hat' with e; rw [e]
    refine .inr ⟨x, v, kl, w', cnt', hkey, (h3 x kl hkey).trans hlk, hfx, hrun, ⟨D, _, hrg, h2, fun a l ha => ?_⟩, hlt, hgr, hsz, hen⟩
    dsimp only
    rw [h3 a l ha]
    congr 1
    by_cases e : a = x
    · subst e
      rw [hkey] at ha
      cases ha
      rw [WideAt.sameKey_self (K.law.key hkey)]; simp
    · have hne : l ≠ kl := fun e' => e (K.inj _ _ (K.law.inj ha (e' ▸ hkey)))
      rw [Maps.sameKey_ne hne]; simp [e]
end

section
variable {α : Type} {P : Program} {k : TypeId} {mk : α → Value} {w : World} {ops : Array Oper} {rest : List Oper} {o : Oper} {a : Act} {Q : Exit → Act → World → Prop}
theorem wpList_look_F (K : KeyAs P k mk) (hg : o.guard = none) (m x : Operand) (t : TypeId) (hop : o.op = Op.lookup t m x false) (e : TypeId) (ht : P.underlying t = some (.map k e)) (z : Value) (hz : ∀ w, (zeroValue e).run P w = .ok z w) (b n : Nat) (f : α → Option Value)
    (hm : a.eval m = .map (some b)) (h : MapF w P k mk b n f) (c : α) (l : Lit) (hx : a.eval x = mk c) (hk : keyOf P k (mk c) = some l)
    (hK : wpList P ops Q rest (a.put o.dst ((f c).getD z)) w) : wpList P ops Q (o :: rest) a w := by
  refine wpList_plain hg fun K' hK' => ?_
  unfold Oper.wp
  simp [execOp, hop, hm, hx, h.look K ht (hz w) hk, Result.andThen]
  exact hK' _ _ hK
theorem wpList_update_F [DecidableEq α] (K : KeyAs P k mk) (hg : o.guard = none) (m x v : Operand) (t : TypeId) (hop : o.op = Op.mapUpdate t m x v) (e : TypeId) (ht : P.underlying t = some (.map k e)) (b n : Nat) (f : α → Option Value)
    (hm : a.eval m = .map (some b)) (h : MapF w P k mk b n f) (hn : n < maxLen) (c : α) (l : Lit) (val : Value) (hx : a.eval x = mk c) (hv : a.eval v = val) (hk : keyOf P k (mk c) = some l)
    (hK : ∀ w', MapF w' P k mk b (n + 1) (fun x => if x = c then some val else f x) → w.grownBy w' (some b) → wpList P ops Q rest (a.put o.dst undef) w') : wpList P ops Q (o :: rest) a w := by
  refine wpList_plain hg fun K' hK' => ?_
  obtain ⟨w', hrun, r1, r2⟩ := h.update K ht hn hk val
  unfold Oper.wp
  simp [execOp, hop, hm, hx, hv, hrun, Result.andThen]
  exact hK' _ _ (hK w' r1 r2)
theorem wpList_range_F (K : KeyAs P k mk) (hg : o.guard = none) (m : Operand) (t : TypeId) (hop : o.op = Op.range t m) (e : TypeId) (ht : P.underlying t = some (.map k e)) (b n : Nat) (f : α → Option Value)
    (hm : a.eval m = .map (some b)) (h : MapF w P k mk b n f)
    (hK : ∀ w' cnt, RangeF w' P k mk b w.heap.size n f (fun a => (f a).isSome) cnt → cnt ≤ n → w.grownBy w' none → w'.heap.size = w.heap.size + 1 → wpList P ops Q rest (a.put o.dst (.pointer (some ⟨w.heap.size, 0, none⟩))) w') : wpList P ops Q (o :: rest) a w := by
  refine wpList_plain hg fun K' hK' => ?_
  obtain ⟨w', cnt, hrun, r1, r2, r3, r4⟩ := h.range K ht
  unfold Oper.wp
  simp [execOp, hop, hm, hrun, Result.andThen]
  exact hK' _ _ (hK w' cnt r1 r2 r3 r4)
theorem wpList_next_F [DecidableEq α] (K : KeyAs P k mk) (hg : o.guard = none) (it : Operand) (hop : o.op = Op.next it false) (b r n : Nat) (f : α → Option Value) (left : α → Bool) (cnt : Nat)
    (hit : a.eval it = .pointer (some ⟨r, 0, none⟩)) (h : RangeF w P k mk b r n f left cnt)
    (hDone : cnt = 0 → (∀ a l, keyOf P k (mk a) = some l → left a = false) → wpList P ops Q rest (a.put o.dst (.tuple #[.bool false])) w)
    (hMore : ∀ x v l w' cnt', keyOf P k (mk x) = some l → left x = true → f x = some v → RangeF w' P k mk b r n f (fun y => left y && !decide (y = x)) cnt' → cnt' < cnt → w.grownBy w' (some r) → w'.heap.size = w.heap.size →
      (Instr.entry (.pointer (some ⟨r, 0, none⟩))).run P w' = .ok (.tuple #[mk x, v]) w' → wpList P ops Q rest (a.put o.dst (.tuple #[.bool true, mk x, v])) w') : wpList P ops Q (o :: rest) a w := by
  refine wpList_plain hg fun K' hK' => ?_
  unfold Oper.wp
  rcases h.next K o.type with ⟨h0, hl, hrun⟩ | ⟨x, v, l, w', cnt', h1, h2, h3, hrun, h4⟩
  · simp [execOp, hop, hit, hrun, Result.andThen]
    exact hK' _ _ (hDone h0 hl)
  · simp [execOp, hop, hit, hrun, Result.andThen]
    exact hK' _ _ (hMore x v l w' cnt' h1 h2 h3 h4.1 h4.2.1 h4.2.2.1 h4.2.2.2.1 h4.2.2.2.2)

variable {F : Fence} {nf : Nat}
theorem wpListIn_range_F (K : KeyAs P k mk) (hg : o.guard = none) (m : Operand) (t : TypeId) (hop : o.op = Op.range t m) (e : TypeId) (ht : P.underlying t = some (.map k e)) (b n : Nat) (f : α → Option Value)
    (hm : a.eval m = .map (some b)) (h : MapF w P k mk b n f)
    (hK : ∀ w' cnt, RangeF w' P k mk b w.heap.size n f (fun a => (f a).isSome) cnt → cnt ≤ n → w.grownBy w' none → w'.heap.size = w.heap.size + 1 → wpListIn F nf P ops Q rest (a.put o.dst (.pointer (some ⟨w.heap.size, 0, none⟩))) w') : wpListIn F nf P ops Q (o :: rest) a w := by
  refine wpListIn_plain hg fun K' hK' => ?_
  obtain ⟨w', cnt, hrun, r1, r2, r3, r4⟩ := h.range K ht
  unfold Oper.wpIn
  refine ⟨?_, ?_⟩
  · simp [Oper.about, hop]
  · rw [Oper.semAt_plain F _ _ (by rw [hop]; intro c hc'; cases hc')]
    simp [execOp, hop, hm, hrun, Result.andThen]
    exact hK' _ _ (hK w' cnt r1 r2 r3 r4)
theorem wpListIn_next_F [DecidableEq α] (K : KeyAs P k mk) (hg : o.guard = none) (it : Operand) (hop : o.op = Op.next it false) (b r n : Nat) (f : α → Option Value) (left : α → Bool) (cnt : Nat)
    (hit : a.eval it = .pointer (some ⟨r, 0, none⟩)) (h : RangeF w P k mk b r n f left cnt)
    (hDone : cnt = 0 → (∀ a l, keyOf P k (mk a) = some l → left a = false) → wpListIn F nf P ops Q rest (a.put o.dst (.tuple #[.bool false])) w)
    (hMore : ∀ x v l w' cnt', keyOf P k (mk x) = some l → left x = true → f x = some v → RangeF w' P k mk b r n f (fun y => left y && !decide (y = x)) cnt' → cnt' < cnt → w.grownBy w' (some r) → w'.heap.size = w.heap.size →
      (Instr.entry (.pointer (some ⟨r, 0, none⟩))).run P w' = .ok (.tuple #[mk x, v]) w' → wpListIn F nf P ops Q rest (a.put o.dst (.tuple #[.bool true, mk x, v])) w') : wpListIn F nf P ops Q (o :: rest) a w := by
  refine wpListIn_plain hg fun K' hK' => ?_
  unfold Oper.wpIn
  refine ⟨by simp [Oper.about, hop], ?_⟩
  rw [Oper.semAt_plain F _ _ (by rw [hop]; intro c hc'; cases hc')]
  rcases h.next K o.type with ⟨h0, hl, hrun⟩ | ⟨x, v, l, w', cnt', h1, h2, h3, hrun, h4⟩
  · simp [execOp, hop, hit, hrun, Result.andThen]
    exact hK' _ _ (hDone h0 hl)
  · simp [execOp, hop, hit, hrun, Result.andThen]
    exact hK' _ _ (hMore x v l w' cnt' h1 h2 h3 h4.1 h4.2.1 h4.2.2.1 h4.2.2.2.1 h4.2.2.2.2)
end
end Go.Proofs.Ytmabjghjkgicgaa

/- MapB -/
namespace Go.Proofs.Ytmabjghjkgicgaa
open Go.RowKit
set_option linter.unusedVariables false
set_option linter.unusedSimpArgs false
theorem wf8 (r : Int) : (Lit.int .u8 r).wf = true ↔ 0 ≤ r ∧ r ≤ 255 := by simp [Lit.wf, IntKind.min, IntKind.max, IntKind.signed, IntKind.bits]
theorem wf32 (r : Int) : (Lit.int .u32 r).wf = true ↔ 0 ≤ r ∧ r ≤ 4294967295 := by simp [Lit.wf, IntKind.min, IntKind.max, IntKind.signed, IntKind.bits]
theorem wf64 (r : Int) : (Lit.int .u64 r).wf = true ↔ 0 ≤ r ∧ r ≤ 18446744073709551615 := by simp [Lit.wf, IntKind.min, IntKind.max, IntKind.signed, IntKind.bits]
section
variable {P : Program}
def litOf (q : IntKind) (v : Value) : Option (List Lit) :=
  match v with
  | .int q' n => if q' = q ∧ (Lit.int q n).wf = true then some [.int q n] else none
  | _ => none
theorem keyLits_one {d : Nat} {t : TypeId} {q : IntKind} (hu : P.underlying t = some (.int q)) (v : Value) : P.keyLits (d + 1) t [v] = litOf q v := by
  unfold Program.keyLits litOf
  rw [hu]
  cases v <;> rfl
theorem litOf_some {q : IntKind} {v : Value} {L : List Lit} (h : litOf q v = some L) : ∃ n, v = .int q n ∧ (Lit.int q n).wf = true := by
  unfold litOf at h
  split at h
  · split at h
    · rename_i hc; obtain ⟨rfl, hw⟩ := hc; exact ⟨_, rfl, hw⟩
    · cases h
  · cases h
theorem keyLits_two {d : Nat} {k : TypeId} {f0 f1 : Field} {q0 q1 : IntKind} (hu : P.underlying k = some (.struct #[f0, f1])) (n0 : (f0.name != "_") = true) (n1 : (f1.name != "_") = true) (o0 : f0.offset = 0) (o1 : f1.offset = 1)
    (c : P.cellsOf k = 2) (c0 : P.cellsOf f0.type = 1) (c1 : P.cellsOf f1.type = 1) (u0 : P.underlying f0.type = some (.int q0)) (u1 : P.underlying f1.type = some (.int q1)) (x y : Value) :
    P.keyLits (d + 2) k [x, y] = (litOf q0 x).bind fun a => (litOf q1 y).map fun b => a ++ b := by
  rw [show d + 2 = (d + 1) + 1 from rfl]
  unfold Program.keyLits
  rw [hu]
  simp only [c, List.length_cons, List.length_nil, Nat.zero_add, Nat.reduceAdd, true_and]
  rw [if_pos (by simp [n0, n1])]
  simp only [List.mapM_cons, List.mapM_nil, o0, o1, c0, c1, List.drop_zero, List.drop_succ_cons, List.take_succ_cons, List.take_zero, keyLits_one u0, keyLits_one u1]
  cases litOf q0 x <;> cases litOf q1 y <;> simp
theorem key2_form {k : TypeId} {f0 f1 : Field} {q0 q1 : IntKind} (hu : P.underlying k = some (.struct #[f0, f1])) (n0 : (f0.name != "_") = true) (n1 : (f1.name != "_") = true) (o0 : f0.offset = 0) (o1 : f1.offset = 1)
    (c : P.cellsOf k = 2) (c0 : P.cellsOf f0.type = 1) (c1 : P.cellsOf f1.type = 1) (u0 : P.underlying f0.type = some (.int q0)) (u1 : P.underlying f1.type = some (.int q1)) (hs : 1 ≤ P.types.size) (v : Value) (l : Lit) (h : keyOf P k v = some l) :
    ∃ a b, v = .agg #[.int q0 a, .int q1 b] ∧ (Lit.int q0 a).wf = true ∧ (Lit.int q1 b).wf = true := by
  obtain ⟨xs, L, rfl, hL, _⟩ := keyOf_top (by rw [hu]) h
  have hlen : xs.toList.length = 2 := by
    have h' := hL
    unfold Program.keyLits at h'
    rw [hu] at h'
    simp only [c] at h'
    split at h'
    · rename_i hc; exact hc.1
    · cases h'
  obtain ⟨d, hd⟩ : ∃ d, P.types.size = d + 1 := ⟨P.types.size - 1, by omega⟩
  rw [hd] at hL
  obtain ⟨l⟩ := xs
  match l, hlen with
  | [x, y], _ =>
    have h2 : P.keyLits (d + 2) k [x, y] = some L := hL
    rw [keyLits_two hu n0 n1 o0 o1 c c0 c1 u0 u1] at h2
    cases h0 : litOf q0 x with
    | none => rw [h0] at h2; cases h2
    | some A =>
      rw [h0] at h2
      cases h1 : litOf q1 y with
      | none => rw [h1] at h2; cases h2
      | some B =>
        obtain ⟨a, rfl, ha⟩ := litOf_some h0
        obtain ⟨b, rfl, hb⟩ := litOf_some h1
        exact ⟨a, b, rfl, ha, hb⟩
theorem key2_ok {k : TypeId} {f0 f1 : Field} {q0 q1 : IntKind} (hu : P.underlying k = some (.struct #[f0, f1])) (n0 : (f0.name != "_") = true) (n1 : (f1.name != "_") = true) (o0 : f0.offset = 0) (o1 : f1.offset = 1)
    (c : P.cellsOf k = 2) (c0 : P.cellsOf f0.type = 1) (c1 : P.cellsOf f1.type = 1) (u0 : P.underlying f0.type = some (.int q0)) (u1 : P.underlying f1.type = some (.int q1)) (hs : 1 ≤ P.types.size) (hk : P.keyType k = true) {a b : Int} (ha : (Lit.int q0 a).wf = true) (hb : (Lit.int q1 b).wf = true) :
    ∃ l, keyOf P k (.agg #[.int q0 a, .int q1 b]) = some l := by
  obtain ⟨d, hd⟩ : ∃ d, P.types.size = d + 1 := ⟨P.types.size - 1, by omega⟩
  have h2 := keyLits_two (d := d) hu n0 n1 o0 o1 c c0 c1 u0 u1 (.int q0 a) (.int q1 b)
  have hf : (Value.agg #[.int q0 a, .int q1 b]).formed P k = true := by simp [Value.formed, hu, c]
  have hl : (Value.agg #[.int q0 a, .int q1 b]).cells.toList = [.int q0 a, .int q1 b] := by simp [Value.cells]
  unfold keyOf
  rw [hu]
  simp only [hk, hf, hl, hd, Bool.and_self, if_true]
  rw [show d + 1 + 1 = d + 2 from rfl, h2]
  simp [litOf, ha, hb]
end
end Go.Proofs.Ytmabjghjkgicgaa
