/- Maps in memory as plain functions of their keys: made, looked up, written, ranged over; keys that are structs of two integers. No program in sight. | Which actors and dots may be; which is ahead: contracts of package dot and of cmp. | Slices of dots; which dots may be and which are ahead, by the reference. -/
import Derived.Test.YtmabjghjkgicgaaGreatBase
import Derived.Maps.OwnOps
import Derived.Maps.RangeWalk
import Derived.Sort.MapsRangeIn
import Derived.DeepKeys5
import Derived.Test.YtmabjghjkgicgaaGreatDotP
import Derived.Sort.Grow
import Derived.RangeFuncNested
import Derived.RangeFuncBound
import Derived.RangeFuncCalls
import Derived.RangeFuncLeaves
import Derived.Shelf.Abstract
import Derived.Shelf.RegionOpen
import Derived.OwnWalkIn
import Derived.TacticsInMore
import Derived.LoopNIn
import Derived.LoopIn
/- LowA -/
/- MapA -/
namespace Go.Proofs.YtmabjghjkgicgaaGreat
open Go.RowKit
open Go.Maps (Keyed)
set_option linter.unusedVariables false
set_option linter.unusedSimpArgs false

/-- an element of whatever type, held as it is -/
def heldE (v : Value) : Option (DataW Value × List MemPlace) := some (.held v, [])

section
variable {α : Type} {P : Program} {k : TypeId} {mk : α → Value} {w : World} {b n : Nat} {f : α → Option Value}

/-- what keys are -/
structure KeyAs (P : Program) (k : TypeId) (mk : α → Value) : Prop where
  law : Keyed P k
  form : ∀ v l, keyOf P k v = some l → ∃ a, v = mk a
  inj : ∀ a b, mk a = mk b → a = b

/-- the datum D holds f -/
def HoldsF (P : Program) (k : TypeId) (mk : α → Value) (D : DataW Value) (f : α → Option Value) : Prop :=
  Maps.IsMap D ∧ ∀ a l, keyOf P k (mk a) = some l → Maps.has D l = (f a).isSome ∧ ∀ v, f a = some v → ∀ z, D.atKey l z = .held v

/-- block b is a map of at most n keys that holds f -/
def MapF (w : World) (P : Program) (k : TypeId) (mk : α → Value) (b n : Nat) (f : α → Option Value) : Prop :=
  ∃ D : DataW Value, w.ownsMap P k heldE b n D ∧ HoldsF P k mk D f

theorem MapF.made (w : World) : MapF (w.alloc (.map #[] 0)) P k mk w.heap.size 0 (fun _ => none) :=
  ⟨.map [], World.ownsMap_made w P k heldE, ⟨[], rfl⟩, fun a l _ => ⟨rfl, fun v h => by cases h⟩⟩
theorem MapF.lt (h : MapF w P k mk b n f) : b < w.heap.size := by obtain ⟨D, h, _⟩ := h; exact h.lt
theorem MapF.congr (h : MapF w P k mk b n f) {g : α → Option Value} (hg : ∀ a l, keyOf P k (mk a) = some l → f a = g a) : MapF w P k mk b n g := by
  obtain ⟨D, h1, h2, h3⟩ := h
  exact ⟨D, h1, h2, fun a l hl => by rw [← hg a l hl]; exact h3 a l hl⟩
theorem MapF.mono (h : MapF w P k mk b n f) {m : Nat} (hm : n ≤ m) : MapF w P k mk b m f := by
  obtain ⟨D, h1, h2⟩ := h
  exact ⟨D, h1.mono hm, h2⟩
theorem MapF.chg {F : List Nat} {w' : World} (h : MapF w P k mk b n f) (hc : Chg F w w') (hb : b ∉ F) : MapF w' P k mk b n f := by
  obtain ⟨D, ⟨es, clock, h1, h2⟩, h3⟩ := h
  exact ⟨D, ⟨es, clock, heap_chg h1 hc hb, h2⟩, h3⟩
theorem MapF.below {w' : World} (h : MapF w P k mk b n f) (hb : Below w.heap.size w w') : MapF w' P k mk b n f := h.chg (F := []) (Chg.of_below hb) (by simp)
theorem MapF.alloc (h : MapF w P k mk b n f) (o : Obj) : MapF (w.alloc o) P k mk b n f := h.chg (F := []) (Chg.alloc _ _ _) (by simp)
theorem MapF.drew (h : MapF w P k mk b n f) : MapF w.drew P k mk b n f := h

theorem MapF.look {t e : TypeId} (h : MapF w P k mk b n f) (K : KeyAs P k mk) (ht : P.underlying t = some (.map k e)) {z : Value} (hz : (zeroValue e).run P w = .ok z w) {a : α} {l : Lit} (hk : keyOf P k (mk a) = some l) :
    (Instr.lookup t (.map (some b)) (mk a) false).run P w = .ok ((f a).getD z) w := by
  obtain ⟨D, h1, h2, h3⟩ := h
  obtain ⟨v, ps, hr, hv⟩ := h1.lookup K.law ht hz (zd := .held z) (zp := []) rfl hk
  obtain ⟨h4, h5⟩ := h3 a l hk
  have hv' : D.atKey l (.held z) = .held v := by simp [heldE] at hv; exact hv.1.symm
  rw [hr]
  cases hf : f a with
  | none =>
    rw [hf] at h4
    rw [Maps.atKey_of_not_has h4] at hv'
    injection hv' with e
    subst e; rfl
  | some u =>
    rw [h5 u hf] at hv'
    injection hv' with e
    subst e; rfl

/-- 'for .. range m' under way: which keys are still to come, how many -/
def RangeF (w : World) (P : Program) (k : TypeId) (mk : α → Value) (b r n : Nat) (f : α → Option Value) (left : α → Bool) (cnt : Nat) : Prop :=
  ∃ (D : DataW Value) (L : Lit → Bool), w.ranges P k heldE b r n D L cnt ∧ HoldsF P k mk D f ∧ ∀ a l, keyOf P k (mk a) = some l → left a = L l
theorem RangeF.map {r : Nat} {left : α → Bool} {cnt : Nat} (h : RangeF w P k mk b r n f left cnt) : MapF w P k mk b n f := by
  obtain ⟨D, L, h1, h2, _⟩ := h
  exact ⟨D, h1.owns, h2⟩
theorem RangeF.lt {r : Nat} {left : α → Bool} {cnt : Nat} (h : RangeF w P k mk b r n f left cnt) : r < w.heap.size := by
  obtain ⟨D, L, h1, _⟩ := h
  exact h1.lt
theorem RangeF.chg {F : List Nat} {w' : World} {r : Nat} {left : α → Bool} {cnt : Nat} (h : RangeF w P k mk b r n f left cnt) (hc : Chg F w w') (hb : b ∉ F) (hr : r ∉ F) : RangeF w' P k mk b r n f left cnt := by
  obtain ⟨D, L, ⟨es, clock, since, seen, c0, h1, h2, h3, h4, h5, h6⟩, h7, h8⟩ := h
  exact ⟨D, L, ⟨es, clock, since, seen, c0, heap_chg h1 hc hb, h2, h3, h4, heap_chg h5 hc hr, h6⟩, h7, h8⟩

theorem size_le {D : DataW Value} (h : w.ownsMap P k heldE b n D) : Maps.size D ≤ n := by
  obtain ⟨es, clock, h1, h2, h3, rfl⟩ := h
  show ((es.toList.map _).foldr DataW.insert []).length ≤ n
  rw [length_sorted]; simpa using h3

theorem MapF.range (h : MapF w P k mk b n f) (K : KeyAs P k mk) {t e : TypeId} (ht : P.underlying t = some (.map k e)) :
    ∃ w' cnt, (Instr.range t (.map (some b))).run P w = .ok (.pointer (some ⟨w.heap.size, 0, none⟩)) w' ∧ RangeF w' P k mk b w.heap.size n f (fun a => (f a).isSome) cnt ∧ cnt ≤ n ∧ w.grownBy w' none ∧ w'.heap.size = w.heap.size + 1 := by
  obtain ⟨D, h1, h2, h3⟩ := h
  obtain ⟨w', hr, g1, g2, g3⟩ := h1.range K.law ht
  exact ⟨w', _, hr, ⟨D, _, g1, ⟨h2, h3⟩, fun a l hl => (h3 a l hl).1.symm⟩, size_le h1, g2, g3⟩

theorem RangeF.next [DecidableEq α] {r : Nat} {left : α → Bool} {cnt : Nat} (h : RangeF w P k mk b r n f left cnt) (K : KeyAs P k mk) (ty : TypeId) :
    (cnt = 0 ∧ (∀ a l, keyOf P k (mk a) = some l → left a = false) ∧ (Instr.next (.pointer (some ⟨r, 0, none⟩)) false ty).run P w = .ok (.tuple #[.bool false]) w) ∨
    ∃ x v l w' cnt', keyOf P k (mk x) = some l ∧ left x = true ∧ f x = some v ∧ (Instr.next (.pointer (some ⟨r, 0, none⟩)) false ty).run P w = .ok (.tuple #[.bool true, mk x, v]) w' ∧
      RangeF w' P k mk b r n f (fun y => left y && !decide (y = x)) cnt' ∧ cnt' < cnt ∧ w.grownBy w' (some r) ∧ w'.heap.size = w.heap.size ∧ (Instr.entry (.pointer (some ⟨r, 0, none⟩))).run P w' = .ok (.tuple #[mk x, v]) w' := by
  obtain ⟨D, L, h1, h2, h3⟩ := h
  rcases h1.next K.law ty with ⟨h0, hl, hrun⟩ | ⟨key, v, kl, y, w', cnt', hkey, hlk, hv, hat, hrun, hrg, hlt, hgr, hsz, hen⟩
  · exact .inl ⟨h0, fun a l ha => (h3 a l ha).trans (hl l), hrun⟩
  · obtain ⟨x, rfl⟩ := K.form key kl hkey
    obtain ⟨h4, h5⟩ := h2.2 x kl hkey
    have hat' := hat (.held undef)
    have hvy : y.1 = .held v := by simp [heldE] at hv; rw [← hv]
    rw [hvy] at hat'
    have hfx : f x = some v := by
      cases hf : f x with
      | none =>
        rw [hf] at h4
        have h6 := hat (.lit (.int .i64 0))
        rw [Maps.atKey_of_not_has h4, hvy] at h6
        cases h6
      | some u => rw [h5 u hf] at hat'; injection hat' with e; rw [e]
    refine .inr ⟨x, v, kl, w', cnt', hkey, (h3 x kl hkey).trans hlk, hfx, hrun, ⟨D, _, hrg, h2, fun a l ha => ?_⟩, hlt, hgr, hsz, hen⟩
    dsimp only
    rw [h3 a l ha]
    congr 1
    by_cases e : a = x
    · subst e
      rw [hkey] at ha
      cases ha
      rw [WideAt.sameKey_self (K.law.key hkey)]; simp
    · have hne : l ≠ kl := fun e' => e (K.inj _ _ (K.law.inj ha (e' ▸ hkey)))
      rw [Maps.sameKey_ne hne]; simp [e]
end

section
variable {α : Type} {P : Program} {k : TypeId} {mk : α → Value} {w : World} {ops : Array Oper} {rest : List Oper} {o : Oper} {a : Act} {Q : Exit → Act → World → Prop}
variable {F : Fence} {nf : Nat}
end
end Go.Proofs.YtmabjghjkgicgaaGreat

/- MapB -/
namespace Go.Proofs.YtmabjghjkgicgaaGreat
open Go.RowKit
set_option linter.unusedVariables false
set_option linter.unusedSimpArgs false
theorem wf8 (r : Int) : (Lit.int .u8 r).wf = true ↔ 0 ≤ r ∧ r ≤ 255 := by simp [Lit.wf, IntKind.min, IntKind.max, IntKind.signed, IntKind.bits]
theorem wf32 (r : Int) : (Lit.int .u32 r).wf = true ↔ 0 ≤ r ∧ r ≤ 4294967295 := by simp [Lit.wf, IntKind.min, IntKind.max, IntKind.signed, IntKind.bits]
theorem wf64 (r : Int) : (Lit.int .u64 r).wf = true ↔ 0 ≤ r ∧ r ≤ 18446744073709551615 := by simp [Lit.wf, IntKind.min, IntKind.max, IntKind.signed, IntKind.bits]
section
variable {P : Program}
def litOf (q : IntKind) (v : Value) : Option (List Lit) :=
  match v with
  | .int q' n => if q' = q ∧ (Lit.int q n).wf = true then some [.int q n] else none
  | _ => none
theorem keyLits_one {d : Nat} {t : TypeId} {q : IntKind} (hu : P.underlying t = some (.int q)) (v : Value) : P.keyLits (d + 1) t [v] = litOf q v := by
  unfold Program.keyLits litOf
  rw [hu]
  cases v <;> rfl
theorem keyLits_two {d : Nat} {k : TypeId} {f0 f1 : Field} {q0 q1 : IntKind} (hu : P.underlying k = some (.struct #[f0, f1])) (n0 : (f0.name != "_") = true) (n1 : (f1.name != "_") = true) (o0 : f0.offset = 0) (o1 : f1.offset = 1)
    (c : P.cellsOf k = 2) (c0 : P.cellsOf f0.type = 1) (c1 : P.cellsOf f1.type = 1) (u0 : P.underlying f0.type = some (.int q0)) (u1 : P.underlying f1.type = some (.int q1)) (x y : Value) :
    P.keyLits (d + 2) k [x, y] = (litOf q0 x).bind fun a => (litOf q1 y).map fun b => a ++ b := by
  rw [show d + 2 = (d + 1) + 1 from rfl]
  unfold Program.keyLits
  rw [hu]
  simp only [c, List.length_cons, List.length_nil, Nat.zero_add, Nat.reduceAdd, true_and]
  rw [if_pos (by simp [n0, n1])]
  simp only [List.mapM_cons, List.mapM_nil, o0, o1, c0, c1, List.drop_zero, List.drop_succ_cons, List.take_succ_cons, List.take_zero, keyLits_one u0, keyLits_one u1]
  cases litOf q0 x <;> cases litOf q1 y <;> simp
end
end Go.Proofs.YtmabjghjkgicgaaGreat

/- LowB -/
/- DotA -/
namespace Go.Proofs.YtmabjghjkgicgaaGreat
open Go.RowKit
set_option linter.unusedVariables false
set_option linter.unusedSimpArgs false

theorem mixed : Tryz.prog.follows .mixedOrders = true := by kernel_rfl
theorem laidOutP : laidOutB Tryz.prog = true := by kernel_rfl
/-! which may be -/
theorem mayActor_any (r i : Int) (w : World) : Calls Tryz.prog 87 #[.agg #[.int .u8 r, .int .u32 i]] w fun e w' => e = .returned (.bool (mayA (r, i))) ∧ Below w.heap.size w w' := by
  have hB : ∀ o, Below w.heap.size w (w.alloc o) := fun o => (Below.refl _ _).alloc (Nat.le_refl _) _
  by_cases h1 : r < 16
  · by_cases h2 : 1 ≤ i
    · by_cases h3 : i ≤ 4
      · have e : mayA (r, i) = true := by simp [mayA, h1, h2, h3]
        rw [e]
        clear e
        go_enter Tryz.func87, Tryz.ntmps87
        go_wp2
        go_ret
        exact ⟨rfl, hB _⟩
      · have e : mayA (r, i) = false := by simp [mayA, h1, h2, h3] <;> omega
        rw [e]
        clear e
        go_enter Tryz.func87, Tryz.ntmps87
        go_wp2
        go_ret
        exact ⟨rfl, hB _⟩
    · have e : mayA (r, i) = false := by simp [mayA, h1, h2] <;> omega
      rw [e]
      clear e
      go_enter Tryz.func87, Tryz.ntmps87
      go_wp2
      go_ret
      exact ⟨rfl, hB _⟩
  · have e : mayA (r, i) = false := by simp [mayA, h1] <;> omega
    rw [e]
    clear e
    go_enter Tryz.func87, Tryz.ntmps87
    go_wp2
    go_ret
    exact ⟨rfl, hB _⟩

theorem may_any (r i s : Int) (w : World) : Calls Tryz.prog 77 #[.agg #[.int .u8 r, .int .u32 i, .int .u64 s]] w fun e w' => e = .returned (.bool (may ((r, i), s))) ∧ Below w.heap.size w w' := by
  have hm : ∀ b, mayA (r, i) = b → Calls Tryz.prog 87 #[.agg #[.int .u8 r, .int .u32 i]] (w.alloc (.cells #[.int .u8 r, .int .u32 i, .int .u64 s] 44)) fun e w' => e = .returned (.bool b) ∧ Below w.heap.size w w' ∧ (∀ j, w'.cell? ⟨w.heap.size, j, none⟩ = #[Value.int .u8 r, .int .u32 i, .int .u64 s][j]?) := by
    intro b hb
    refine (mayActor_any r i _).mono ?_
    rintro e w' ⟨rfl, hbl⟩
    obtain ⟨h1, h2, h3⟩ := new1 hbl
    rw [hb]
    exact ⟨rfl, h3, cells_at h1⟩
  cases hA : mayA (r, i) with
  | false =>
    have hm' := hm _ hA
    have e : may ((r, i), s) = false := by simp [may, hA]
    rw [e]
    clear e hm hA
    go_enter Tryz.func77, Tryz.ntmps77
    go_wp2_with (go_at_call 87; refine hm'.mono ?_; rintro e w' ⟨rfl, hb, hc⟩)
    go_ret
    exact ⟨rfl, hb⟩
  | true =>
    have hm' := hm _ hA
    clear hm
    by_cases h1 : 1 ≤ s
    · by_cases h2 : s ≤ 1048576
      · have e : may ((r, i), s) = true := by simp [may, hA, h1, h2]
        rw [e]
        clear e hA
        go_enter Tryz.func77, Tryz.ntmps77
        go_wp2_with (go_at_call 87; refine hm'.mono ?_; rintro e w' ⟨rfl, hb, hc⟩)
        go_ret
        exact ⟨rfl, hb⟩
      · have e : may ((r, i), s) = false := by simp [may, hA, h1, h2] <;> omega
        have h2' : decide (s ≤ 1048576) = false := by simpa using h2
        rw [e]
        clear e hA
        go_enter Tryz.func77, Tryz.ntmps77
        go_wp2_with (go_at_call 87; refine hm'.mono ?_; rintro e w' ⟨rfl, hb, hc⟩)
        go_ret
        exact ⟨rfl, hb⟩
    · have e : may ((r, i), s) = false := by simp [may, hA, h1] <;> omega
      rw [e]
      clear e hA
      go_enter Tryz.func77, Tryz.ntmps77
      go_wp2_with (go_at_call 87; refine hm'.mono ?_; rintro e w' ⟨rfl, hb, hc⟩)
      go_ret
      exact ⟨rfl, hb⟩

/-! which is ahead -/
def cmpI (x y : Int) : Int := if x < y then -1 else if y < x then 1 else 0
def orI : List Int → Int
  | [] => 0
  | x :: xs => if x = 0 then orI xs else x
def cmpA (a b : Ac) : Int := orI [cmpI a.1 b.1, cmpI a.2 b.2]
theorem cmpu8 (x y : Int) (w : World) : Calls Tryz.prog 99 #[.int .u8 x, .int .u8 y] w fun e w' => e = .returned (.int .i64 (cmpI x y)) ∧ w = w' := by
  by_cases h1 : x < y
  · have e : cmpI x y = -1 := by simp [cmpI, h1]
    rw [e]
    clear e
    go_enter Tryz.func99, Tryz.ntmps99
    go_wp2
    go_ret
    exact ⟨rfl, rfl⟩
  · by_cases h2 : y < x
    · have e : cmpI x y = 1 := by simp [cmpI, h1, h2]
      rw [e]
      clear e
      go_enter Tryz.func99, Tryz.ntmps99
      go_wp2
      go_ret
      exact ⟨rfl, rfl⟩
    · have e : cmpI x y = 0 := by simp [cmpI, h1, h2]
      rw [e]
      clear e
      go_enter Tryz.func99, Tryz.ntmps99
      go_wp2
      go_ret
      exact ⟨rfl, rfl⟩
theorem cmpu32 (x y : Int) (w : World) : Calls Tryz.prog 100 #[.int .u32 x, .int .u32 y] w fun e w' => e = .returned (.int .i64 (cmpI x y)) ∧ w = w' := by
  by_cases h1 : x < y
  · have e : cmpI x y = -1 := by simp [cmpI, h1]
    rw [e]
    clear e
    go_enter Tryz.func100, Tryz.ntmps100
    go_wp2
    go_ret
    exact ⟨rfl, rfl⟩
  · by_cases h2 : y < x
    · have e : cmpI x y = 1 := by simp [cmpI, h1, h2]
      rw [e]
      clear e
      go_enter Tryz.func100, Tryz.ntmps100
      go_wp2
      go_ret
      exact ⟨rfl, rfl⟩
    · have e : cmpI x y = 0 := by simp [cmpI, h1, h2]
      rw [e]
      clear e
      go_enter Tryz.func100, Tryz.ntmps100
      go_wp2
      go_ret
      exact ⟨rfl, rfl⟩
theorem cmpu64 (x y : Int) (w : World) : Calls Tryz.prog 86 #[.int .u64 x, .int .u64 y] w fun e w' => e = .returned (.int .i64 (cmpI x y)) ∧ w = w' := by
  by_cases h1 : x < y
  · have e : cmpI x y = -1 := by simp [cmpI, h1]
    rw [e]
    clear e
    go_enter Tryz.func86, Tryz.ntmps86
    go_wp2
    go_ret
    exact ⟨rfl, rfl⟩
  · by_cases h2 : y < x
    · have e : cmpI x y = 1 := by simp [cmpI, h1, h2]
      rw [e]
      clear e
      go_enter Tryz.func86, Tryz.ntmps86
      go_wp2
      go_ret
      exact ⟨rfl, rfl⟩
    · have e : cmpI x y = 0 := by simp [cmpI, h1, h2]
      rw [e]
      clear e
      go_enter Tryz.func86, Tryz.ntmps86
      go_wp2
      go_ret
      exact ⟨rfl, rfl⟩
theorem or_any (g : Nat) (xs : List Int) (w : World) (hx : ∀ j x, xs[j]? = some x → w.cell? ⟨g, j, none⟩ = some (.int .i64 x)) (hn : xs.length ≤ 1000) :
    Calls Tryz.prog 84 #[.slice (some ⟨g, 0, none⟩) xs.length xs.length] w fun e w' => e = .returned (.int .i64 (orI xs)) ∧ w = w' := by
  have Hx := Lib.hid hx
  clear hx
  go_enter Tryz.func84, Tryz.ntmps84
  go_wp2_with fail
  go_loop [8] (fun i => ∃ k : Nat, k ≤ xs.length ∧ i = .int .i64 k ∧ Hid (orI (xs.drop k) = orI xs)) (fun i => xs.length - (intOf i).toNat)
  case atStart => exact ⟨0, Nat.zero_le _, rfl, Lib.hid rfl⟩
  case round =>
    obtain ⟨k, hk, rfl, ho⟩ := hrel
    by_cases hlt : k < xs.length
    · obtain ⟨x, hx⟩ : ∃ x, xs[k]? = some x := ⟨xs[k], by simp [hlt]⟩
      have hc := Hx.out k x hx
      have hd : xs.drop k = x :: xs.drop (k + 1) := by
        obtain ⟨h, rfl⟩ := List.getElem?_eq_some_iff.1 hx
        exact List.drop_eq_getElem_cons h
      by_cases h0 : x = 0
      · subst h0
        have Hd : Hid (orI (xs.drop (k + 1)) = orI xs) := by
          have := ho.out; rw [hd] at this; exact Lib.hid (by simpa [orI] using this)
        clear hd hx
        go_wp2_with fail
        go_round
        case rel => exact ⟨k + 1, by omega, by go_num, Hd⟩
        case measure => simp [intOf]; omega
      · have Hd : Hid (x = orI xs) := by
          have := ho.out; rw [hd] at this; exact Lib.hid (by simpa [orI, h0] using this)
        have h0' : (x != 0) = true := by simpa using h0
        clear hd hx
        go_wp2_with fail
        go_ret
        exact ⟨by rw [← Hd.out]; rfl, rfl⟩
    · have hd : xs.drop k = [] := List.drop_eq_nil_of_le (by omega)
      have Hd : Hid (0 = orI xs) := by
        have := ho.out; rw [hd] at this; exact Lib.hid (by simpa [orI] using this)
      clear hd
      go_wp2_with fail
      go_ret
      exact ⟨by rw [← Hd.out]; rfl, rfl⟩
end Go.Proofs.YtmabjghjkgicgaaGreat

/- DotB -/
namespace Go.Proofs.YtmabjghjkgicgaaGreat
open Go.RowKit
set_option linter.unusedVariables false
set_option linter.unusedSimpArgs false

theorem below_grow (w : World) (q : Nat) (os : Array Obj) : Below w.heap.size w (Sort.grow (w.drewN q) os) := by
  refine ⟨rfl, rfl, rfl, by simp [Sort.grow, World.drewN], fun k hk => ?_⟩
  have h : (w.drewN q).heap = w.heap := rfl
  simp only [Sort.grow, h]
  rw [Array.getElem?_append_left hk]

theorem at_new3 (w : World) (o1 o2 o3 : Obj) : (((w.alloc o1).alloc o2).alloc o3).drew.heap[w.heap.size + 1 + 1]? = some o3 := by
  have h := heap_new ((w.alloc o1).alloc o2) o3
  rw [World.size_alloc, World.size_alloc] at h
  exact h
/-- blocks and draws came, nothing else -/
def Grown (w w' : World) : Prop := ∃ q os, w' = Sort.grow (w.drewN q) os
theorem Grown.refl (w : World) : Grown w w := ⟨0, #[], by simp [Sort.grow, World.drewN]⟩
theorem Grown.alloc {w w' : World} (h : Grown w w') (o : Obj) : Grown w (w'.alloc o) := by
  obtain ⟨q, os, rfl⟩ := h
  exact ⟨q, os ++ #[o], by rw [Sort.alloc_eq_grow, Sort.grow_grow]⟩
theorem Grown.drew {w w' : World} (h : Grown w w') : Grown w w'.drew := by
  obtain ⟨q, os, rfl⟩ := h
  exact ⟨q + 1, os, by simp [Sort.grow, World.drewN, World.drew]; omega⟩
theorem Grown.trans {a b c : World} (h : Grown a b) (k : Grown b c) : Grown a c := by
  obtain ⟨q, os, rfl⟩ := h
  obtain ⟨q', os', rfl⟩ := k
  exact ⟨q + q', os ++ os', by simp [Sort.grow, World.drewN]; omega⟩
theorem Grown.below {w w' : World} (h : Grown w w') : Below w.heap.size w w' := by
  obtain ⟨q, os, rfl⟩ := h
  exact below_grow w q os
theorem two_at {W : World} {g : Nat} {x y : Int} {t : TypeId} (h : W.heap[g]? = some (.cells #[.int .i64 x, .int .i64 y] t (0, 0))) : ∀ j z, [x, y][j]? = some z → W.cell? ⟨g, j, none⟩ = some (.int .i64 z) := by
  intro j z hj
  rw [cells_at h]
  match j with
  | 0 => simp at hj; subst hj; rfl
  | 1 => simp at hj; subst hj; rfl
  | j + 2 => simp at hj

theorem compare_any (r i r' i' : Int) (w : World) :
    Calls Tryz.prog 85 #[.agg #[.int .u8 r, .int .u32 i], .agg #[.int .u8 r', .int .u32 i']] w fun e w' => e = .returned (.int .i64 (cmpA (r, i) (r', i'))) ∧ Grown w w' := by
  go_enter Tryz.func85, Tryz.ntmps85
  go_wp2_with fail
  refine region_text [([0, 1, 2, 3, 5, 6, 7, 8], false), ([4], true), ([9, 10, 11, 12], false)] mixed (by kernel_rfl) ?_
  simp only [wpSegs, List.map_cons, List.map_nil, List.getD_cons_succ, List.getD_cons_zero]
  go_wp2_with fail
  refine (cmpu8 _ _ _).mono ?_
  rintro e w' ⟨rfl, rfl⟩
  go_wp2_with fail
  refine And.intro (Agree.refl _) ?_
  go_wp2_with fail
  refine (cmpu32 _ _ _).mono ?_
  rintro e w' ⟨rfl, rfl⟩
  go_wp2_with fail
  refine (or_any _ [cmpI r r', cmpI i i'] _ (two_at (t := 3) ?hx) (by simp)).mono ?_
  case hx => first | exact heap_new _ _ | exact at_new3 _ _ _ _
  rintro e w' ⟨rfl, rfl⟩
  go_wp2_with fail
  refine And.intro (by kernel_rfl) ?_
  go_wp2_with fail
  go_ret
  exact ⟨rfl, ((((Grown.refl w).alloc _).alloc _).alloc _).drew⟩

def cmpDD (a b : Dt) : Int := orI [cmpA a.1 b.1, cmpI a.2 b.2]
theorem compareD_any (r i s r' i' s' : Int) (w : World) :
    Calls Tryz.prog 68 #[.agg #[.int .u8 r, .int .u32 i, .int .u64 s], .agg #[.int .u8 r', .int .u32 i', .int .u64 s']] w fun e w' => e = .returned (.int .i64 (cmpDD ((r, i), s) ((r', i'), s'))) ∧ Grown w w' := by
  go_enter Tryz.func68, Tryz.ntmps68
  go_wp2_with fail
  refine region_text [([0, 1, 2, 3, 5, 6, 7, 8], false), ([4], true), ([9, 10, 11, 12], false)] mixed (by kernel_rfl) ?_
  simp only [wpSegs, List.map_cons, List.map_nil, List.getD_cons_succ, List.getD_cons_zero]
  go_wp2_with fail
  refine (compare_any _ _ _ _ _).mono ?_
  rintro e w1 ⟨rfl, hg⟩
  have hbl := hg.below
  go_wp2_with fail
  refine And.intro (Agree.of_below hbl) ?_
  clear hbl
  go_wp2_with fail
  refine (cmpu64 _ _ _).mono ?_
  rintro e w' ⟨rfl, rfl⟩
  go_wp2_with fail
  refine (or_any _ [cmpA (r, i) (r', i'), cmpI s s'] _ (two_at (t := 3) ?hx) (by simp)).mono ?_
  case hx => first | exact heap_new _ _ | exact at_new3 _ _ _ _
  rintro e w' ⟨rfl, rfl⟩
  go_wp2_with fail
  refine And.intro (by kernel_rfl) ?_
  go_wp2_with fail
  go_ret
  exact ⟨rfl, (((((Grown.refl w).alloc _).alloc _).drew).trans hg).alloc _⟩
theorem cmpDD_eq (a b : Dt) : cmpDD a b = cmpD a b := by
  obtain ⟨⟨r, i⟩, s⟩ := a
  obtain ⟨⟨r', i'⟩, s'⟩ := b
  simp only [cmpDD, cmpA, cmpI, orI, cmpD, lessD, decide_eq_true_eq]
  rcases Int.lt_trichotomy r r' with h | h | h
  · simp [h, show ¬ r' < r by omega]
  · subst h
    rcases Int.lt_trichotomy i i' with h | h | h
    · simp [h, show ¬ i' < i by omega]
    · subst h
      rcases Int.lt_trichotomy s s' with h | h | h
      · simp [h, show ¬ s' < s by omega]
      · subst h; simp
      · simp [h, show ¬ s < s' by omega]
    · simp [h, show ¬ i < i' by omega, show ¬ i = i' by omega]
  · simp [h, show ¬ r < r' by omega, show ¬ r = r' by omega]
theorem cmpD_neg (a b : Dt) : cmpD a b < 0 ↔ lessD a b = true := by
  unfold cmpD
  split
  · rename_i h; simp [h]
  · rename_i h
    split <;> simp [h]
end Go.Proofs.YtmabjghjkgicgaaGreat

/- LowC -/
/- DotC -/
namespace Go.Proofs.YtmabjghjkgicgaaGreat
open Go.RowKit
set_option linter.unusedVariables false
set_option linter.unusedSimpArgs false

/-- the cells of dots -/
def dcell (d : Dt) : List Value := [.int .u8 d.1.1, .int .u32 d.1.2, .int .u64 d.2]
def dcells (v : List Dt) : List Value := v.flatMap dcell
theorem dcells_length (v : List Dt) : (dcells v).length = v.length * 3 := by
  induction v with
  | nil => rfl
  | cons x v ih => simp only [dcells, List.flatMap_cons, List.length_append, List.length_cons] at ih ⊢; rw [ih]; simp [dcell]; omega
theorem dcells_append (v u : List Dt) : dcells (v ++ u) = dcells v ++ dcells u := by simp [dcells]
theorem dcells_one (v : List Dt) : ∀ u ∈ dcells v, u.oneCell' = true := by
  intro u hu
  obtain ⟨d, _, hd⟩ := List.mem_flatMap.1 hu
  simp [dcell] at hd
  rcases hd with rfl | rfl | rfl <;> rfl
theorem dcells_at {v : List Dt} {k : Nat} {d : Dt} (h : v[k]? = some d) : ∀ j, j < 3 → (dcells v)[k * 3 + j]? = (dcell d)[j]? := by
  induction v generalizing k with
  | nil => simp at h
  | cons x v ih =>
    intro j hj
    cases k with
    | zero =>
      simp at h
      subst h
      simp only [dcells, List.flatMap_cons]
      rw [List.getElem?_append_left (by simp [dcell]; omega)]
      congr 1; omega
    | succ k =>
      simp at h
      have := ih h j hj
      simp only [dcells, List.flatMap_cons] at this ⊢
      rw [List.getElem?_append_right (by simp [dcell]; omega), ← this]
      congr 1; simp [dcell]; omega
/-- a slice that reads as the vector v -/
def Vec (w : World) (a : Option Addr) (c : Nat) (v : List Dt) : Prop := Sl w 3 a v.length c (dcells v)
theorem Vec.below {w w' : World} {a : Option Addr} {c : Nat} {v : List Dt} (h : Vec w a c v) (hb : Below w.heap.size w w') : Vec w' a c v := Sl.below h hb
theorem Vec.at {w : World} {a : Option Addr} {c : Nat} {v : List Dt} (h : Vec w a c v) {k : Nat} {d : Dt} (hd : v[k]? = some d) :
    ∃ ad, a = some ad ∧ w.cell? (ad.add (k * 3)) = some (.int .u8 d.1.1) ∧ w.cell? ⟨(ad.add (k * 3)).block, (ad.add (k * 3)).off + 1, none⟩ = some (.int .u32 d.1.2) ∧ w.cell? ⟨(ad.add (k * 3)).block, (ad.add (k * 3)).off + 2, none⟩ = some (.int .u64 d.2) ∧ ad.block < w.heap.size := by
  have hk : k < v.length := (List.getElem?_eq_some_iff.1 hd).1
  obtain ⟨_, _, _, ⟨_, h0, _⟩ | ⟨ad, rfl, hc⟩⟩ := h
  · omega
  · have h0 := hc (k * 3) (.int .u8 d.1.1) (by simpa [dcell] using dcells_at hd 0 (by omega))
    have h1 := hc (k * 3 + 1) (.int .u32 d.1.2) (by simpa [dcell] using dcells_at hd 1 (by omega))
    have h2 := hc (k * 3 + 2) (.int .u64 d.2) (by simpa [dcell] using dcells_at hd 2 (by omega))
    rw [← Go.Deep.add_add] at h1 h2
    have e1 : (ad.add (k * 3)).add 1 = ⟨(ad.add (k * 3)).block, (ad.add (k * 3)).off + 1, none⟩ := rfl
    have e2 : (ad.add (k * 3)).add 2 = ⟨(ad.add (k * 3)).block, (ad.add (k * 3)).off + 2, none⟩ := rfl
    refine ⟨ad, rfl, h0, e1 ▸ h1, e2 ▸ h2, ?_⟩
    have := World.block_lt_of_cell? w _ h0
    have hb : (ad.add (k * 3)).block = ad.block := by unfold Addr.add; split <;> rfl
    rwa [hb] at this


theorem take_snoc' {α : Type} {v : List α} {k : Nat} {d : α} (h : v[k]? = some d) : v.take (k + 1) = v.take k ++ [d] := by
  obtain ⟨hk, rfl⟩ := List.getElem?_eq_some_iff.1 h
  rw [List.take_succ_eq_append_getElem hk]

theorem rmayActor_any (r i : Int) (w : World) : Calls Tryz.prog 76 #[.agg #[.int .u8 r, .int .u32 i]] w fun e w' => e = .returned (.bool (mayA (r, i))) ∧ Below w.heap.size w w' := by
  have hB : ∀ o, Below w.heap.size w (w.alloc o) := fun o => (Below.refl _ _).alloc (Nat.le_refl _) _
  by_cases h1 : r < 16
  · by_cases h2 : 1 ≤ i
    · by_cases h3 : i ≤ 4
      · have e : mayA (r, i) = true := by simp [mayA, h1, h2, h3]
        rw [e]
        clear e
        go_enter Tryz.func76, Tryz.ntmps76
        go_wp2
        go_ret
        exact ⟨rfl, hB _⟩
      · have e : mayA (r, i) = false := by simp [mayA, h1, h2, h3] <;> omega
        rw [e]
        clear e
        go_enter Tryz.func76, Tryz.ntmps76
        go_wp2
        go_ret
        exact ⟨rfl, hB _⟩
    · have e : mayA (r, i) = false := by simp [mayA, h1, h2] <;> omega
      rw [e]
      clear e
      go_enter Tryz.func76, Tryz.ntmps76
      go_wp2
      go_ret
      exact ⟨rfl, hB _⟩
  · have e : mayA (r, i) = false := by simp [mayA, h1] <;> omega
    rw [e]
    clear e
    go_enter Tryz.func76, Tryz.ntmps76
    go_wp2
    go_ret
    exact ⟨rfl, hB _⟩

theorem rmay_any (r i s : Int) (w : World) : Calls Tryz.prog 53 #[.agg #[.int .u8 r, .int .u32 i, .int .u64 s]] w fun e w' => e = .returned (.bool (may ((r, i), s))) ∧ Below w.heap.size w w' := by
  have hm : ∀ b, mayA (r, i) = b → Calls Tryz.prog 76 #[.agg #[.int .u8 r, .int .u32 i]] (w.alloc (.cells #[.int .u8 r, .int .u32 i, .int .u64 s] 44)) fun e w' => e = .returned (.bool b) ∧ Below w.heap.size w w' ∧ (∀ j, w'.cell? ⟨w.heap.size, j, none⟩ = #[Value.int .u8 r, .int .u32 i, .int .u64 s][j]?) := by
    intro b hb
    refine (rmayActor_any r i _).mono ?_
    rintro e w' ⟨rfl, hbl⟩
    obtain ⟨h1, h2, h3⟩ := new1 hbl
    rw [hb]
    exact ⟨rfl, h3, cells_at h1⟩
  cases hA : mayA (r, i) with
  | false =>
    have hm' := hm _ hA
    have e : may ((r, i), s) = false := by simp [may, hA]
    rw [e]
    clear e hm hA
    go_enter Tryz.func53, Tryz.ntmps53
    go_wp2_with (go_at_call 76; refine hm'.mono ?_; rintro e w' ⟨rfl, hb, hc⟩)
    go_ret
    exact ⟨rfl, hb⟩
  | true =>
    have hm' := hm _ hA
    clear hm
    by_cases h1 : 1 ≤ s
    · by_cases h2 : s ≤ 1048576
      · have e : may ((r, i), s) = true := by simp [may, hA, h1, h2]
        rw [e]
        clear e hA
        go_enter Tryz.func53, Tryz.ntmps53
        go_wp2_with (go_at_call 76; refine hm'.mono ?_; rintro e w' ⟨rfl, hb, hc⟩)
        go_ret
        exact ⟨rfl, hb⟩
      · have e : may ((r, i), s) = false := by simp [may, hA, h1, h2] <;> omega
        have h2' : decide (s ≤ 1048576) = false := by simpa using h2
        rw [e]
        clear e hA
        go_enter Tryz.func53, Tryz.ntmps53
        go_wp2_with (go_at_call 76; refine hm'.mono ?_; rintro e w' ⟨rfl, hb, hc⟩)
        go_ret
        exact ⟨rfl, hb⟩
    · have e : may ((r, i), s) = false := by simp [may, hA, h1] <;> omega
      rw [e]
      clear e hA
      go_enter Tryz.func53, Tryz.ntmps53
      go_wp2_with (go_at_call 76; refine hm'.mono ?_; rintro e w' ⟨rfl, hb, hc⟩)
      go_ret
      exact ⟨rfl, hb⟩


theorem rless_any (r i s r' i' s' : Int) (w : World) : Calls Tryz.prog 57 #[.agg #[.int .u8 r, .int .u32 i, .int .u64 s], .agg #[.int .u8 r', .int .u32 i', .int .u64 s']] w fun e w' => e = .returned (.bool (lessD ((r, i), s) ((r', i'), s'))) ∧ Below w.heap.size w w' := by
  have hB : ∀ o o', Below w.heap.size w ((w.alloc o).alloc o') := fun o o' => ((Below.refl _ _).alloc (Nat.le_refl _) _).alloc (by simp) _
  by_cases h1 : r = r'
  · subst h1
    by_cases h2 : i = i'
    · subst h2
      have e : lessD ((r, i), s) ((r, i), s') = decide (s < s') := by simp [lessD]
      rw [e]
      clear e
      go_enter Tryz.func57, Tryz.ntmps57
      go_wp2
      go_ret
      exact ⟨rfl, hB _ _⟩
    · have e : lessD ((r, i), s) ((r, i'), s') = decide (i < i') := by simp [lessD, h2]
      have h2' : (i != i') = true := by simpa using h2
      rw [e]
      clear e
      go_enter Tryz.func57, Tryz.ntmps57
      go_wp2
      go_ret
      exact ⟨rfl, hB _ _⟩
  · have e : lessD ((r, i), s) ((r', i'), s') = decide (r < r') := by simp [lessD, h1]
    have h1' : (r != r') = true := by simpa using h1
    rw [e]
    clear e
    go_enter Tryz.func57, Tryz.ntmps57
    go_wp2
    go_ret
    exact ⟨rfl, hB _ _⟩

end Go.Proofs.YtmabjghjkgicgaaGreat
