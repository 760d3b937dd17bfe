/- Items in memory; which of two is ahead; texts and times that may be; slices held against each other: contracts. -/
import Derived.Test.YtmabjghjkgicgaaSeen
import Derived.Test.YtmabjghjkgicgaaSortK
namespace Go.Proofs.Ytmabjghjkgicgaa
open Go.RowKit
set_option linter.unusedVariables false
set_option linter.unusedSimpArgs false

/-- the cells of items -/
def icell (x : It) : List Value := [.int .u64 x.t, .int .u8 x.d.1.1, .int .u32 x.d.1.2, .int .u64 x.d.2, .string x.x]
def icells (v : List It) : List Value := v.flatMap icell
theorem icell_len (x : It) : (icell x).length = 5 := rfl
theorem icells_length (v : List It) : (icells v).length = v.length * 5 := flatMap_len icell_len v
theorem icells_snoc (v : List It) (x : It) : icells (v ++ [x]) = icells v ++ icell x := by simp [icells]
theorem icells_append (v u : List It) : icells (v ++ u) = icells v ++ icells u := by simp [icells]
theorem icell_one (x : It) : ∀ u ∈ icell x, u.oneCell' = true := by
  intro u hu; simp [icell] at hu; rcases hu with rfl | rfl | rfl | rfl | rfl <;> rfl
theorem icells_one (v : List It) : ∀ u ∈ icells v, u.oneCell' = true := by
  intro u hu
  obtain ⟨x, _, hx⟩ := List.mem_flatMap.1 hu
  exact icell_one x u hx
/-- a slice that reads as the items v -/
def Its (w : World) (a : Option Addr) (c : Nat) (v : List It) : Prop := Sl w 5 a v.length c (icells v)
theorem Its.below {w w' : World} {a : Option Addr} {c : Nat} {v : List It} (h : Its w a c v) (hb : Below w.heap.size w w') : Its w' a c v := Sl.below h hb
structure ItAt (w : World) (b : Addr) (x : It) : Prop where
  c0 : w.cell? b = some (.int .u64 x.t)
  c1 : w.cell? ⟨b.block, b.off + 1, none⟩ = some (.int .u8 x.d.1.1)
  c2 : w.cell? ⟨b.block, b.off + 2, none⟩ = some (.int .u32 x.d.1.2)
  c3 : w.cell? ⟨b.block, b.off + 3, none⟩ = some (.int .u64 x.d.2)
  c4 : w.cell? ⟨b.block, b.off + 4, none⟩ = some (.string x.x)
theorem Its.at {w : World} {a : Option Addr} {c : Nat} {v : List It} (h : Its w a c v) {k : Nat} {x : It} (hx : v[k]? = some x) :
    ∃ ad, a = some ad ∧ ItAt w (ad.add (k * 5)) x ∧ ad.block < w.heap.size := by
  have hk : k < v.length := (List.getElem?_eq_some_iff.1 hx).1
  obtain ⟨_, _, _, ⟨_, h0, _⟩ | ⟨ad, rfl, hc⟩⟩ := h
  · omega
  · have hj := fun j hj => flatMap_at icell_len v k j x hx hj
    have g0 := hc (k * 5) _ (hj 0 (by omega))
    have g1 := hc (k * 5 + 1) _ (hj 1 (by omega))
    have g2 := hc (k * 5 + 2) _ (hj 2 (by omega))
    have g3 := hc (k * 5 + 3) _ (hj 3 (by omega))
    have g4 := hc (k * 5 + 4) _ (hj 4 (by omega))
    rw [← Go.Deep.add_add] at g1 g2 g3 g4
    refine ⟨ad, rfl, ⟨g0, g1, g2, g3, g4⟩, ?_⟩
    have := World.block_lt_of_cell? w _ g0
    have hb : (ad.add (k * 5)).block = ad.block := by unfold Addr.add; split <;> rfl
    rwa [hb] at this

/-! dots, items held against each other -/
def eqD (a b : Dt) : Bool := decide (a = b)
theorem eqD_iff (a b : Dt) : eqD a b = true ↔ a = b := by simp [eqD]
def eqI (a b : It) : Bool := decide (a.t = b.t) && (decide (a.d = b.d) && decide (a.x = b.x))
theorem eqI_iff (a b : It) : eqI a b = true ↔ a = b := by
  obtain ⟨t, d, x⟩ := a
  obtain ⟨t', d', x'⟩ := b
  simp [eqI]
theorem beq_bytes (a b : ByteArray) : (a.toList == b.toList) = decide (a = b) := by
  rw [← beq_toListBytes, Bool.eq_iff_iff, MapKept.bytes_beq, decide_eq_true_iff]
@[go_sem high] theorem guardD (op : BinOp) (X Y : Operand) (xs ys : Array Value) (w : World) : (eqGuard op 31 X Y (.agg xs) (.agg ys)).run Try.prog w = .ok () w := run_eqGuard_agg w op 31 X Y xs ys (by kernel_rfl)
@[go_sem high] theorem guardI (op : BinOp) (X Y : Operand) (xs ys : Array Value) (w : World) : (eqGuard op 58 X Y (.agg xs) (.agg ys)).run Try.prog w = .ok () w := run_eqGuard_agg w op 58 X Y xs ys (by kernel_rfl)
section
variable {P : Program}
theorem part_one (w : World) {t : TypeId} {xs : Array Value} {off : Nat} {v : Value} (ha : (isAgg t).run P w = .ok false w) (hx : xs[off]? = some v) : (part t xs off).run P w = .ok v w := by
  simp [part, ha, hx]
theorem part_agg (w : World) {t : TypeId} {n : Nat} {xs : Array Value} {off : Nat} (ha : (isAgg t).run P w = .ok true w) (hz : (sizeOf t).run P w = .ok n w) : (part t xs off).run P w = .ok (.agg (xs.extract off (off + n))) w := by
  simp [part, ha, hz]
theorem eq_two (w : World) {d : Nat} {k : TypeId} {f0 f1 : Field} {xs ys : Array Value} {v0 u0 v1 u1 : Value} {b0 b1 : Bool} (hu : P.underlying k = some (.struct #[f0, f1])) (hp : P.stoodInHeld k = false) (n0 : f0.name ≠ "_") (n1 : f1.name ≠ "_")
    (x0 : (part f0.type xs f0.offset).run P w = .ok v0 w) (y0 : (part f0.type ys f0.offset).run P w = .ok u0 w) (e0 : (Op.equalIn d f0.type v0 u0).run P w = .ok b0 w)
    (x1 : (part f1.type xs f1.offset).run P w = .ok v1 w) (y1 : (part f1.type ys f1.offset).run P w = .ok u1 w) (e1 : (Op.equalIn d f1.type v1 u1).run P w = .ok b1 w) :
    (Op.equalIn (d + 1) k (.agg xs) (.agg ys)).run P w = .ok (b0 && b1) w := by
  have hf : P.fieldsOf k = #[f0, f1] := by simp [Program.fieldsOf, hu]
  rw [run_equalIn_agg w d k _ _ (by rw [hf, hu]) hp, hf]
  cases b0 <;> cases b1 <;> simp [Op.eqFields, n0, n1, x0, y0, e0, x1, y1, e1]
theorem eq_three (w : World) {d : Nat} {k : TypeId} {f0 f1 f2 : Field} {xs ys : Array Value} {v0 u0 v1 u1 v2 u2 : Value} {b0 b1 b2 : Bool} (hu : P.underlying k = some (.struct #[f0, f1, f2])) (hp : P.stoodInHeld k = false) (n0 : f0.name ≠ "_") (n1 : f1.name ≠ "_") (n2 : f2.name ≠ "_")
    (x0 : (part f0.type xs f0.offset).run P w = .ok v0 w) (y0 : (part f0.type ys f0.offset).run P w = .ok u0 w) (e0 : (Op.equalIn d f0.type v0 u0).run P w = .ok b0 w)
    (x1 : (part f1.type xs f1.offset).run P w = .ok v1 w) (y1 : (part f1.type ys f1.offset).run P w = .ok u1 w) (e1 : (Op.equalIn d f1.type v1 u1).run P w = .ok b1 w)
    (x2 : (part f2.type xs f2.offset).run P w = .ok v2 w) (y2 : (part f2.type ys f2.offset).run P w = .ok u2 w) (e2 : (Op.equalIn d f2.type v2 u2).run P w = .ok b2 w) :
    (Op.equalIn (d + 1) k (.agg xs) (.agg ys)).run P w = .ok (b0 && (b1 && b2)) w := by
  have hf : P.fieldsOf k = #[f0, f1, f2] := by simp [Program.fieldsOf, hu]
  rw [run_equalIn_agg w d k _ _ (by rw [hf, hu]) hp, hf]
  cases b0 <;> cases b1 <;> cases b2 <;> simp [Op.eqFields, n0, n1, n2, x0, y0, e0, x1, y1, e1, x2, y2, e2]
end
theorem eqA_at (d : Nat) (r i r' i' : Int) (w : World) : (Op.equalIn (d + 2) 28 (.agg #[.int .u8 r, .int .u32 i]) (.agg #[.int .u8 r', .int .u32 i'])).run Try.prog w = .ok ((r == r') && (i == i')) w :=
  eq_two w Try.underlying28 (by kernel_rfl) (by decide) (by decide) (part_one w (Try.isAgg5 w) rfl) (part_one w (Try.isAgg5 w) rfl) (run_equalIn_int w d _ _ _ _ _ Try.underlying5)
    (part_one w (Try.isAgg26 w) rfl) (part_one w (Try.isAgg26 w) rfl) (run_equalIn_int w d _ _ _ _ _ Try.underlying26)
theorem eqD_at (d : Nat) (r i s r' i' s' : Int) (w : World) : (Op.equalIn (d + 3) 31 (.agg #[.int .u8 r, .int .u32 i, .int .u64 s]) (.agg #[.int .u8 r', .int .u32 i', .int .u64 s'])).run Try.prog w = .ok (eqD ((r, i), s) ((r', i'), s')) w := by
  have h := eq_two w (d := d + 2) (b1 := s == s') (xs := #[.int .u8 r, .int .u32 i, .int .u64 s]) (ys := #[.int .u8 r', .int .u32 i', .int .u64 s']) Try.underlying31 (by kernel_rfl) (by decide) (by decide) (part_agg w (Try.isAgg28 w) (Try.sizeOf28 w)) (part_agg w (Try.isAgg28 w) (Try.sizeOf28 w)) (eqA_at d r i r' i' w)
    (part_one w (Try.isAgg29 w) rfl) (part_one w (Try.isAgg29 w) rfl) (run_equalIn_int w (d + 1) _ _ _ _ _ Try.underlying29)
  rw [h, show ((r == r') && (i == i') && (s == s')) = eqD ((r, i), s) ((r', i'), s') from by rw [Bool.eq_iff_iff, eqD_iff]; simp [and_assoc]]
theorem eqI_at (d : Nat) (t r i s t' r' i' s' : Int) (x x' : ByteArray) (w : World) : (Op.equalIn (d + 4) 58 (.agg #[.int .u64 t, .int .u8 r, .int .u32 i, .int .u64 s, .string x]) (.agg #[.int .u64 t', .int .u8 r', .int .u32 i', .int .u64 s', .string x'])).run Try.prog w = .ok (eqI ⟨t, ((r, i), s), x⟩ ⟨t', ((r', i'), s'), x'⟩) w := by
  have h := eq_three w (d := d + 3) (xs := #[.int .u64 t, .int .u8 r, .int .u32 i, .int .u64 s, .string x]) (ys := #[.int .u64 t', .int .u8 r', .int .u32 i', .int .u64 s', .string x']) Try.underlying58 (by kernel_rfl) (by decide) (by decide) (by decide)
    (part_one w (Try.isAgg29 w) rfl) (part_one w (Try.isAgg29 w) rfl) (run_equalIn_int w (d + 2) _ _ _ _ _ Try.underlying29)
    (part_agg w (Try.isAgg31 w) (Try.sizeOf31 w)) (part_agg w (Try.isAgg31 w) (Try.sizeOf31 w)) (eqD_at d r i s r' i' s' w)
    (part_one w (Try.isAgg9 w) rfl) (part_one w (Try.isAgg9 w) rfl) (run_equalIn_string w (d + 2) _ _ _ Try.underlying9)
  rw [h, beq_bytes]
  exact congrArg (fun b => Result.ok b w) (show ((t == t') && (eqD ((r, i), s) ((r', i'), s') && decide (x = x'))) = eqI ⟨t, ((r, i), s), x⟩ ⟨t', ((r', i'), s'), x'⟩ from rfl)
@[go_sem high] theorem run_eqD (r i s r' i' s' : Int) (w : World) : (binOp .eql 31 (.agg #[.int .u8 r, .int .u32 i, .int .u64 s]) (.agg #[.int .u8 r', .int .u32 i', .int .u64 s'])).run Try.prog w = .ok (.bool (eqD ((r, i), s) ((r', i'), s'))) w := by
  rw [run_eql_struct, show (10000 : Nat) = 9997 + 3 from rfl, eqD_at]
  rfl
@[go_sem high] theorem run_neD (r i s r' i' s' : Int) (w : World) : (binOp .neq 31 (.agg #[.int .u8 r, .int .u32 i, .int .u64 s]) (.agg #[.int .u8 r', .int .u32 i', .int .u64 s'])).run Try.prog w = .ok (.bool (!eqD ((r, i), s) ((r', i'), s'))) w := by
  rw [run_neq_struct, show (10000 : Nat) = 9997 + 3 from rfl, eqD_at]
  rfl
@[go_sem high] theorem run_eqI (t r i s t' r' i' s' : Int) (x x' : ByteArray) (w : World) : (binOp .eql 58 (.agg #[.int .u64 t, .int .u8 r, .int .u32 i, .int .u64 s, .string x]) (.agg #[.int .u64 t', .int .u8 r', .int .u32 i', .int .u64 s', .string x'])).run Try.prog w = .ok (.bool (eqI ⟨t, ((r, i), s), x⟩ ⟨t', ((r', i'), s'), x'⟩)) w := by
  rw [run_eql_struct, show (10000 : Nat) = 9996 + 4 from rfl, eqI_at]
  rfl
@[go_sem high] theorem run_neI (t r i s t' r' i' s' : Int) (x x' : ByteArray) (w : World) : (binOp .neq 58 (.agg #[.int .u64 t, .int .u8 r, .int .u32 i, .int .u64 s, .string x]) (.agg #[.int .u64 t', .int .u8 r', .int .u32 i', .int .u64 s', .string x'])).run Try.prog w = .ok (.bool (!eqI ⟨t, ((r, i), s), x⟩ ⟨t', ((r', i'), s'), x'⟩)) w := by
  rw [run_neq_struct, show (10000 : Nat) = 9996 + 4 from rfl, eqI_at]
  rfl

/-! which is ahead -/
def cmpTD (t : Int) (d : Dt) (u : Int) (o : Dt) : Int := orI [cmpI t u, cmpDD d o]
theorem cmpTD_neg (t : Int) (d : Dt) (u : Int) (o : Dt) : decide (cmpTD t d u o < 0) = aheadT t d u o := by
  rw [Bool.eq_iff_iff, decide_eq_true_iff, aheadT_iff, ← cmpD_neg, ← cmpDD_eq]
  simp only [cmpTD, cmpI, orI]
  rcases Int.lt_trichotomy t u with h | h | h
  · simp [h]
  · subst h; simp
    by_cases e : cmpDD d o = 0
    · simp [e]
    · simp [e]
  · simp [h, show ¬ t < u by omega, show ¬ t = u by omega]
theorem compareT_any (t : Int) (d : Dt) (u : Int) (o : Dt) (w : World) :
    Calls Try.prog 83 #[.int .u64 t, .agg #[.int .u8 d.1.1, .int .u32 d.1.2, .int .u64 d.2], .int .u64 u, .agg #[.int .u8 o.1.1, .int .u32 o.1.2, .int .u64 o.2]] w fun e w' => e = .returned (.int .i64 (cmpTD t d u o)) ∧ Below w.heap.size w w' := by
  obtain ⟨⟨r, i⟩, s⟩ := d
  obtain ⟨⟨r', i'⟩, s'⟩ := o
  go_enter Try.func83, Try.ntmps83
  go_wp2_with fail
  refine region_text [([0, 1, 3, 4], false), ([2], true), ([5, 6, 7, 8], false)] mixed (by kernel_rfl) ?_
  simp only [wpSegs, List.map_cons, List.map_nil, List.getD_cons_succ, List.getD_cons_zero]
  go_wp2_with fail
  refine (cmpu64 _ _ _).mono ?_
  rintro e w1 ⟨rfl, rfl⟩
  go_wp2_with fail
  refine And.intro (Agree.refl _) ?_
  go_wp2_with fail
  refine (compareD_any _ _ _ _ _ _ _).mono ?_
  rintro e w1 ⟨rfl, hg⟩
  have hbl := hg.below
  have hb1 : Below w.heap.size w w1 := (((Below.refl _ _).alloc (Nat.le_refl _) _).alloc (by simp) _).drew.trans (hbl.mono (by simp; omega))
  clear hbl hg
  have hs := hb1.size
  have HB1 := Lib.hid hb1
  clear hb1
  go_wp2_with fail
  refine (or_any _ [cmpI t u, cmpDD ((r, i), s) ((r', i'), s')] _ (two_at (t := 3) ?hx) (by simp)).mono ?_
  case hx => first | exact heap_new _ _ | exact at_new3 _ _ _ _
  rintro e w2 ⟨rfl, rfl⟩
  go_wp2_with fail
  refine And.intro (by kernel_rfl) ?_
  go_wp2_with fail
  go_ret
  exact ⟨rfl, HB1.out.alloc hs _⟩
theorem ahead_any (t : Int) (d : Dt) (u : Int) (o : Dt) (w : World) :
    Calls Try.prog 55 #[.int .u64 t, .agg #[.int .u8 d.1.1, .int .u32 d.1.2, .int .u64 d.2], .int .u64 u, .agg #[.int .u8 o.1.1, .int .u32 o.1.2, .int .u64 o.2]] w fun e w' => e = .returned (.bool (aheadT t d u o)) ∧ Below w.heap.size w w' := by
  go_enter Try.func55, Try.ntmps55
  go_wp2_with fail
  refine (compareT_any t d u o _).mono ?_
  rintro e w1 ⟨rfl, hb⟩
  have HB : Hid (Below w.heap.size w w1) := Lib.hid ((((Below.refl _ _).alloc (Nat.le_refl _) _).alloc (by simp) _).trans (hb.mono (by simp; omega)))
  clear hb
  go_wp2_with fail
  go_ret
  exact ⟨by rw [← cmpTD_neg]; rfl, HB.out⟩
theorem isText_any (s : ByteArray) (w : World) : Calls Try.prog 51 #[.string s] w fun e w' => e = .returned (.bool (decide (s.size ≤ 40))) ∧ Below w.heap.size w w' := by
  go_enter Try.func51, Try.ntmps51
  go_wp2_with fail
  go_ret
  exact ⟨by simp <;> omega, Below.refl _ _⟩
def isT (n : Int) : Bool := decide (1 ≤ n ∧ n ≤ 1099511627776)
theorem isTime_any (n : Int) (w : World) : Calls Try.prog 49 #[.int .u64 n] w fun e w' => e = .returned (.bool (isT n)) ∧ Below w.heap.size w w' := by
  by_cases h : 1 ≤ n
  · go_enter Try.func49, Try.ntmps49
    go_wp2_with fail
    go_ret
    exact ⟨by simp [isT, h], Below.refl _ _⟩
  · have h' : decide (1 ≤ n) = false := by simpa using h
    go_enter Try.func49, Try.ntmps49
    go_wp2_with fail
    go_ret
    exact ⟨by simp [isT]; omega, Below.refl _ _⟩
end Go.Proofs.Ytmabjghjkgicgaa
