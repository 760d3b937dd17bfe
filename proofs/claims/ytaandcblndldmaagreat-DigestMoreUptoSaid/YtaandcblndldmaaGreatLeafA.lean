/- Items in memory; which of two is ahead; texts and times that may be; slices held against each other: contracts. | Slices of dots, of items held against each other; leaves held against each other: contracts. | leaf.twice, has: contracts. | leaf.items, leaf.tombs: contracts. | leaf.tombs: contract. | leaf.May: contract. -/
import Derived.Test.YtaandcblndldmaaGreatSeen
import Derived.Test.YtaandcblndldmaaGreatSortK
/- LeafA -/
namespace Go.Proofs.YtaandcblndldmaaGreat
open Go.RowKit
set_option linter.unusedVariables false
set_option linter.unusedSimpArgs false

/-- the cells of items -/
def icell (x : It) : List Value := [.int .u64 x.t, .int .u8 x.d.1.1, .int .u32 x.d.1.2, .int .u64 x.d.2, .string x.x]
def icells (v : List It) : List Value := v.flatMap icell
theorem icell_len (x : It) : (icell x).length = 5 := rfl
theorem icells_append (v u : List It) : icells (v ++ u) = icells v ++ icells u := by simp [icells]
theorem icell_one (x : It) : ∀ u ∈ icell x, u.oneCell' = true := by
  intro u hu; simp [icell] at hu; rcases hu with rfl | rfl | rfl | rfl | rfl <;> rfl
theorem icells_one (v : List It) : ∀ u ∈ icells v, u.oneCell' = true := by
  intro u hu
  obtain ⟨x, _, hx⟩ := List.mem_flatMap.1 hu
  exact icell_one x u hx
/-- a slice that reads as the items v -/
def Its (w : World) (a : Option Addr) (c : Nat) (v : List It) : Prop := Sl w 5 a v.length c (icells v)
theorem Its.below {w w' : World} {a : Option Addr} {c : Nat} {v : List It} (h : Its w a c v) (hb : Below w.heap.size w w') : Its w' a c v := Sl.below h hb
structure ItAt (w : World) (b : Addr) (x : It) : Prop where
  c0 : w.cell? b = some (.int .u64 x.t)
  c1 : w.cell? ⟨b.block, b.off + 1, none⟩ = some (.int .u8 x.d.1.1)
  c2 : w.cell? ⟨b.block, b.off + 2, none⟩ = some (.int .u32 x.d.1.2)
  c3 : w.cell? ⟨b.block, b.off + 3, none⟩ = some (.int .u64 x.d.2)
  c4 : w.cell? ⟨b.block, b.off + 4, none⟩ = some (.string x.x)
theorem Its.at {w : World} {a : Option Addr} {c : Nat} {v : List It} (h : Its w a c v) {k : Nat} {x : It} (hx : v[k]? = some x) :
    ∃ ad, a = some ad ∧ ItAt w (ad.add (k * 5)) x ∧ ad.block < w.heap.size := by
  have hk : k < v.length := (List.getElem?_eq_some_iff.1 hx).1
  obtain ⟨_, _, _, ⟨_, h0, _⟩ | ⟨ad, rfl, hc⟩⟩ := h
  · omega
  · have hj := fun j hj => flatMap_at icell_len v k j x hx hj
    have g0 := hc (k * 5) _ (hj 0 (by omega))
    have g1 := hc (k * 5 + 1) _ (hj 1 (by omega))
    have g2 := hc (k * 5 + 2) _ (hj 2 (by omega))
    have g3 := hc (k * 5 + 3) _ (hj 3 (by omega))
    have g4 := hc (k * 5 + 4) _ (hj 4 (by omega))
    rw [← Go.Deep.add_add] at g1 g2 g3 g4
    refine ⟨ad, rfl, ⟨g0, g1, g2, g3, g4⟩, ?_⟩
    have := World.block_lt_of_cell? w _ g0
    have hb : (ad.add (k * 5)).block = ad.block := by unfold Addr.add; split <;> rfl
    rwa [hb] at this

/-! dots, items held against each other -/
def eqD (a b : Dt) : Bool := decide (a = b)
theorem eqD_iff (a b : Dt) : eqD a b = true ↔ a = b := by simp [eqD]
def eqI (a b : It) : Bool := decide (a.t = b.t) && (decide (a.d = b.d) && decide (a.x = b.x))
theorem eqI_iff (a b : It) : eqI a b = true ↔ a = b := by
  obtain ⟨t, d, x⟩ := a
  obtain ⟨t', d', x'⟩ := b
  simp [eqI]
theorem beq_bytes (a b : ByteArray) : (a.toList == b.toList) = decide (a = b) := by
  rw [← beq_toListBytes, Bool.eq_iff_iff, MapKept.bytes_beq, decide_eq_true_iff]
@[go_sem high] theorem guardD (op : BinOp) (X Y : Operand) (xs ys : Array Value) (w : World) : (eqGuard op 49 X Y (.agg xs) (.agg ys)).run Tryz.prog w = .ok () w := run_eqGuard_agg w op 49 X Y xs ys (by kernel_rfl)
@[go_sem high] theorem guardI (op : BinOp) (X Y : Operand) (xs ys : Array Value) (w : World) : (eqGuard op 180 X Y (.agg xs) (.agg ys)).run Tryz.prog w = .ok () w := run_eqGuard_agg w op 180 X Y xs ys (by kernel_rfl)
section
variable {P : Program}
theorem part_one (w : World) {t : TypeId} {xs : Array Value} {off : Nat} {v : Value} (ha : (isAgg t).run P w = .ok false w) (hx : xs[off]? = some v) : (part t xs off).run P w = .ok v w := by
  simp [part, ha, hx]
theorem part_agg (w : World) {t : TypeId} {n : Nat} {xs : Array Value} {off : Nat} (ha : (isAgg t).run P w = .ok true w) (hz : (sizeOf t).run P w = .ok n w) : (part t xs off).run P w = .ok (.agg (xs.extract off (off + n))) w := by
  simp [part, ha, hz]
theorem eq_two (w : World) {d : Nat} {k : TypeId} {f0 f1 : Field} {xs ys : Array Value} {v0 u0 v1 u1 : Value} {b0 b1 : Bool} (hu : P.underlying k = some (.struct #[f0, f1])) (hp : P.stoodInHeld k = false) (n0 : f0.name ≠ "_") (n1 : f1.name ≠ "_")
    (x0 : (part f0.type xs f0.offset).run P w = .ok v0 w) (y0 : (part f0.type ys f0.offset).run P w = .ok u0 w) (e0 : (Op.equalIn d f0.type v0 u0).run P w = .ok b0 w)
    (x1 : (part f1.type xs f1.offset).run P w = .ok v1 w) (y1 : (part f1.type ys f1.offset).run P w = .ok u1 w) (e1 : (Op.equalIn d f1.type v1 u1).run P w = .ok b1 w) :
    (Op.equalIn (d + 1) k (.agg xs) (.agg ys)).run P w = .ok (b0 && b1) w := by
  have hf : P.fieldsOf k = #[f0, f1] := by simp [Program.fieldsOf, hu]
  rw [run_equalIn_agg w d k _ _ (by rw [hf, hu]) hp, hf]
  cases b0 <;> cases b1 <;> simp [Op.eqFields, n0, n1, x0, y0, e0, x1, y1, e1]
theorem eq_three (w : World) {d : Nat} {k : TypeId} {f0 f1 f2 : Field} {xs ys : Array Value} {v0 u0 v1 u1 v2 u2 : Value} {b0 b1 b2 : Bool} (hu : P.underlying k = some (.struct #[f0, f1, f2])) (hp : P.stoodInHeld k = false) (n0 : f0.name ≠ "_") (n1 : f1.name ≠ "_") (n2 : f2.name ≠ "_")
    (x0 : (part f0.type xs f0.offset).run P w = .ok v0 w) (y0 : (part f0.type ys f0.offset).run P w = .ok u0 w) (e0 : (Op.equalIn d f0.type v0 u0).run P w = .ok b0 w)
    (x1 : (part f1.type xs f1.offset).run P w = .ok v1 w) (y1 : (part f1.type ys f1.offset).run P w = .ok u1 w) (e1 : (Op.equalIn d f1.type v1 u1).run P w = .ok b1 w)
    (x2 : (part f2.type xs f2.offset).run P w = .ok v2 w) (y2 : (part f2.type ys f2.offset).run P w = .ok u2 w) (e2 : (Op.equalIn d f2.type v2 u2).run P w = .ok b2 w) :
    (Op.equalIn (d + 1) k (.agg xs) (.agg ys)).run P w = .ok (b0 && (b1 && b2)) w := by
  have hf : P.fieldsOf k = #[f0, f1, f2] := by simp [Program.fieldsOf, hu]
  rw [run_equalIn_agg w d k _ _ (by rw [hf, hu]) hp, hf]
  cases b0 <;> cases b1 <;> cases b2 <;> simp [Op.eqFields, n0, n1, n2, x0, y0, e0, x1, y1, e1, x2, y2, e2]
end
theorem eqA_at (d : Nat) (r i r' i' : Int) (w : World) : (Op.equalIn (d + 2) 24 (.agg #[.int .u8 r, .int .u32 i]) (.agg #[.int .u8 r', .int .u32 i'])).run Tryz.prog w = .ok ((r == r') && (i == i')) w :=
  eq_two w Tryz.underlying24 (by kernel_rfl) (by decide) (by decide) (part_one w (Tryz.isAgg5 w) rfl) (part_one w (Tryz.isAgg5 w) rfl) (run_equalIn_int w d _ _ _ _ _ Tryz.underlying5)
    (part_one w (Tryz.isAgg22 w) rfl) (part_one w (Tryz.isAgg22 w) rfl) (run_equalIn_int w d _ _ _ _ _ Tryz.underlying22)
theorem eqD_at (d : Nat) (r i s r' i' s' : Int) (w : World) : (Op.equalIn (d + 3) 49 (.agg #[.int .u8 r, .int .u32 i, .int .u64 s]) (.agg #[.int .u8 r', .int .u32 i', .int .u64 s'])).run Tryz.prog w = .ok (eqD ((r, i), s) ((r', i'), s')) w := by
  have h := eq_two w (d := d + 2) (b1 := s == s') (xs := #[.int .u8 r, .int .u32 i, .int .u64 s]) (ys := #[.int .u8 r', .int .u32 i', .int .u64 s']) Tryz.underlying49 (by kernel_rfl) (by decide) (by decide) (part_agg w (Tryz.isAgg24 w) (Tryz.sizeOf24 w)) (part_agg w (Tryz.isAgg24 w) (Tryz.sizeOf24 w)) (eqA_at d r i r' i' w)
    (part_one w (Tryz.isAgg26 w) rfl) (part_one w (Tryz.isAgg26 w) rfl) (run_equalIn_int w (d + 1) _ _ _ _ _ Tryz.underlying26)
  rw [h, show ((r == r') && (i == i') && (s == s')) = eqD ((r, i), s) ((r', i'), s') from by rw [Bool.eq_iff_iff, eqD_iff]; simp [and_assoc]]
theorem eqI_at (d : Nat) (t r i s t' r' i' s' : Int) (x x' : ByteArray) (w : World) : (Op.equalIn (d + 4) 180 (.agg #[.int .u64 t, .int .u8 r, .int .u32 i, .int .u64 s, .string x]) (.agg #[.int .u64 t', .int .u8 r', .int .u32 i', .int .u64 s', .string x'])).run Tryz.prog w = .ok (eqI ⟨t, ((r, i), s), x⟩ ⟨t', ((r', i'), s'), x'⟩) w := by
  have h := eq_three w (d := d + 3) (xs := #[.int .u64 t, .int .u8 r, .int .u32 i, .int .u64 s, .string x]) (ys := #[.int .u64 t', .int .u8 r', .int .u32 i', .int .u64 s', .string x']) Tryz.underlying180 (by kernel_rfl) (by decide) (by decide) (by decide)
    (part_one w (Tryz.isAgg26 w) rfl) (part_one w (Tryz.isAgg26 w) rfl) (run_equalIn_int w (d + 2) _ _ _ _ _ Tryz.underlying26)
    (part_agg w (Tryz.isAgg49 w) (Tryz.sizeOf49 w)) (part_agg w (Tryz.isAgg49 w) (Tryz.sizeOf49 w)) (eqD_at d r i s r' i' s' w)
    (part_one w (Tryz.isAgg9 w) rfl) (part_one w (Tryz.isAgg9 w) rfl) (run_equalIn_string w (d + 2) _ _ _ Tryz.underlying9)
  rw [h, beq_bytes]
  exact congrArg (fun b => Result.ok b w) (show ((t == t') && (eqD ((r, i), s) ((r', i'), s') && decide (x = x'))) = eqI ⟨t, ((r, i), s), x⟩ ⟨t', ((r', i'), s'), x'⟩ from rfl)
@[go_sem high] theorem run_eqD (r i s r' i' s' : Int) (w : World) : (binOp .eql 49 (.agg #[.int .u8 r, .int .u32 i, .int .u64 s]) (.agg #[.int .u8 r', .int .u32 i', .int .u64 s'])).run Tryz.prog w = .ok (.bool (eqD ((r, i), s) ((r', i'), s'))) w := by
  rw [run_eql_struct, show (10000 : Nat) = 9997 + 3 from rfl, eqD_at]
  rfl
@[go_sem high] theorem run_neD (r i s r' i' s' : Int) (w : World) : (binOp .neq 49 (.agg #[.int .u8 r, .int .u32 i, .int .u64 s]) (.agg #[.int .u8 r', .int .u32 i', .int .u64 s'])).run Tryz.prog w = .ok (.bool (!eqD ((r, i), s) ((r', i'), s'))) w := by
  rw [run_neq_struct, show (10000 : Nat) = 9997 + 3 from rfl, eqD_at]
  rfl
@[go_sem high] theorem run_eqI (t r i s t' r' i' s' : Int) (x x' : ByteArray) (w : World) : (binOp .eql 180 (.agg #[.int .u64 t, .int .u8 r, .int .u32 i, .int .u64 s, .string x]) (.agg #[.int .u64 t', .int .u8 r', .int .u32 i', .int .u64 s', .string x'])).run Tryz.prog w = .ok (.bool (eqI ⟨t, ((r, i), s), x⟩ ⟨t', ((r', i'), s'), x'⟩)) w := by
  rw [run_eql_struct, show (10000 : Nat) = 9996 + 4 from rfl, eqI_at]
  rfl
@[go_sem high] theorem run_neI (t r i s t' r' i' s' : Int) (x x' : ByteArray) (w : World) : (binOp .neq 180 (.agg #[.int .u64 t, .int .u8 r, .int .u32 i, .int .u64 s, .string x]) (.agg #[.int .u64 t', .int .u8 r', .int .u32 i', .int .u64 s', .string x'])).run Tryz.prog w = .ok (.bool (!eqI ⟨t, ((r, i), s), x⟩ ⟨t', ((r', i'), s'), x'⟩)) w := by
  rw [run_neq_struct, show (10000 : Nat) = 9996 + 4 from rfl, eqI_at]
  rfl

/-! which is ahead -/
def cmpTD (t : Int) (d : Dt) (u : Int) (o : Dt) : Int := orI [cmpI t u, cmpDD d o]
theorem cmpTD_neg (t : Int) (d : Dt) (u : Int) (o : Dt) : decide (cmpTD t d u o < 0) = aheadT t d u o := by
  rw [Bool.eq_iff_iff, decide_eq_true_iff, aheadT_iff, ← cmpD_neg, ← cmpDD_eq]
  simp only [cmpTD, cmpI, orI]
  rcases Int.lt_trichotomy t u with h | h | h
  · simp [h]
  · subst h; simp
    by_cases e : cmpDD d o = 0
    · simp [e]
    · simp [e]
  · simp [h, show ¬ t < u by omega, show ¬ t = u by omega]
theorem compareT_any (t : Int) (d : Dt) (u : Int) (o : Dt) (w : World) :
    Calls Tryz.prog 259 #[.int .u64 t, .agg #[.int .u8 d.1.1, .int .u32 d.1.2, .int .u64 d.2], .int .u64 u, .agg #[.int .u8 o.1.1, .int .u32 o.1.2, .int .u64 o.2]] w fun e w' => e = .returned (.int .i64 (cmpTD t d u o)) ∧ Below w.heap.size w w' := by
  obtain ⟨⟨r, i⟩, s⟩ := d
  obtain ⟨⟨r', i'⟩, s'⟩ := o
  go_enter Tryz.func259, Tryz.ntmps259
  go_wp2_with fail
  refine region_text [([0, 1, 3, 4], false), ([2], true), ([5, 6, 7, 8], false)] mixed (by kernel_rfl) ?_
  simp only [wpSegs, List.map_cons, List.map_nil, List.getD_cons_succ, List.getD_cons_zero]
  go_wp2_with fail
  refine (cmpu64 _ _ _).mono ?_
  rintro e w1 ⟨rfl, rfl⟩
  go_wp2_with fail
  refine And.intro (Agree.refl _) ?_
  go_wp2_with fail
  refine (compareD_any _ _ _ _ _ _ _).mono ?_
  rintro e w1 ⟨rfl, hg⟩
  have hbl := hg.below
  have hb1 : Below w.heap.size w w1 := (((Below.refl _ _).alloc (Nat.le_refl _) _).alloc (by simp) _).drew.trans (hbl.mono (by simp; omega))
  clear hbl hg
  have hs := hb1.size
  have HB1 := Lib.hid hb1
  clear hb1
  go_wp2_with fail
  refine (or_any _ [cmpI t u, cmpDD ((r, i), s) ((r', i'), s')] _ (two_at (t := 3) ?hx) (by simp)).mono ?_
  case hx => first | exact heap_new _ _ | exact at_new3 _ _ _ _
  rintro e w2 ⟨rfl, rfl⟩
  go_wp2_with fail
  refine And.intro (by kernel_rfl) ?_
  go_wp2_with fail
  go_ret
  exact ⟨rfl, HB1.out.alloc hs _⟩
theorem ahead_any (t : Int) (d : Dt) (u : Int) (o : Dt) (w : World) :
    Calls Tryz.prog 250 #[.int .u64 t, .agg #[.int .u8 d.1.1, .int .u32 d.1.2, .int .u64 d.2], .int .u64 u, .agg #[.int .u8 o.1.1, .int .u32 o.1.2, .int .u64 o.2]] w fun e w' => e = .returned (.bool (aheadT t d u o)) ∧ Below w.heap.size w w' := by
  go_enter Tryz.func250, Tryz.ntmps250
  go_wp2_with fail
  refine (compareT_any t d u o _).mono ?_
  rintro e w1 ⟨rfl, hb⟩
  have HB : Hid (Below w.heap.size w w1) := Lib.hid ((((Below.refl _ _).alloc (Nat.le_refl _) _).alloc (by simp) _).trans (hb.mono (by simp; omega)))
  clear hb
  go_wp2_with fail
  go_ret
  exact ⟨by rw [← cmpTD_neg]; rfl, HB.out⟩
theorem isText_any (s : ByteArray) (w : World) : Calls Tryz.prog 236 #[.string s] w fun e w' => e = .returned (.bool (decide (s.size ≤ 40))) ∧ Below w.heap.size w w' := by
  go_enter Tryz.func236, Tryz.ntmps236
  go_wp2_with fail
  go_ret
  exact ⟨by simp <;> omega, Below.refl _ _⟩
def isT (n : Int) : Bool := decide (1 ≤ n ∧ n ≤ 1099511627776)
theorem isTime_any (n : Int) (w : World) : Calls Tryz.prog 235 #[.int .u64 n] w fun e w' => e = .returned (.bool (isT n)) ∧ Below w.heap.size w w' := by
  by_cases h : 1 ≤ n
  · go_enter Tryz.func235, Tryz.ntmps235
    go_wp2_with fail
    go_ret
    exact ⟨by simp [isT, h], Below.refl _ _⟩
  · have h' : decide (1 ≤ n) = false := by simpa using h
    go_enter Tryz.func235, Tryz.ntmps235
    go_wp2_with fail
    go_ret
    exact ⟨by simp [isT]; omega, Below.refl _ _⟩
end Go.Proofs.YtaandcblndldmaaGreat

/- LeafB -/
namespace Go.Proofs.YtaandcblndldmaaGreat
open Go.RowKit
set_option linter.unusedVariables false
set_option linter.unusedSimpArgs false

set_option maxHeartbeats 1000000 in
theorem equalD_any (a b : Option Addr) (c d : Nat) (l m : List Dt) (w : World) (hv : Vec w a c l) (hu : Vec w b d m) (hn : l.length ≤ 1100000) (hm : m.length ≤ 1100000) :
    Calls Tryz.prog 254 #[.slice a l.length c, .slice b m.length d] w fun e w' => ∃ q : Bool, e = .returned (.bool q) ∧ (q = true ↔ l = m) ∧ Below w.heap.size w w' := by
  have Hv := Lib.hid hv
  have Hu := Lib.hid hu
  clear hv hu
  by_cases hl : l.length = m.length
  · have Hl := Lib.hid hl
    rw [← hl]
    clear hl
    go_enter Tryz.func254, Tryz.ntmps254
    go_wp2_with fail
    go_loopw [13] (fun j wr => ∃ k : Nat, k ≤ l.length ∧ j = .int .i64 k ∧ Hid (l.take k = m.take k) ∧ Below w.heap.size w wr) (fun j _ => l.length - (intOf j).toNat)
    case atStart => exact ⟨0, Nat.zero_le _, rfl, Lib.hid (by simp), Below.refl _ _⟩
    case round =>
      obtain ⟨k, hk, rfl, hle, hb⟩ := hrel
      have Hb := Lib.hid hb
      clear hb
      by_cases hlt : k < l.length
      · have hlm : k < m.length := by have := Hl.out; omega
        obtain ⟨⟨⟨r, i⟩, s⟩, hx⟩ : ∃ x, l[k]? = some x := ⟨l[k], by simp [hlt]⟩
        obtain ⟨⟨⟨r', i'⟩, s'⟩, hy⟩ : ∃ y, m[k]? = some y := ⟨m[k], by simp [hlm]⟩
        obtain ⟨ad, had, d0, d1, d2, hl0⟩ := (Hv.out.below Hb.out).at hx
        obtain ⟨ae, hae, e0, e1, e2, hl1⟩ := (Hu.out.below Hb.out).at hy
        subst had hae
        dsimp only at d0 d1 d2 e0 e1 e2
        have Hx := Lib.hid hx
        have Hy := Lib.hid hy
        clear hx hy
        cases hq : eqD ((r, i), s) ((r', i'), s') with
        | true =>
          go_wp2_with fail
          refine region_text [([0, 1, 2, 3, 4, 5, 6, 7, 8], false)] mixed (by kernel_rfl) ?_
          simp only [wpSegs, List.map_cons, List.map_nil, List.getD_cons_succ, List.getD_cons_zero]
          go_wp2_with fail
          refine And.intro (by kernel_rfl) ?_
          go_wp2_with fail
          go_roundw
          case rel => exact ⟨k + 1, by omega, by go_num, Lib.hid (by rw [take_snoc' Hx.out, take_snoc' Hy.out, hle.out, (eqD_iff _ _).1 hq]), below_drewN Hb.out _⟩
          case measure => simp [intOf]; omega
        | false =>
          have He := Lib.hid (show ¬ l = m by intro e; subst e; have := Hx.out.symm.trans Hy.out; rw [Option.some.injEq, ← eqD_iff, hq] at this; cases this)
          go_wp2_with fail
          refine region_text [([0, 1, 2, 3, 4, 5, 6, 7, 8], false)] mixed (by kernel_rfl) ?_
          simp only [wpSegs, List.map_cons, List.map_nil, List.getD_cons_succ, List.getD_cons_zero]
          go_wp2_with fail
          refine And.intro (by kernel_rfl) ?_
          go_wp2_with fail
          go_ret
          exact ⟨false, rfl, by simp [He.out], below_drewN Hb.out _⟩
      · have He := Lib.hid (show l = m from take_ext k Hl.out (by omega) hle.out)
        go_wp2_with fail
        go_ret
        exact ⟨true, rfl, by simp [He.out], Hb.out⟩
  · have He := Lib.hid (show ¬ l = m from fun e => hl (by rw [e]))
    have hl' : ((l.length : Int) == (m.length : Int)) = false := by simp; omega
    go_enter Tryz.func254, Tryz.ntmps254
    go_wp2_with fail
    go_ret
    exact ⟨false, rfl, by simp [He.out], Below.refl _ _⟩
set_option maxHeartbeats 1000000 in
theorem equalI_any (a b : Option Addr) (c d : Nat) (l m : List It) (w : World) (hv : Its w a c l) (hu : Its w b d m) (hn : l.length ≤ 1100000) (hm : m.length ≤ 1100000) :
    Calls Tryz.prog 253 #[.slice a l.length c, .slice b m.length d] w fun e w' => ∃ q : Bool, e = .returned (.bool q) ∧ (q = true ↔ l = m) ∧ Below w.heap.size w w' := by
  have Hv := Lib.hid hv
  have Hu := Lib.hid hu
  clear hv hu
  by_cases hl : l.length = m.length
  · have Hl := Lib.hid hl
    rw [← hl]
    clear hl
    go_enter Tryz.func253, Tryz.ntmps253
    go_wp2_with fail
    go_loopw [13] (fun j wr => ∃ k : Nat, k ≤ l.length ∧ j = .int .i64 k ∧ Hid (l.take k = m.take k) ∧ Below w.heap.size w wr) (fun j _ => l.length - (intOf j).toNat)
    case atStart => exact ⟨0, Nat.zero_le _, rfl, Lib.hid (by simp), Below.refl _ _⟩
    case round =>
      obtain ⟨k, hk, rfl, hle, hb⟩ := hrel
      have Hb := Lib.hid hb
      clear hb
      by_cases hlt : k < l.length
      · have hlm : k < m.length := by have := Hl.out; omega
        obtain ⟨⟨t, ⟨⟨r, i⟩, s⟩, x⟩, hx⟩ : ∃ x, l[k]? = some x := ⟨l[k], by simp [hlt]⟩
        obtain ⟨⟨t', ⟨⟨r', i'⟩, s'⟩, x'⟩, hy⟩ : ∃ y, m[k]? = some y := ⟨m[k], by simp [hlm]⟩
        obtain ⟨ad, had, ⟨d0, d1, d2, d3, d4⟩, hl0⟩ := (Hv.out.below Hb.out).at hx
        obtain ⟨ae, hae, ⟨e0, e1, e2, e3, e4⟩, hl1⟩ := (Hu.out.below Hb.out).at hy
        subst had hae
        dsimp only at d0 d1 d2 d3 d4 e0 e1 e2 e3 e4
        have Hx := Lib.hid hx
        have Hy := Lib.hid hy
        clear hx hy
        cases hq : eqI ⟨t, ((r, i), s), x⟩ ⟨t', ((r', i'), s'), x'⟩ with
        | true =>
          go_wp2_with fail
          refine region_text [([0, 1, 2, 3, 4, 5, 6, 7, 8], false)] mixed (by kernel_rfl) ?_
          simp only [wpSegs, List.map_cons, List.map_nil, List.getD_cons_succ, List.getD_cons_zero]
          go_wp2_with fail
          refine And.intro (by kernel_rfl) ?_
          go_wp2_with fail
          go_roundw
          case rel => exact ⟨k + 1, by omega, by go_num, Lib.hid (by rw [take_snoc' Hx.out, take_snoc' Hy.out, hle.out, (eqI_iff _ _).1 hq]), below_drewN Hb.out _⟩
          case measure => simp [intOf]; omega
        | false =>
          have He := Lib.hid (show ¬ l = m by intro e; subst e; have := Hx.out.symm.trans Hy.out; rw [Option.some.injEq, ← eqI_iff, hq] at this; cases this)
          go_wp2_with fail
          refine region_text [([0, 1, 2, 3, 4, 5, 6, 7, 8], false)] mixed (by kernel_rfl) ?_
          simp only [wpSegs, List.map_cons, List.map_nil, List.getD_cons_succ, List.getD_cons_zero]
          go_wp2_with fail
          refine And.intro (by kernel_rfl) ?_
          go_wp2_with fail
          go_ret
          exact ⟨false, rfl, by simp [He.out], below_drewN Hb.out _⟩
      · have He := Lib.hid (show l = m from take_ext k Hl.out (by omega) hle.out)
        go_wp2_with fail
        go_ret
        exact ⟨true, rfl, by simp [He.out], Hb.out⟩
  · have He := Lib.hid (show ¬ l = m from fun e => hl (by rw [e]))
    have hl' : ((l.length : Int) == (m.length : Int)) = false := by simp; omega
    go_enter Tryz.func253, Tryz.ntmps253
    go_wp2_with fail
    go_ret
    exact ⟨false, rfl, by simp [He.out], Below.refl _ _⟩

/-- the value of a leaf whose items and tombs lie so -/
def lval (l : Lf) (ia : Option Addr) (ic : Nat) (ta : Option Addr) (tc : Nat) : Value :=
  .agg #[.int .u8 l.k, .int .i64 l.n, .int .u64 l.t, .int .u8 l.d.1.1, .int .u32 l.d.1.2, .int .u64 l.d.2, .string l.x, .slice ia l.items.length ic, .slice ta l.tombs.length tc]
structure LfAt (w : World) (l : Lf) (ia : Option Addr) (ic : Nat) (ta : Option Addr) (tc : Nat) : Prop where
  its : Its w ia ic l.items
  tms : Vec w ta tc l.tombs
  li : l.items.length ≤ 1100000
  lt : l.tombs.length ≤ 1100000
theorem LfAt.below {w w' : World} {l : Lf} {ia : Option Addr} {ic : Nat} {ta : Option Addr} {tc : Nat} (h : LfAt w l ia ic ta tc) (hb : Below w.heap.size w w') : LfAt w' l ia ic ta tc := ⟨h.its.below hb, h.tms.below hb, h.li, h.lt⟩
theorem Lf.ext' {a b : Lf} (h0 : a.k = b.k) (h1 : a.n = b.n) (h2 : a.t = b.t) (h3 : a.d = b.d) (h4 : a.x = b.x) (h5 : a.items = b.items) (h6 : a.tombs = b.tombs) : a = b := by
  obtain ⟨⟩ := a; obtain ⟨⟩ := b; simp_all
set_option maxHeartbeats 2000000 in
theorem sameL_any (l m : Lf) (ia ta ja ua : Option Addr) (ic tc jc uc : Nat) (w : World) (hl : LfAt w l ia ic ta tc) (hm : LfAt w m ja jc ua uc) :
    Calls Tryz.prog 239 #[lval l ia ic ta tc, lval m ja jc ua uc] w fun e w' => ∃ q : Bool, e = .returned (.bool q) ∧ (q = true ↔ l = m) ∧ Below w.heap.size w w' := by
  obtain ⟨k, n, t, ⟨⟨r, i⟩, s⟩, x, is, ts⟩ := l
  obtain ⟨k', n', t', ⟨⟨r', i'⟩, s'⟩, x', is', ts'⟩ := m
  have Hl := Lib.hid hl
  have Hm := Lib.hid hm
  clear hl hm
  simp only [lval]
  cases h0 : (k == k') with
  | false =>
    have He := Lib.hid (show ¬ (k = k') from by simpa using h0)
    go_enter Tryz.func239, Tryz.ntmps239
    go_wp2_with fail
    go_ret
    exact ⟨false, rfl, ⟨fun h => (by cases h), fun h => absurd (show k = k' from congrArg Lf.k h) He.out⟩, ((Below.refl _ _).alloc (Nat.le_refl _) _).alloc (by simp) _⟩
  | true =>
    cases h1 : (n == n') with
    | false =>
      have He := Lib.hid (show ¬ (n = n') from by simpa using h1)
      go_enter Tryz.func239, Tryz.ntmps239
      go_wp2_with fail
      go_ret
      exact ⟨false, rfl, ⟨fun h => (by cases h), fun h => absurd (show n = n' from congrArg Lf.n h) He.out⟩, ((Below.refl _ _).alloc (Nat.le_refl _) _).alloc (by simp) _⟩
    | true =>
      cases h2 : (t == t') with
      | false =>
        have He := Lib.hid (show ¬ (t = t') from by simpa using h2)
        go_enter Tryz.func239, Tryz.ntmps239
        go_wp2_with fail
        go_ret
        exact ⟨false, rfl, ⟨fun h => (by cases h), fun h => absurd (show t = t' from congrArg Lf.t h) He.out⟩, ((Below.refl _ _).alloc (Nat.le_refl _) _).alloc (by simp) _⟩
      | true =>
        cases h3 : eqD ((r, i), s) ((r', i'), s') with
        | false =>
          have He := Lib.hid (show ¬ (((r, i), s) = ((r', i'), s')) from fun e => by rw [(eqD_iff _ _).2 e] at h3; cases h3)
          go_enter Tryz.func239, Tryz.ntmps239
          go_wp2_with fail
          go_ret
          exact ⟨false, rfl, ⟨fun h => (by cases h), fun h => absurd (show ((r, i), s) = ((r', i'), s') from congrArg Lf.d h) He.out⟩, ((Below.refl _ _).alloc (Nat.le_refl _) _).alloc (by simp) _⟩
        | true =>
          cases h4 : (x.toList == x'.toList) with
          | false =>
            have He := Lib.hid (show ¬ (x = x') from fun e => by subst e; simp at h4)
            go_enter Tryz.func239, Tryz.ntmps239
            go_wp2_with fail
            go_ret
            exact ⟨false, rfl, ⟨fun h => (by cases h), fun h => absurd (show x = x' from congrArg Lf.x h) He.out⟩, ((Below.refl _ _).alloc (Nat.le_refl _) _).alloc (by simp) _⟩
          | true =>
            have E0 := Lib.hid (show k = k' by simpa using h0)
            have E1 := Lib.hid (show n = n' by simpa using h1)
            have E2 := Lib.hid (show t = t' by simpa using h2)
            have E3 := Lib.hid ((eqD_iff _ _).1 h3)
            have E4 := Lib.hid (show x = x' by rw [beq_bytes] at h4; simpa using h4)
            go_enter Tryz.func239, Tryz.ntmps239
            go_wp2_with fail
            refine (equalI_any ia ja ic jc is is' _ (Hl.out.its.below ?b1) (Hm.out.its.below ?b2) Hl.out.li Hm.out.li).mono ?_
            case b1 => exact ((Below.refl _ _).alloc (Nat.le_refl _) _).alloc (by simp) _
            case b2 => exact ((Below.refl _ _).alloc (Nat.le_refl _) _).alloc (by simp) _
            rintro e w1 ⟨q, rfl, hq, hb⟩
            obtain ⟨hx0, hx1, hz, hB⟩ := new2 hb
            have d0 := cells_at hx0
            have d1 := cells_at hx1
            have Hq := Lib.hid hq
            have HB := Lib.hid hB
            clear hq hb hB hx0 hx1
            cases q with
            | false =>
              go_wp2_with fail
              go_ret
              exact ⟨false, rfl, ⟨fun h => (by cases h), fun h => by have := Hq.out.2 (congrArg Lf.items h); cases this⟩, HB.out⟩
            | true =>
              go_wp2_with fail
              refine (equalD_any ta ua tc uc ts ts' _ (Hl.out.tms.below HB.out) (Hm.out.tms.below HB.out) Hl.out.lt Hm.out.lt).mono ?_
              rintro e w2 ⟨q, rfl, hq2, hb2⟩
              have Hq2 := Lib.hid hq2
              have HB2 := Lib.hid (HB.out.trans (hb2.mono HB.out.size))
              clear hq2 hb2
              go_wp2_with fail
              go_ret
              exact ⟨q, rfl, ⟨fun h => Lf.ext' E0.out E1.out E2.out E3.out E4.out (Hq.out.1 (by simp)) (Hq2.out.1 h), fun h => Hq2.out.2 (congrArg Lf.tombs h)⟩, HB2.out⟩
end Go.Proofs.YtaandcblndldmaaGreat

/- LeafC -/
namespace Go.Proofs.YtaandcblndldmaaGreat
open Go.RowKit
set_option linter.unusedVariables false
set_option linter.unusedSimpArgs false

/-- the cells of a dot's own block -/
def dblk (d : Dt) : Array Value := #[.int .u8 d.1.1, .int .u32 d.1.2, .int .u64 d.2]
theorem hasF_any (x : It) (d : Dt) (p : Nat) (w : World) (hp : w.heap[p]? = some (.cells (dblk d) 49 (0, 0))) :
    Calls Tryz.prog 261 #[.agg #[.int .u64 x.t, .int .u8 x.d.1.1, .int .u32 x.d.1.2, .int .u64 x.d.2, .string x.x], .pointer (some ⟨p, 0, none⟩)] w fun e w' => e = .returned (.bool (eqD x.d d)) ∧ Below w.heap.size w w' := by
  obtain ⟨t, ⟨⟨r, i⟩, s⟩, x⟩ := x
  obtain ⟨⟨r', i'⟩, s'⟩ := d
  have hlt := heap_lt hp
  have hp' := (heap_old w (.cells #[.int .u64 t, .int .u8 r, .int .u32 i, .int .u64 s, .string x] 180 (0, 0)) hlt).trans hp
  have d0 := cells_at hp'
  simp only [dblk] at d0
  clear hp hp' hlt
  go_enter Tryz.func261, Tryz.ntmps261
  go_wp2_with fail
  go_ret
  exact ⟨rfl, (Below.refl _ _).alloc (Nat.le_refl _) _⟩
theorem dots_snoc {l : List It} {k : Nat} {x : It} {d : Dt} (hx : l[k]? = some x) (h : d ∉ dotsOf (l.take k)) (hd : x.d ≠ d) : d ∉ dotsOf (l.take (k + 1)) := by
  rw [take_snoc' hx]
  simp only [dotsOf, List.map_append, List.mem_append, not_or] at *
  exact ⟨h, by simp; exact fun e => hd e.symm⟩
set_option maxHeartbeats 1000000 in
theorem indexI_any (a : Option Addr) (c : Nat) (l : List It) (d : Dt) (p : Nat) (w : World) (hv : Its w a c l) (hp : w.heap[p]? = some (.cells (dblk d) 49 (0, 0))) (hn : l.length ≤ 1100000) :
    Calls Tryz.prog 263 #[.slice a l.length c, .func (.func 261) #[] #[.pointer (some ⟨p, 0, none⟩)]] w fun e w' => ∃ k : Int, e = .returned (.int .i64 k) ∧ (0 ≤ k ↔ d ∈ dotsOf l) ∧ Below w.heap.size w w' := by
  have Hv := Lib.hid hv
  have Hp := Lib.hid hp
  clear hv hp
  have he := enters_of Tryz.func261 (by kernel_rfl) rfl
  go_enter Tryz.func263, Tryz.ntmps263
  go_wp2_with fail
  go_loopw [8] (fun j wr => ∃ k : Nat, k ≤ l.length ∧ j = .int .i64 k ∧ Hid (d ∉ dotsOf (l.take k)) ∧ Below w.heap.size w wr) (fun j _ => l.length - (intOf j).toNat)
  case atStart => exact ⟨0, Nat.zero_le _, rfl, Lib.hid (by simp [dotsOf]), Below.refl _ _⟩
  case round =>
    obtain ⟨k, hk, rfl, hle, hb⟩ := hrel
    have Hb := Lib.hid hb
    clear hb
    by_cases hlt : k < l.length
    · obtain ⟨x, hx⟩ : ∃ x, l[k]? = some x := ⟨l[k], by simp [hlt]⟩
      obtain ⟨ad, had, ⟨c0, c1, c2, c3, c4⟩, hl0⟩ := (Hv.out.below Hb.out).at hx
      subst had
      have Hx := Lib.hid hx
      clear hx
      go_wp2_with fail
      refine (hasF_any x d p _ ((Hb.out.block _ (heap_lt Hp.out)).trans Hp.out)).mono ?_
      rintro e w1 ⟨rfl, hb1⟩
      have HB1 := Lib.hid (Hb.out.trans (hb1.mono Hb.out.size))
      clear hb1
      cases hi : eqD x.d d with
      | true =>
        have He := Lib.hid (show d ∈ dotsOf l from mem_dotsOf.2 ⟨x, List.mem_of_getElem? Hx.out, (eqD_iff _ _).1 hi⟩)
        clear hi
        go_wp2_with fail
        go_ret
        exact ⟨k, rfl, ⟨fun _ => He.out, fun _ => by omega⟩, HB1.out⟩
      | false =>
        have Hi := Lib.hid (show x.d ≠ d from fun e => by rw [(eqD_iff _ _).2 e] at hi; cases hi)
        clear hi
        go_wp2_with fail
        go_roundw
        case rel => exact ⟨k + 1, by omega, by go_num, Lib.hid (dots_snoc Hx.out hle.out Hi.out), HB1.out⟩
        case measure => simp [intOf]; omega
    · have He := Lib.hid (show d ∉ dotsOf l by have := hle.out; rwa [List.take_of_length_le (by omega)] at this)
      go_wp2_with fail
      go_ret
      exact ⟨-1, rfl, ⟨fun h => by omega, fun h => absurd h He.out⟩, Hb.out⟩
theorem containsI_any (a : Option Addr) (c : Nat) (l : List It) (d : Dt) (p : Nat) (w : World) (hv : Its w a c l) (hp : w.heap[p]? = some (.cells (dblk d) 49 (0, 0))) (hn : l.length ≤ 1100000) :
    Calls Tryz.prog 260 #[.slice a l.length c, .func (.func 261) #[] #[.pointer (some ⟨p, 0, none⟩)]] w fun e w' => ∃ q : Bool, e = .returned (.bool q) ∧ (q = true ↔ d ∈ dotsOf l) ∧ Below w.heap.size w w' := by
  go_enter Tryz.func260, Tryz.ntmps260
  go_wp2_with fail
  refine (indexI_any a c l d p _ hv hp hn).mono ?_
  rintro e w1 ⟨k, rfl, hk, hb⟩
  have Hb := Lib.hid hb
  have Hk := Lib.hid hk
  clear hb hk
  go_wp2_with fail
  go_ret
  exact ⟨_, rfl, by rw [decide_eq_true_iff]; exact Hk.out, Hb.out⟩
theorem hasL_any (a : Option Addr) (c : Nat) (l : List It) (d : Dt) (w : World) (hv : Its w a c l) (hn : l.length ≤ 1100000) :
    Calls Tryz.prog 252 #[.slice a l.length c, .agg #[.int .u8 d.1.1, .int .u32 d.1.2, .int .u64 d.2]] w fun e w' => ∃ q : Bool, e = .returned (.bool q) ∧ (q = true ↔ d ∈ dotsOf l) ∧ Below w.heap.size w w' := by
  have Hv := Lib.hid hv
  clear hv
  go_enter Tryz.func252, Tryz.ntmps252
  go_wp2_with fail
  refine (containsI_any a c l d w.heap.size _ (Hv.out.below ((Below.refl _ _).alloc (Nat.le_refl _) _)) (heap_new _ _) hn).mono ?_
  rintro e w1 ⟨q, rfl, hq, hb⟩
  obtain ⟨_, _, hB⟩ := new1 hb
  have Hb := Lib.hid hB
  have Hq := Lib.hid hq
  clear hb hq hB
  go_wp2_with fail
  go_ret
  exact ⟨q, rfl, Hq.out, Hb.out⟩

theorem dotsOf_snoc (l : List It) (x : It) : dotsOf (l ++ [x]) = dotsOf l ++ [x.d] := by simp [dotsOf]
set_option maxRecDepth 100000 in
set_option maxHeartbeats 1000000 in
theorem twice_any (a : Option Addr) (c : Nat) (l : List It) (w : World) (hv : Its w a c l) (hok : okV (dotsOf l)) (hn : l.length ≤ 1100000) :
    Calls Tryz.prog 251 #[.slice a l.length c] w fun e w' => ∃ q : Bool, e = .returned (.bool q) ∧ (q = true ↔ ¬ (dotsOf l).Nodup) ∧ Below w.heap.size w w' := by
  have hmm := @run_makeMap Tryz.prog
  have Hv := Lib.hid hv
  clear hv
  go_enter Tryz.func251, Tryz.ntmps251
  go_wp2_with fail
  go_loopw [9] (fun j wr => ∃ k : Nat, k ≤ l.length ∧ j = .int .i64 k ∧ Hid (SeenAt wr w.heap.size (dotsOf (l.take k))) ∧ Below w.heap.size w wr) (fun j _ => l.length - (intOf j).toNat)
  case atStart => exact ⟨0, Nat.zero_le _, rfl, Lib.hid (SeenAt.made w), (Below.refl _ _).alloc (Nat.le_refl _) _⟩
  case round =>
    obtain ⟨k, hk, rfl, hs, hb⟩ := hrel
    have Hb := Lib.hid hb
    clear hb hmm
    by_cases hlt : k < l.length
    · obtain ⟨⟨t, ⟨⟨r, i⟩, s⟩, x⟩, hx⟩ : ∃ x, l[k]? = some x := ⟨l[k], by simp [hlt]⟩
      obtain ⟨ad, had, ⟨c0, c1, c2, c3, c4⟩, hl0⟩ := (Hv.out.below Hb.out).at hx
      subst had
      dsimp only at c0 c1 c2 c3 c4
      have Hok := Lib.hid (hok ((r, i), s) (mem_dotsOf.2 ⟨_, List.mem_of_getElem? hx, rfl⟩))
      have Hx := Lib.hid hx
      have hs1 := hs.out.lt
      have hlen : (dotsOf (l.take k)).length ≤ 1100000 := by simp [dotsOf]; omega
      have hcb := cntI_bd (dotsOf (l.take k)) ((r, i), s)
      obtain ⟨w2, w3, st, hr1, hr2, hr3, hr4, hs3, hC3⟩ := SeenAt.plus (w := (wr.alloc (.cells #[.int .u64 t, .int .u8 r, .int .u32 i, .int .u64 s, .string x] 180 (0, 0))).drew) (hs.out.below ((Below.refl _ _).alloc (Nat.le_refl _) _).drew) Hok.out
      have HB3 : Hid (Below w.heap.size w w3) := Lib.hid (((Hb.out.alloc Hb.out.size _).drew).trans (hC3.below (by have := Hb.out.size; simp; omega) (by simp)))
      have Hs3 : Hid (SeenAt w3 w.heap.size (dotsOf (l.take (k + 1)))) := Lib.hid (by rw [take_snoc' Hx.out, dotsOf_snoc]; exact hs3)
      clear hx hs hs3 hC3
      go_wp2_with fail
      refine region_tree (.seg [0, 1, 2] false (.fork (.seg [3, 4, 5, 6, 7] false .done) (.seg [5, 6, 3, 4, 7] false .done))) mixed (by kernel_rfl) ?_
      simp only [wpSg, List.map_cons, List.map_nil, List.getD_cons_succ, List.getD_cons_zero]
      go_wp2_with fail
      refine And.intro ?_ ?_
      all_goals
        go_wp2_with fail
        refine And.intro (by kernel_rfl) ?_
        go_wp2_with fail
        go_roundw
        case rel => exact ⟨k + 1, by omega, by go_num, Hs3, HB3.out⟩
        case measure => simp [intOf]; omega
    · have e : l.take k = l := List.take_of_length_le (by omega)
      have hs' : SeenAt wr w.heap.size (dotsOf l) := by have := hs.out; rwa [e] at this
      have hlen := hs'.len 3 (by simp [dotsOf]; omega)
      have hle := distinct_le (dotsOf l)
      have hnd := distinct_nodup (dotsOf l)
      have hll : (dotsOf l).length = l.length := by simp [dotsOf]
      have Hn := Lib.hid hnd
      clear e hs' hs hnd
      go_wp2_with fail
      go_ret
      refine ⟨_, rfl, ?_, Hb.out⟩
      rw [decide_eq_true_iff, ← Hn.out]
      omega
end Go.Proofs.YtaandcblndldmaaGreat

/- LeafD -/
namespace Go.Proofs.YtaandcblndldmaaGreat
open Go.RowKit
set_option linter.unusedVariables false
set_option linter.unusedSimpArgs false

theorem isT_iff (n : Int) : isT n = true ↔ 1 ≤ n ∧ n ≤ 1099511627776 := by simp [isT]
/-- the first k follow one another -/
def upTo {α : Type} (lt : α → α → Prop) (l : List α) (k : Nat) : Prop := ∀ i x y, i + 1 < k → l[i]? = some x → l[i + 1]? = some y → lt x y
theorem upTo.zero {α : Type} {lt : α → α → Prop} {l : List α} : upTo lt l 0 := fun i x y h => by omega
theorem upTo.one {α : Type} {lt : α → α → Prop} {l : List α} : upTo lt l 1 := fun i x y h => by omega
theorem upTo.succ {α : Type} {lt : α → α → Prop} {l : List α} {k : Nat} (h : upTo lt l (k + 1)) {x y : α} (hx : l[k]? = some x) (hy : l[k + 1]? = some y) (hlt : lt x y) : upTo lt l (k + 2) := fun i a b hi ha hb => by
  by_cases e : i = k
  · subst e; rw [hx] at ha; rw [hy] at hb; cases ha; cases hb; exact hlt
  · exact h i a b (by omega) ha hb
theorem upTo.all {α : Type} {lt : α → α → Prop} (ht : ∀ {a b c}, lt a b → lt b c → lt a c) {l : List α} {k : Nat} (h : upTo lt l k) (hk : l.length ≤ k) : l.Pairwise lt :=
  chain_pairwise (lt := lt) (fun h1 h2 => ht h1 h2) fun i x y hx hy => h i x y (by have := (List.getElem?_eq_some_iff.1 hy).1; omega) hx hy
theorem all_snoc {α : Type} {p : α → Prop} {l : List α} {k : Nat} {x : α} (hx : l[k]? = some x) (h : ∀ y ∈ l.take k, p y) (hp : p x) : ∀ y ∈ l.take (k + 1), p y := by
  intro y hy
  rw [take_snoc' hx, List.mem_append, List.mem_singleton] at hy
  rcases hy with hy | rfl
  · exact h y hy
  · exact hp
theorem bad_item {timed : Bool} {l : List It} {k : Nat} {x : It} (hx : l[k]? = some x) (h : ¬ OkItem timed x) : ¬ MayItems timed l := fun hm => h (hm.1 x (List.mem_of_getElem? hx))
theorem bad_pair {timed : Bool} {l : List It} {k : Nat} {x y : It} (hx : l[k]? = some x) (hy : l[k + 1]? = some y) (h : aheadT x.t x.d y.t y.d = false) : ¬ MayItems timed l := fun hm => by
  have := pairwise_next hm.2.1 hx hy
  unfold ltI at this
  rw [h] at this
  cases this
theorem false_iff' {p : Prop} (h : ¬ p) : (false = true ↔ p) := ⟨fun e => (by cases e), fun e => absurd e h⟩
theorem true_iff' {p : Prop} (h : p) : (true = true ↔ p) := ⟨fun _ => h, fun _ => rfl⟩
theorem below2 {w w1 w2 : World} {B : Nat} (h : Below B w w1) (k : Below w1.heap.size w1 w2) (hs : B ≤ w1.heap.size) : Below B w w2 := h.trans (k.mono hs)
set_option maxRecDepth 100000 in
set_option maxHeartbeats 4000000 in
theorem items_any (a : Option Addr) (c : Nat) (l : List It) (timed : Bool) (w : World) (hv : Its w a c l) (hok : okV (dotsOf l)) (hn : l.length ≤ 1100000) :
    Calls Tryz.prog 237 #[.slice a l.length c, .bool timed] w fun e w' => ∃ q : Bool, e = .returned (.bool q) ∧ (q = true ↔ MayItems timed l) ∧ Below w.heap.size w w' := by
  have Hv := Lib.hid hv
  clear hv
  go_enter Tryz.func237, Tryz.ntmps237
  go_wp2_with fail
  go_loopw [9] (fun j wr => ∃ k : Nat, k ≤ l.length ∧ j = .int .i64 k ∧ Hid ((∀ x ∈ l.take k, OkItem timed x) ∧ upTo ltI l k) ∧ Below w.heap.size w wr) (fun j _ => l.length - (intOf j).toNat)
  case atStart => exact ⟨0, Nat.zero_le _, rfl, Lib.hid ⟨by simp, upTo.zero⟩, Below.refl _ _⟩
  case round =>
    obtain ⟨k, hk, rfl, hi, hb⟩ := hrel
    have Hi := Lib.hid hi.out
    have Hb := Lib.hid hb
    have hs0 := hb.size
    clear hb hi
    by_cases hlt : k < l.length
    · obtain ⟨⟨t, ⟨⟨r, i⟩, s⟩, x⟩, hx⟩ : ∃ x, l[k]? = some x := ⟨l[k], by simp [hlt]⟩
      obtain ⟨ad, had, ⟨c0, c1, c2, c3, c4⟩, hl0⟩ := (Hv.out.below Hb.out).at hx
      subst had
      dsimp only at c0 c1 c2 c3 c4
      have Hx := Lib.hid hx
      clear hx
      go_wp2_with fail
      refine (may_any r i s _).mono ?_
      rintro e w1 ⟨rfl, hb1⟩
      obtain ⟨hx0, hz1, hB1⟩ := new1 hb1
      have d0 := cells_at hx0
      have Hx0 := Lib.hid hx0
      have HB1 := Lib.hid (below2 Hb.out hB1 hs0)
      clear hb1 hB1 hx0 c0 c1 c2 c3 c4
      cases hm : may ((r, i), s) with
      | false =>
        have He := Lib.hid (bad_item (timed := timed) Hx.out fun h => by have := h.1; rw [hm] at this; cases this)
        clear hm
        go_wp2_with fail
        go_ret
        exact ⟨false, rfl, false_iff' He.out, HB1.out⟩
      | true =>
        have Hm := Lib.hid hm
        clear hm
        go_wp2_with fail
        refine (isText_any x _).mono ?_
        rintro e w2 ⟨rfl, hb2⟩
        have hx0 := (hb2.block _ (heap_lt Hx0.out)).trans Hx0.out
        have d0 := cells_at hx0
        have HB2 := Lib.hid (below2 HB1.out hb2 HB1.out.size)
        have Hx2 := Lib.hid hx0
        have hz2 : wr.heap.size + 1 ≤ w2.heap.size := by have := hb2.size; omega
        clear hb2 hx0 Hx0 HB1 d0
        have d0 := cells_at Hx2.out
        by_cases hsz : x.size ≤ 40
        · have hsz' : decide (x.size ≤ 40) = true := by simpa using hsz
          have Hsz := Lib.hid hsz
          rw [hsz']
          clear hsz hsz'
          go_wp2_with fail
          refine (isTime_any t _).mono ?_
          rintro e w3 ⟨rfl, hb3⟩
          have hx0 := (hb3.block _ (heap_lt Hx2.out)).trans Hx2.out
          have HB3 := Lib.hid (below2 HB2.out hb3 HB2.out.size)
          have hz3 : wr.heap.size + 1 ≤ w3.heap.size := by have := hb3.size; omega
          clear d0 Hx2 HB2 hb3
          have d0 := cells_at hx0
          clear hx0
          cases timed with
          | true =>
            cases hT : isT t with
            | false =>
              have He := Lib.hid (bad_item (timed := true) Hx.out fun h => by have := (isT_iff t).2 (h.2.2.1 rfl); rw [hT] at this; cases this)
              clear hT
              go_wp2_with fail
              go_ret
              exact ⟨false, rfl, false_iff' He.out, HB3.out⟩
            | true =>
              have Hok := Lib.hid (show OkItem true ⟨t, ((r, i), s), x⟩ from ⟨Hm.out, Hsz.out, fun _ => (isT_iff t).1 hT, fun h => by cases h⟩)
              clear hT
              have hl3 : Hid (ad.block < w3.heap.size) := Lib.hid (by omega)
              cases k with
              | zero =>
                go_wp2_with fail
                refine region_text [([0, 1, 2, 3, 4, 5, 6, 7, 8, 9, 10, 11, 12, 13, 14, 15, 16, 17, 18, 19, 20, 21], false)] mixed (by kernel_rfl) ?_
                simp only [wpSegs, List.map_cons, List.map_nil, List.getD_cons_succ, List.getD_cons_zero]
                go_wp2_with fail
                refine And.intro (by kernel_rfl) ?_
                go_wp2_with fail
                go_roundw
                case rel => exact ⟨1, by omega, by go_num, Lib.hid ⟨all_snoc Hx.out Hi.out.1 Hok.out, upTo.one⟩, below_drewN HB3.out _⟩
                case measure => simp [intOf]; omega
              | succ m =>
                obtain ⟨⟨t', ⟨⟨r', i'⟩, s'⟩, x'⟩, hy⟩ : ∃ x, l[m]? = some x := ⟨l[m], by simp [show m < l.length by omega]⟩
                obtain ⟨ae, hae, ⟨g0, g1, g2, g3, g4⟩, hl1⟩ := (Hv.out.below HB3.out).at hy
                cases hae
                dsimp only at g0 g1 g2 g3 g4
                have Hy := Lib.hid hy
                clear hy
                go_wp2_with fail
                refine region_text [([0, 1, 2, 3, 4, 5, 6, 7, 8, 9, 10, 11, 12, 13, 14, 15, 16, 17, 18, 19, 20, 21], false)] mixed (by kernel_rfl) ?_
                simp only [wpSegs, List.map_cons, List.map_nil, List.getD_cons_succ, List.getD_cons_zero]
                go_wp2_with fail
                refine (ahead_any t' ((r', i'), s') t ((r, i), s) _).mono ?_
                rintro e w4 ⟨rfl, hb4⟩
                have HB4 := Lib.hid (below2 HB3.out (((Below.refl _ w3).drew).trans hb4) HB3.out.size)
                clear hb4
                cases ha : aheadT t' ((r', i'), s') t ((r, i), s) with
                | false =>
                  have He := Lib.hid (bad_pair (timed := true) Hy.out Hx.out ha)
                  clear ha
                  go_wp2_with fail
                  refine And.intro (by kernel_rfl) ?_
                  go_wp2_with fail
                  go_ret
                  exact ⟨false, rfl, false_iff' He.out, HB4.out⟩
                | true =>
                  have Ha := Lib.hid ha
                  clear ha
                  go_wp2_with fail
                  refine And.intro (by kernel_rfl) ?_
                  go_wp2_with fail
                  go_roundw
                  case rel => exact ⟨m + 2, by omega, by go_num, Lib.hid ⟨all_snoc Hx.out Hi.out.1 Hok.out, Hi.out.2.succ Hy.out Hx.out Ha.out⟩, HB4.out⟩
                  case measure => simp [intOf]; omega
          | false =>
            cases hT : isT t with
            | true =>
              have He := Lib.hid (bad_item (timed := false) Hx.out fun h => by have h1 := (isT_iff t).1 hT; have h2 := h.2.2.2 rfl; dsimp only at h2; omega)
              clear hT
              go_wp2_with fail
              go_ret
              exact ⟨false, rfl, false_iff' He.out, HB3.out⟩
            | false =>
              by_cases ht0 : t = 0
              · subst ht0
                have Hok := Lib.hid (show OkItem false ⟨0, ((r, i), s), x⟩ from ⟨Hm.out, Hsz.out, fun h => (by cases h), fun _ => rfl⟩)
                clear hT
                have hl3 : Hid (ad.block < w3.heap.size) := Lib.hid (by omega)
                cases k with
                | zero =>
                  go_wp2_with fail
                  refine region_text [([0, 1, 2, 3, 4, 5, 6, 7, 8, 9, 10, 11, 12, 13, 14, 15, 16, 17, 18, 19, 20, 21], false)] mixed (by kernel_rfl) ?_
                  simp only [wpSegs, List.map_cons, List.map_nil, List.getD_cons_succ, List.getD_cons_zero]
                  go_wp2_with fail
                  refine And.intro (by kernel_rfl) ?_
                  go_wp2_with fail
                  go_roundw
                  case rel => exact ⟨1, by omega, by go_num, Lib.hid ⟨all_snoc Hx.out Hi.out.1 Hok.out, upTo.one⟩, below_drewN HB3.out _⟩
                  case measure => simp [intOf]; omega
                | succ m =>
                  obtain ⟨⟨t', ⟨⟨r', i'⟩, s'⟩, x'⟩, hy⟩ : ∃ x, l[m]? = some x := ⟨l[m], by simp [show m < l.length by omega]⟩
                  obtain ⟨ae, hae, ⟨g0, g1, g2, g3, g4⟩, hl1⟩ := (Hv.out.below HB3.out).at hy
                  cases hae
                  dsimp only at g0 g1 g2 g3 g4
                  have Hy := Lib.hid hy
                  clear hy
                  go_wp2_with fail
                  refine region_text [([0, 1, 2, 3, 4, 5, 6, 7, 8, 9, 10, 11, 12, 13, 14, 15, 16, 17, 18, 19, 20, 21], false)] mixed (by kernel_rfl) ?_
                  simp only [wpSegs, List.map_cons, List.map_nil, List.getD_cons_succ, List.getD_cons_zero]
                  go_wp2_with fail
                  refine (ahead_any t' ((r', i'), s') 0 ((r, i), s) _).mono ?_
                  rintro e w4 ⟨rfl, hb4⟩
                  have HB4 := Lib.hid (below2 HB3.out (((Below.refl _ w3).drew).trans hb4) HB3.out.size)
                  clear hb4
                  cases ha : aheadT t' ((r', i'), s') 0 ((r, i), s) with
                  | false =>
                    have He := Lib.hid (bad_pair (timed := false) Hy.out Hx.out ha)
                    clear ha
                    go_wp2_with fail
                    refine And.intro (by kernel_rfl) ?_
                    go_wp2_with fail
                    go_ret
                    exact ⟨false, rfl, false_iff' He.out, HB4.out⟩
                  | true =>
                    have Ha := Lib.hid ha
                    clear ha
                    go_wp2_with fail
                    refine And.intro (by kernel_rfl) ?_
                    go_wp2_with fail
                    go_roundw
                    case rel => exact ⟨m + 2, by omega, by go_num, Lib.hid ⟨all_snoc Hx.out Hi.out.1 Hok.out, Hi.out.2.succ Hy.out Hx.out Ha.out⟩, HB4.out⟩
                    case measure => simp [intOf]; omega
              · have ht0' : (t == 0) = false := by simpa using ht0
                have He := Lib.hid (bad_item (timed := false) Hx.out fun h => ht0 (h.2.2.2 rfl))
                clear ht0
                go_wp2_with fail
                go_ret
                exact ⟨false, rfl, false_iff' He.out, HB3.out⟩
        · have hsz' : decide (x.size ≤ 40) = false := by simpa using hsz
          have He := Lib.hid (bad_item (timed := timed) Hx.out fun h => hsz h.2.1)
          rw [hsz']
          clear hsz hsz'
          go_wp2_with fail
          go_ret
          exact ⟨false, rfl, false_iff' He.out, HB2.out⟩
    · have hall := Hi.out.1
      rw [List.take_of_length_le (by omega)] at hall
      have Hall := Lib.hid hall
      have Hup := Lib.hid (upTo.all (lt := ltI) (fun h1 h2 => ltI_trans h1 h2) Hi.out.2 (by omega))
      clear hall
      go_wp2_with fail
      refine (twice_any a c l _ (Hv.out.below Hb.out) hok hn).mono ?_
      rintro e w1 ⟨q, rfl, hq, hb1⟩
      have HB1 := Lib.hid (below2 Hb.out hb1 hs0)
      have Hq := Lib.hid hq
      clear hb1 hq
      go_wp2_with fail
      go_ret
      refine ⟨!q, rfl, ?_, HB1.out⟩
      cases q with
      | false => exact true_iff' ⟨Hall.out, Hup.out, Decidable.not_not.1 (fun h => by have := Hq.out.2 h; cases this)⟩
      | true => exact false_iff' fun h => Hq.out.1 (by rfl) h.2.2
end Go.Proofs.YtaandcblndldmaaGreat

/- LeafE -/
namespace Go.Proofs.YtaandcblndldmaaGreat
open Go.RowKit
set_option linter.unusedVariables false
set_option linter.unusedSimpArgs false

/-- the cells of a leaf whose items and tombs lie so -/
def lcells (l : Lf) (ia : Option Addr) (ic : Nat) (ta : Option Addr) (tc : Nat) : Array Value :=
  #[.int .u8 l.k, .int .i64 l.n, .int .u64 l.t, .int .u8 l.d.1.1, .int .u32 l.d.1.2, .int .u64 l.d.2, .string l.x, .slice ia l.items.length ic, .slice ta l.tombs.length tc]
theorem bad_tomb {ts : List Dt} {is : List It} {k : Nat} {d : Dt} (hd : ts[k]? = some d) (h : may d = false) : ¬ MayTombs ts is := fun hm => by
  have := hm.1 d (List.mem_of_getElem? hd); rw [h] at this; cases this
theorem bad_tpair {ts : List Dt} {is : List It} {k : Nat} {d o : Dt} (hd : ts[k]? = some d) (ho : ts[k + 1]? = some o) (h : lessD d o = false) : ¬ MayTombs ts is := fun hm => by
  have := pairwise_next hm.2.1 hd ho
  unfold ltD at this
  rw [h] at this
  cases this
theorem bad_tin {ts : List Dt} {is : List It} {k : Nat} {d : Dt} (hd : ts[k]? = some d) (h : d ∈ dotsOf is) : ¬ MayTombs ts is := fun hm => hm.2.2 d (List.mem_of_getElem? hd) h
theorem cmpDD_less (a b : Dt) : decide (0 ≤ cmpDD a b) = !lessD a b := by
  have := cmpD_neg a b
  rw [← cmpDD_eq] at this
  rw [Bool.eq_iff_iff, decide_eq_true_iff, Bool.not_eq_true', ← Bool.not_eq_true, ← this]
  omega
set_option maxRecDepth 100000 in
set_option maxHeartbeats 4000000 in
theorem tombs_any (l : Lf) (ia ta : Option Addr) (ic tc : Nat) (w : World) (hl : LfAt w l ia ic ta tc) :
    Calls Tryz.prog 238 #[lval l ia ic ta tc] w fun e w' => ∃ q : Bool, e = .returned (.bool q) ∧ (q = true ↔ MayTombs l.tombs l.items) ∧ Below w.heap.size w w' := by
  obtain ⟨lk, ln, lt, ⟨⟨lr, li⟩, ls⟩, lx, is, ts⟩ := l
  obtain ⟨hv, hu, hn, hm⟩ := hl
  dsimp only at hv hu hn hm
  have Hv := Lib.hid hv
  have Hu := Lib.hid hu
  clear hv hu
  simp only [lval]
  go_enter Tryz.func238, Tryz.ntmps238
  go_wp2_with fail
  go_loopw [8] (fun j wr => ∃ k : Nat, k ≤ ts.length ∧ j = .int .i64 k ∧ Hid ((∀ d ∈ ts.take k, may d = true ∧ d ∉ dotsOf is) ∧ upTo ltD ts k) ∧ Hid (Below (w.alloc (.cells (lcells ⟨lk, ln, lt, ((lr, li), ls), lx, is, ts⟩ ia ic ta tc) 178)).heap.size (w.alloc (.cells (lcells ⟨lk, ln, lt, ((lr, li), ls), lx, is, ts⟩ ia ic ta tc) 178)) wr)) (fun j _ => ts.length - (intOf j).toNat)
  case atStart => exact ⟨0, Nat.zero_le _, rfl, Lib.hid ⟨by simp, upTo.zero⟩, Lib.hid (Below.refl _ _)⟩
  case round =>
    obtain ⟨k, hk, rfl, hi, hb⟩ := hrel
    have Hi := Lib.hid hi.out
    obtain ⟨hx0, hs0, hbb⟩ := new1 hb.out
    have g0 := cells_at hx0
    have Hg0 := Lib.hid hx0
    have Hb := Lib.hid hbb
    have HB := Lib.hid hb.out
    simp only [lcells] at g0
    clear hb hi hx0 hbb
    by_cases hlt : k < ts.length
    · obtain ⟨⟨⟨r, i⟩, s⟩, hx⟩ : ∃ x, ts[k]? = some x := ⟨ts[k], by simp [hlt]⟩
      obtain ⟨ad, had, c0, c1, c2, hl0⟩ := (Hu.out.below Hb.out).at hx
      subst had
      dsimp only at c0 c1 c2
      have Hx := Lib.hid hx
      clear hx
      go_wp2_with fail
      refine region_text [([0, 1, 2, 3, 4, 5, 6, 7, 8, 9, 10, 11, 12, 13, 14, 15, 16, 17, 18, 19, 20, 21, 22, 23], false)] mixed (by kernel_rfl) ?_
      simp only [wpSegs, List.map_cons, List.map_nil, List.getD_cons_succ, List.getD_cons_zero]
      go_wp2_with fail
      refine (may_any r i s _).mono ?_
      rintro e w1 ⟨rfl, hb1⟩
      obtain ⟨hx0, hz1, hB1⟩ := new1 (((Below.refl _ _).drew).trans hb1)
      have d0 := cells_at hx0
      have Hx0 := Lib.hid hx0
      have HB1 := Lib.hid (below2 HB.out hB1 HB.out.size)
      clear hb1 hB1 hx0 c0 c1 c2 g0
      obtain ⟨hy0, hs1, hbb1⟩ := new1 HB1.out
      have g0 := cells_at hy0
      simp only [lcells] at g0
      have Hb1 := Lib.hid hbb1
      clear hy0 hbb1
      cases hm : may ((r, i), s) with
      | false =>
        have He := Lib.hid (bad_tomb (is := is) Hx.out hm)
        clear hm
        go_wp2_with fail
        refine And.intro (by kernel_rfl) ?_
        go_wp2_with fail
        go_ret
        exact ⟨false, rfl, false_iff' He.out, Hb1.out⟩
      | true =>
        have Hm := Lib.hid hm
        clear hm
        have hl1 : Hid (ad.block < w1.heap.size) := Lib.hid (by omega)
        cases k with
        | zero =>
          go_wp2_with fail
          refine (hasL_any ia ic is ((r, i), s) _ (Hv.out.below Hb1.out) hn).mono ?_
          rintro e w3 ⟨q, rfl, hq, hb3⟩
          have HB3 := Lib.hid (below2 HB1.out hb3 HB1.out.size)
          have Hb3 := Lib.hid (below2 Hb1.out hb3 Hb1.out.size)
          have Hq := Lib.hid hq
          clear hb3 hq g0 d0
          cases q with
          | true =>
            have He := Lib.hid (bad_tin Hx.out (Hq.out.1 rfl))
            go_wp2_with fail
            refine And.intro (by kernel_rfl) ?_
            go_wp2_with fail
            go_ret
            exact ⟨false, rfl, false_iff' He.out, Hb3.out⟩
          | false =>
            have Hok := Lib.hid (show may ((r, i), s) = true ∧ ((r, i), s) ∉ dotsOf is from ⟨Hm.out, fun h => by have := Hq.out.2 h; cases this⟩)
            clear Hq
            go_wp2_with fail
            refine And.intro (by kernel_rfl) ?_
            go_wp2_with fail
            go_roundw
            case rel => exact ⟨1, by omega, by go_num, Lib.hid ⟨all_snoc Hx.out Hi.out.1 Hok.out, upTo.one⟩, Lib.hid HB3.out⟩
            case measure => simp [intOf]; omega
        | succ m =>
          obtain ⟨⟨⟨r', i'⟩, s'⟩, hy⟩ : ∃ x, ts[m]? = some x := ⟨ts[m], by simp [show m < ts.length by omega]⟩
          obtain ⟨ae, hae, p0, p1, p2, hl2⟩ := (Hu.out.below Hb1.out).at hy
          cases hae
          dsimp only at p0 p1 p2
          have Hy := Lib.hid hy
          clear hy
          go_wp2_with fail
          refine (compareD_any r' i' s' r i s _).mono ?_
          rintro e w2 ⟨rfl, hg2⟩
          have hb2 := hg2.below
          have hx0 := (hb2.block _ (heap_lt Hx0.out)).trans Hx0.out
          have HB2 := Lib.hid (below2 HB1.out hb2 HB1.out.size)
          have Hx2 := Lib.hid hx0
          have hl3 : Hid (ad.block < w2.heap.size) := Lib.hid (by have := hl1.out; have := hb2.size; omega)
          clear hb2 hg2 g0 d0 HB1 Hx0 Hb1 hs1 hl1
          obtain ⟨hy0, hs1, hbb1⟩ := new1 HB2.out
          have g0 := cells_at hy0
          have d0 := cells_at hx0
          simp only [lcells] at g0
          have Hb1 := Lib.hid hbb1
          clear hy0 hbb1 hx0 p0 p1 p2
          have hc := cmpDD_less ((r', i'), s') ((r, i), s)
          cases ha : lessD ((r', i'), s') ((r, i), s) with
          | false =>
            have He := Lib.hid (bad_tpair (is := is) Hy.out Hx.out ha)
            rw [ha] at hc
            clear ha
            go_wp2_with fail
            refine And.intro (by kernel_rfl) ?_
            go_wp2_with fail
            go_ret
            exact ⟨false, rfl, false_iff' He.out, Hb1.out⟩
          | true =>
            have Ha := Lib.hid ha
            rw [ha] at hc
            clear ha
            go_wp2_with fail
            refine (hasL_any ia ic is ((r, i), s) _ (Hv.out.below Hb1.out) hn).mono ?_
            rintro e w3 ⟨q, rfl, hq, hb3⟩
            have HB3 := Lib.hid (below2 HB2.out hb3 HB2.out.size)
            have Hb3 := Lib.hid (below2 Hb1.out hb3 Hb1.out.size)
            have Hq := Lib.hid hq
            clear hb3 hq g0 d0
            cases q with
            | true =>
              have He := Lib.hid (bad_tin Hx.out (Hq.out.1 rfl))
              go_wp2_with fail
              refine And.intro (by kernel_rfl) ?_
              go_wp2_with fail
              go_ret
              exact ⟨false, rfl, false_iff' He.out, Hb3.out⟩
            | false =>
              have Hok := Lib.hid (show may ((r, i), s) = true ∧ ((r, i), s) ∉ dotsOf is from ⟨Hm.out, fun h => by have := Hq.out.2 h; cases this⟩)
              clear Hq
              go_wp2_with fail
              refine And.intro (by kernel_rfl) ?_
              go_wp2_with fail
              go_roundw
              case rel => exact ⟨m + 2, by omega, by go_num, Lib.hid ⟨all_snoc Hx.out Hi.out.1 Hok.out, Hi.out.2.succ Hy.out Hx.out Ha.out⟩, Lib.hid HB3.out⟩
              case measure => simp [intOf]; omega
    · have hall := Hi.out.1
      rw [List.take_of_length_le (by omega)] at hall
      have Hall := Lib.hid hall
      have Hup := Lib.hid (upTo.all (lt := ltD) (fun h1 h2 => ltD_trans h1 h2) Hi.out.2 (by omega))
      clear hall
      go_wp2_with fail
      go_ret
      exact ⟨true, rfl, true_iff' ⟨fun d hd => (Hall.out d hd).1, Hup.out, fun d hd => (Hall.out d hd).2⟩, Hb.out⟩
end Go.Proofs.YtaandcblndldmaaGreat

/- LeafF -/
namespace Go.Proofs.YtaandcblndldmaaGreat
open Go.RowKit
set_option linter.unusedVariables false
set_option linter.unusedSimpArgs false

theorem held_alloc (w : World) (C D D' : Array Value) (t t' : TypeId) : Held (fun q => q = w.heap.size) ((w.alloc (.cells C t)).alloc (.cells D t')).drew ((w.alloc (.cells C t)).alloc (.cells D' t')).drew := by
  refine .inr fun k o hk ho => ?_
  have hk' : k = w.heap.size := hk
  subst hk'
  have h1 : ∀ D : Array Value, ((w.alloc (.cells C t)).alloc (.cells D t')).drew.heap[w.heap.size]? = some (.cells C t (0, 0)) := fun D => (heap_old (w.alloc (.cells C t)) (.cells D t') (by simp)).trans (heap_new w _)
  rw [h1] at ho
  have ho' := Option.some.inj ho
  subst ho'
  exact ⟨fun _ _ h => (by cases h), h1 _⟩
theorem toList_nil {x : ByteArray} : x.toList = [] ↔ x.size = 0 := by
  rw [ByteArray.toList_eq, Array.toList_eq_nil_iff]
  exact ⟨fun h => by show x.data.size = 0; rw [h]; rfl, fun h => Array.eq_empty_of_size_eq_zero h⟩
theorem LfAt.none {w : World} {l : Lf} (h : l.items = []) (h2 : l.tombs = []) : LfAt w l none 0 none 0 := by
  refine ⟨?_, ?_, by simp [h], by simp [h2]⟩
  · unfold Its; rw [h]; exact Sl.nil w 5
  · unfold Vec; rw [h2]; exact Sl.nil w 3
set_option maxRecDepth 100000 in
set_option maxHeartbeats 4000000 in
theorem mayL1 (l : Lf) (ia ta : Option Addr) (ic tc : Nat) (w : World) (hl : LfAt w l ia ic ta tc) (hk : l.k = 1) :
    Calls Tryz.prog 219 #[lval l ia ic ta tc] w fun e w' => ∃ q : Bool, e = .returned (.bool q) ∧ (q = true ↔ MayLf l) ∧ Below w.heap.size w w' := by
  obtain ⟨lk, ln, lt, ⟨⟨lr, li⟩, ls⟩, lx, is, ts⟩ := l
  dsimp only at hk
  subst hk
  have Hl := Lib.hid hl
  clear hl
  simp only [lval]
  go_enter Tryz.func219, Tryz.ntmps219
  go_wp2_with fail
  refine (sameL_any ⟨1, ln, lt, ((lr, li), ls), lx, is, ts⟩ ⟨1, ln, 0, noDot, ByteArray.empty, [], []⟩ ia ta none none ic tc 0 0 _ (Hl.out.below ?hb) (LfAt.none rfl rfl)).mono ?_
  case hb => exact ((Below.refl _ _).alloc (Nat.le_refl _) _).alloc (by simp) _
  rintro e w1 ⟨q, rfl, hq, hb⟩
  have HB : Hid (Below w.heap.size w w1) := Lib.hid (new2 hb).2.2.2
  have Hq := Lib.hid hq
  clear hq hb
  go_wp2_with fail
  go_ret
  refine ⟨q, rfl, Hq.out.trans ?_, HB.out⟩
  simp only [Lf.mk.injEq, MayLf, NoReg, noDot]
  constructor
  · rintro ⟨_, _, rfl, h1, rfl, rfl, rfl⟩
    exact .inl ⟨(by trivial), ⟨(by trivial), h1, rfl⟩, (by trivial), (by trivial)⟩
  · rintro (⟨_, ⟨rfl, h1, h2⟩, rfl, rfl⟩ | ⟨h, _⟩ | ⟨h, _⟩ | ⟨h, _⟩)
    · exact ⟨(by trivial), (by trivial), (by trivial), h1, ByteArray.ext (Array.eq_empty_of_size_eq_zero h2), (by trivial), (by trivial)⟩
    all_goals simp at h
theorem empty_bytes {x : ByteArray} (h : x.size = 0) : x = ByteArray.empty := ByteArray.ext (Array.eq_empty_of_size_eq_zero h)
set_option maxRecDepth 100000 in
set_option maxHeartbeats 4000000 in
theorem mayL4 (l : Lf) (ia ta : Option Addr) (ic tc : Nat) (w : World) (hl : LfAt w l ia ic ta tc) (hok : okV (dotsOf l.items)) (hk : l.k = 4) :
    Calls Tryz.prog 219 #[lval l ia ic ta tc] w fun e w' => ∃ q : Bool, e = .returned (.bool q) ∧ (q = true ↔ MayLf l) ∧ Below w.heap.size w w' := by
  obtain ⟨lk, ln, lt, ⟨⟨lr, li⟩, ls⟩, lx, is, ts⟩ := l
  dsimp only at hk hok
  subst hk
  have Hl := Lib.hid hl
  clear hl
  simp only [lval]
  go_enter Tryz.func219, Tryz.ntmps219
  go_wp2_with fail
  refine (items_any ia ic is true _ (Hl.out.its.below ?hb) hok Hl.out.li).mono ?_
  case hb => exact ((Below.refl _ _).alloc (Nat.le_refl _) _).alloc (by simp) _
  rintro e w1 ⟨q, rfl, hq, hb⟩
  obtain ⟨hx0, hx1, hz, hB⟩ := new2 hb
  have d0 := cells_at hx0
  have d1 := cells_at hx1
  have HB := Lib.hid hB
  have Hq := Lib.hid hq
  clear hq hb hx0 hx1 hB
  cases q with
  | false =>
    have He := Lib.hid (show ¬ MayLf ⟨4, ln, lt, ((lr, li), ls), lx, is, ts⟩ by
      rintro (⟨h, _⟩ | ⟨h, _⟩ | ⟨h, _⟩ | ⟨_, _, _, h, _⟩)
      · simp at h
      · simp at h
      · simp at h
      · have := Hq.out.2 h; simp at this)
    go_wp2_with fail
    go_ret
    exact ⟨false, rfl, false_iff' He.out, HB.out⟩
  | true =>
    go_wp2_with fail
    refine (sameL_any ⟨4, ln, lt, ((lr, li), ls), lx, is, ts⟩ ⟨4, 0, 0, noDot, ByteArray.empty, is, []⟩ ia ta ia none ic tc ic 0 _ (Hl.out.below HB.out) ⟨Hl.out.its.below HB.out, Sl.nil w1 3, Hl.out.li, by simp⟩).mono ?_
    rintro e w2 ⟨q, rfl, hq2, hb2⟩
    have HB2 := Lib.hid (below2 HB.out hb2 HB.out.size)
    have Hq2 := Lib.hid hq2
    clear hq2 hb2
    go_wp2_with fail
    go_ret
    refine ⟨q, rfl, Hq2.out.trans ?_, HB2.out⟩
    have hi := Hq.out.1 (by simp)
    simp only [Lf.mk.injEq, MayLf, NoReg, noDot]
    constructor
    · rintro ⟨_, rfl, rfl, h1, rfl, _, rfl⟩
      exact .inr (.inr (.inr ⟨(by trivial), (by trivial), ⟨(by trivial), h1, rfl⟩, hi, (by trivial)⟩))
    · rintro (⟨h, _⟩ | ⟨h, _⟩ | ⟨h, _⟩ | ⟨_, rfl, ⟨rfl, h1, h2⟩, _, rfl⟩)
      · simp at h
      · simp at h
      · simp at h
      · exact ⟨(by trivial), (by trivial), (by trivial), h1, empty_bytes h2, (by trivial), (by trivial)⟩
set_option maxRecDepth 100000 in
set_option maxHeartbeats 4000000 in
theorem mayL3 (l : Lf) (ia ta : Option Addr) (ic tc : Nat) (w : World) (hl : LfAt w l ia ic ta tc) (hok : okV (dotsOf l.items)) (hk : l.k = 3) :
    Calls Tryz.prog 219 #[lval l ia ic ta tc] w fun e w' => ∃ q : Bool, e = .returned (.bool q) ∧ (q = true ↔ MayLf l) ∧ Below w.heap.size w w' := by
  obtain ⟨lk, ln, lt, ⟨⟨lr, li⟩, ls⟩, lx, is, ts⟩ := l
  dsimp only at hk hok
  subst hk
  have Hl := Lib.hid hl
  clear hl
  simp only [lval]
  go_enter Tryz.func219, Tryz.ntmps219
  go_wp2_with fail
  refine region_tree_at (fun q => q = w.heap.size) (sgOf [([0, 1, 2, 3, 4], false), ([5], true), ([6, 7], false)]) mixed (by kernel_rfl) ?_
  simp only [sgOf, wpSgB, List.map_cons, List.map_nil, List.getD_cons_succ, List.getD_cons_zero]
  go_wp2_with fail
  refine And.intro (held_alloc _ _ _ _ _ _) ?_
  go_wp2_with fail
  refine And.intro (And.intro (by kernel_rfl) (reads_of ?rds)) ?_
  case rds => exact ⟨trivial, rfl, trivial, rfl, trivial, trivial, trivial, trivial, trivial⟩
  go_wp2_with fail
  refine (items_any ia ic is false _ (Hl.out.its.below ?hb) hok Hl.out.li).mono ?_
  case hb => exact (((Below.refl _ _).alloc (Nat.le_refl _) _).alloc (by simp) _).drew
  rintro e w1 ⟨q, rfl, hq, hb⟩
  obtain ⟨hx0, hx1, hz, hB⟩ := new2 (((Below.refl _ _).drew).trans hb)
  have d0 := cells_at hx0
  have d1 := cells_at hx1
  have Hx0 := Lib.hid hx0
  have Hx1 := Lib.hid hx1
  have HB := Lib.hid hB
  have Hq := Lib.hid hq
  clear hq hb hx0 hx1 hB
  cases q with
  | false =>
    have He := Lib.hid (show ¬ MayLf ⟨3, ln, lt, ((lr, li), ls), lx, is, ts⟩ by
      rintro (⟨h, _⟩ | ⟨h, _⟩ | ⟨_, _, _, h, _⟩ | ⟨h, _⟩)
      · simp at h
      · simp at h
      · have := Hq.out.2 h; simp at this
      · simp at h)
    go_wp2_with fail
    go_ret
    exact ⟨false, rfl, false_iff' He.out, HB.out⟩
  | true =>
    go_wp2_with fail
    refine (tombs_any ⟨3, ln, lt, ((lr, li), ls), lx, is, ts⟩ ia ta ic tc _ (Hl.out.below HB.out)).mono ?_
    rintro e w2 ⟨q, rfl, hq2, hb2⟩
    have hx0 := (hb2.block _ (heap_lt Hx0.out)).trans Hx0.out
    have hx1 := (hb2.block _ (heap_lt Hx1.out)).trans Hx1.out
    have HB2 := Lib.hid (below2 HB.out hb2 HB.out.size)
    have Hq2 := Lib.hid hq2
    clear hq2 hb2 d0 d1 Hx0 Hx1
    have d0 := cells_at hx0
    have d1 := cells_at hx1
    clear hx0 hx1
    cases q with
    | false =>
      have He := Lib.hid (show ¬ MayLf ⟨3, ln, lt, ((lr, li), ls), lx, is, ts⟩ by
        rintro (⟨h, _⟩ | ⟨h, _⟩ | ⟨_, _, _, _, h⟩ | ⟨h, _⟩)
        · simp at h
        · simp at h
        · have := Hq2.out.2 h; simp at this
        · simp at h)
      go_wp2_with fail
      go_ret
      exact ⟨false, rfl, false_iff' He.out, HB2.out⟩
    | true =>
      go_wp2_with fail
      refine (sameL_any ⟨3, ln, lt, ((lr, li), ls), lx, is, ts⟩ ⟨3, 0, 0, noDot, ByteArray.empty, is, ts⟩ ia ta ia ta ic tc ic tc _ (Hl.out.below HB2.out) ⟨Hl.out.its.below HB2.out, Hl.out.tms.below HB2.out, Hl.out.li, Hl.out.lt⟩).mono ?_
      rintro e w3 ⟨q, rfl, hq3, hb3⟩
      have HB3 := Lib.hid (below2 HB2.out hb3 HB2.out.size)
      have Hq3 := Lib.hid hq3
      clear hq3 hb3
      go_wp2_with fail
      go_ret
      refine ⟨q, rfl, Hq3.out.trans ?_, HB3.out⟩
      have hi := Hq.out.1 (by simp)
      have ht := Hq2.out.1 (by simp)
      simp only [Lf.mk.injEq, MayLf, NoReg, noDot]
      constructor
      · rintro ⟨_, rfl, rfl, h1, rfl, _, _⟩
        exact .inr (.inr (.inl ⟨(by trivial), (by trivial), ⟨(by trivial), h1, rfl⟩, hi, ht⟩))
      · rintro (⟨h, _⟩ | ⟨h, _⟩ | ⟨_, rfl, ⟨rfl, h1, h2⟩, _, _⟩ | ⟨h, _⟩)
        · simp at h
        · simp at h
        · exact ⟨(by trivial), (by trivial), (by trivial), h1, empty_bytes h2, (by trivial), (by trivial)⟩
        · simp at h
set_option maxRecDepth 100000 in
set_option maxHeartbeats 4000000 in
theorem mayL2 (l : Lf) (ia ta : Option Addr) (ic tc : Nat) (w : World) (hl : LfAt w l ia ic ta tc) (h0 : 0 ≤ l.t) (hk : l.k = 2) :
    Calls Tryz.prog 219 #[lval l ia ic ta tc] w fun e w' => ∃ q : Bool, e = .returned (.bool q) ∧ (q = true ↔ MayLf l) ∧ Below w.heap.size w w' := by
  obtain ⟨lk, ln, lt, ⟨⟨lr, li⟩, ls⟩, lx, is, ts⟩ := l
  dsimp only at hk h0
  subst hk
  have H0 := Lib.hid h0
  have Hl := Lib.hid hl
  clear hl h0
  simp only [lval]
  go_enter Tryz.func219, Tryz.ntmps219
  go_wp2_with fail
  refine region_tree_at (fun q => q = w.heap.size) (sgOf [([0, 1, 2, 3, 4, 5, 6], false), ([7], true), ([8], false), ([9], true), ([10, 11], false)]) mixed (by kernel_rfl) ?_
  simp only [sgOf, wpSgB, List.map_cons, List.map_nil, List.getD_cons_succ, List.getD_cons_zero]
  go_wp2_with fail
  refine And.intro (held_alloc _ _ _ _ _ _) ?_
  go_wp2_with fail
  refine And.intro (held_alloc _ _ _ _ _ _) ?_
  go_wp2_with fail
  refine And.intro (And.intro (by kernel_rfl) (reads_of ?rds)) ?_
  case rds => exact ⟨trivial, rfl, trivial, rfl, trivial, rfl, trivial, trivial, trivial, trivial, trivial, trivial, trivial⟩
  have HA : Hid (Below w.heap.size w ((w.alloc (.cells #[.int .u8 2, .int .i64 ln, .int .u64 lt, .int .u8 lr, .int .u32 li, .int .u64 ls, .string lx, .slice ia is.length ic, .slice ta ts.length tc] 178)).alloc (.cells #[.int .u8 2, .int .i64 0, .int .u64 lt, .int .u8 lr, .int .u32 li, .int .u64 ls, .string lx, .slice none 0 0, .slice none 0 0] 178)).drew) := Lib.hid (((Below.refl _ _).alloc (Nat.le_refl _) _).alloc (by simp) _).drew
  by_cases ht : lt = 0
  · subst ht
    cases hd : eqD ((lr, li), ls) ((0, 0), 0) with
    | false =>
      have He := Lib.hid (show ¬ MayLf ⟨2, ln, 0, ((lr, li), ls), lx, is, ts⟩ by
        rintro (⟨h, _⟩ | ⟨_, _, h, _⟩ | ⟨h, _⟩ | ⟨h, _⟩)
        · simp at h
        · rcases h with ⟨_, h, _⟩ | ⟨h, _⟩
          · have := (eqD_iff _ _).2 (show ((lr, li), ls) = ((0, 0), 0) from h)
            rw [hd] at this; cases this
          · exact h rfl
        · simp at h
        · simp at h)
      go_wp2_with fail
      go_ret
      exact ⟨false, rfl, false_iff' He.out, HA.out⟩
    | true =>
      by_cases hx : lx.toList = []
      · go_wp2_with fail
        refine (sameL_any ⟨2, ln, 0, ((lr, li), ls), lx, is, ts⟩ ⟨2, 0, 0, ((lr, li), ls), lx, [], []⟩ ia ta none none ic tc 0 0 _ (Hl.out.below HA.out) (LfAt.none rfl rfl)).mono ?_
        rintro e w1 ⟨q, rfl, hq, hb⟩
        have HS := Lib.hid (below2 HA.out hb HA.out.size)
        have Hq := Lib.hid hq
        clear hq hb
        go_wp2_with fail
        go_ret
        refine ⟨q, rfl, Hq.out.trans ?_, HS.out⟩
        simp only [Lf.mk.injEq, MayLf]
        constructor
        · rintro ⟨_, rfl, _, _, _, rfl, rfl⟩
          exact .inr (.inl ⟨(by trivial), (by trivial), .inl ⟨rfl, (eqD_iff _ _).1 hd, by rw [← toList_nil]; exact hx⟩, (by trivial), (by trivial)⟩)
        · rintro (⟨h, _⟩ | ⟨_, rfl, _, rfl, rfl⟩ | ⟨h, _⟩ | ⟨h, _⟩)
          · simp at h
          · exact ⟨(by trivial), (by trivial), (by trivial), (by trivial), (by trivial), (by trivial), (by trivial)⟩
          · simp at h
          · simp at h
      · have hx' : (lx.toList == []) = false := by simpa using hx
        have He := Lib.hid (show ¬ MayLf ⟨2, ln, 0, ((lr, li), ls), lx, is, ts⟩ by
          rintro (⟨h, _⟩ | ⟨_, _, h, _⟩ | ⟨h, _⟩ | ⟨h, _⟩)
          · simp at h
          · rcases h with ⟨_, _, h⟩ | ⟨h, _⟩
            · exact hx (toList_nil.2 h)
            · exact h rfl
          · simp at h
          · simp at h)
        go_wp2_with fail
        go_ret
        exact ⟨false, rfl, false_iff' He.out, HA.out⟩
  · have ht' : (lt == 0) = false := by simpa using ht
    go_wp2_with fail
    refine (isTime_any lt _).mono ?_
    rintro e w1 ⟨rfl, hb1⟩
    obtain ⟨hx0, hx1, hz, hB⟩ := new2 (((Below.refl _ _).drew).trans hb1)
    have d0 := cells_at hx0
    have d1 := cells_at hx1
    have Hx0 := Lib.hid hx0
    have Hx1 := Lib.hid hx1
    have HB := Lib.hid hB
    clear hb1 hx0 hx1 hB HA
    cases hT : isT lt with
    | false =>
      have He := Lib.hid (show ¬ MayLf ⟨2, ln, lt, ((lr, li), ls), lx, is, ts⟩ by
        rintro (⟨h, _⟩ | ⟨_, _, h, _⟩ | ⟨h, _⟩ | ⟨h, _⟩)
        · simp at h
        · rcases h with ⟨h, _⟩ | ⟨h, h2, _⟩
          · exact ht h
          · have := (isT_iff lt).2 ⟨by have := H0.out; dsimp only at h; omega, h2⟩; rw [hT] at this; cases this
        · simp at h
        · simp at h)
      go_wp2_with fail
      go_ret
      exact ⟨false, rfl, false_iff' He.out, HB.out⟩
    | true =>
      go_wp2_with fail
      refine (may_any lr li ls _).mono ?_
      rintro e w2 ⟨rfl, hb2⟩
      have hx0 := (hb2.block _ (heap_lt Hx0.out)).trans Hx0.out
      have hx1 := (hb2.block _ (heap_lt Hx1.out)).trans Hx1.out
      have HB2 := Lib.hid (below2 HB.out hb2 HB.out.size)
      clear hb2 d0 d1 Hx0 Hx1 HB
      have d0 := cells_at hx0
      have d1 := cells_at hx1
      have Hx0 := Lib.hid hx0
      have Hx1 := Lib.hid hx1
      clear hx0 hx1
      cases hm : may ((lr, li), ls) with
      | false =>
        have He := Lib.hid (show ¬ MayLf ⟨2, ln, lt, ((lr, li), ls), lx, is, ts⟩ by
          rintro (⟨h, _⟩ | ⟨_, _, h, _⟩ | ⟨h, _⟩ | ⟨h, _⟩)
          · simp at h
          · rcases h with ⟨h, _⟩ | ⟨_, _, h, _⟩
            · exact ht h
            · rw [hm] at h; cases h
          · simp at h
          · simp at h)
        go_wp2_with fail
        go_ret
        exact ⟨false, rfl, false_iff' He.out, HB2.out⟩
      | true =>
        go_wp2_with fail
        refine (isText_any lx _).mono ?_
        rintro e w3 ⟨rfl, hb3⟩
        have hx0 := (hb3.block _ (heap_lt Hx0.out)).trans Hx0.out
        have hx1 := (hb3.block _ (heap_lt Hx1.out)).trans Hx1.out
        have HB3 := Lib.hid (below2 HB2.out hb3 HB2.out.size)
        clear hb3 d0 d1 Hx0 Hx1 HB2
        have d0 := cells_at hx0
        have d1 := cells_at hx1
        clear hx0 hx1
        by_cases hsz : lx.size ≤ 40
        · have Hsz := Lib.hid hsz
          have HT := Lib.hid hT
          have Hm := Lib.hid hm
          rw [show decide (lx.size ≤ 40) = true by simpa using hsz]
          clear hsz
          go_wp2_with fail
          refine (sameL_any ⟨2, ln, lt, ((lr, li), ls), lx, is, ts⟩ ⟨2, 0, lt, ((lr, li), ls), lx, [], []⟩ ia ta none none ic tc 0 0 _ (Hl.out.below HB3.out) (LfAt.none rfl rfl)).mono ?_
          rintro e w4 ⟨q, rfl, hq, hb⟩
          have HS := Lib.hid (below2 HB3.out hb HB3.out.size)
          have Hq := Lib.hid hq
          clear hq hb
          go_wp2_with fail
          go_ret
          refine ⟨q, rfl, Hq.out.trans ?_, HS.out⟩
          simp only [Lf.mk.injEq, MayLf]
          constructor
          · rintro ⟨_, rfl, _, _, _, rfl, rfl⟩
            exact .inr (.inl ⟨(by trivial), (by trivial), .inr ⟨ht, ((isT_iff lt).1 HT.out).2, Hm.out, Hsz.out⟩, (by trivial), (by trivial)⟩)
          · rintro (⟨h, _⟩ | ⟨_, rfl, _, rfl, rfl⟩ | ⟨h, _⟩ | ⟨h, _⟩)
            · simp at h
            · exact ⟨(by trivial), (by trivial), (by trivial), (by trivial), (by trivial), (by trivial), (by trivial)⟩
            · simp at h
            · simp at h
        · rw [show decide (lx.size ≤ 40) = false by simpa using hsz]
          have He := Lib.hid (show ¬ MayLf ⟨2, ln, lt, ((lr, li), ls), lx, is, ts⟩ by
            rintro (⟨h, _⟩ | ⟨_, _, h, _⟩ | ⟨h, _⟩ | ⟨h, _⟩)
            · simp at h
            · rcases h with ⟨h, _⟩ | ⟨_, _, _, h⟩
              · exact ht h
              · exact hsz h
            · simp at h
            · simp at h)
          clear hsz
          go_wp2_with fail
          go_ret
          exact ⟨false, rfl, false_iff' He.out, HB3.out⟩
theorem mayL5 (l : Lf) (ia ta : Option Addr) (ic tc : Nat) (w : World) (hk : l.k ≠ 1 ∧ l.k ≠ 2 ∧ l.k ≠ 3 ∧ l.k ≠ 4) :
    Calls Tryz.prog 219 #[lval l ia ic ta tc] w fun e w' => ∃ q : Bool, e = .returned (.bool q) ∧ (q = true ↔ MayLf l) ∧ Below w.heap.size w w' := by
  have He := Lib.hid (show ¬ MayLf l by intro h; rcases h.kind with h | h | h | h <;> simp [h] at hk)
  obtain ⟨lk, ln, lt, ⟨⟨lr, li⟩, ls⟩, lx, is, ts⟩ := l
  dsimp only at hk
  have k1 : (lk == 1) = false := by simpa using hk.1
  have k2 : (lk == 2) = false := by simpa using hk.2.1
  have k3 : (lk == 3) = false := by simpa using hk.2.2.1
  have k4 : (lk == 4) = false := by simpa using hk.2.2.2
  clear hk
  simp only [lval]
  go_enter Tryz.func219, Tryz.ntmps219
  go_wp2_with fail
  go_ret
  exact ⟨false, rfl, false_iff' He.out, ((Below.refl _ _).alloc (Nat.le_refl _) _).alloc (by simp) _⟩
/-- numbers as they lie in memory -/
def okL (l : Lf) : Prop := (0 ≤ l.k ∧ l.k ≤ 255) ∧ isU l.t ∧ okD l.d ∧ (∀ x ∈ l.items, isU x.t ∧ okD x.d) ∧ okV l.tombs
theorem okL.dots {l : Lf} (h : okL l) : okV (dotsOf l.items) := fun d hd => by
  obtain ⟨x, hx, rfl⟩ := mem_dotsOf.1 hd
  exact (h.2.2.2.1 x hx).2
theorem mayL_any (l : Lf) (ia ta : Option Addr) (ic tc : Nat) (w : World) (hl : LfAt w l ia ic ta tc) (hok : okL l) :
    Calls Tryz.prog 219 #[lval l ia ic ta tc] w fun e w' => ∃ q : Bool, e = .returned (.bool q) ∧ (q = true ↔ MayLf l) ∧ Below w.heap.size w w' := by
  by_cases h1 : l.k = 1
  · exact mayL1 l ia ta ic tc w hl h1
  by_cases h2 : l.k = 2
  · exact mayL2 l ia ta ic tc w hl hok.2.1.1 h2
  by_cases h3 : l.k = 3
  · exact mayL3 l ia ta ic tc w hl hok.dots h3
  by_cases h4 : l.k = 4
  · exact mayL4 l ia ta ic tc w hl hok.dots h4
  exact mayL5 l ia ta ic tc w ⟨h1, h2, h3, h4⟩
end Go.Proofs.YtaandcblndldmaaGreat
