/- Items in memory; which of two is ahead; texts and times that may be; slices held against each other: contracts. | Slices of dots, of items held against each other; leaves held against each other: contracts. | leaf.twice, has: contracts. | leaf.items, leaf.tombs: contracts. | leaf.tombs: contract. | leaf.May: contract. -/
import Derived.Test.YthdmoplclllhjaaGreatSeen
import Derived.Test.YthdmoplclllhjaaGreatSortK
/- LeafA -/
namespace Go.Proofs.YthdmoplclllhjaaGreat
open Go.RowKit
set_option linter.unusedVariables false
set_option linter.unusedSimpArgs false

/-- the cells of items -/
def icell (x : It) : List Value := [.int .u64 x.t, .int .u8 x.d.1.1, .int .u32 x.d.1.2, .int .u64 x.d.2, .string x.x]
def icells (v : List It) : List Value := v.flatMap icell
theorem icell_len (x : It) : (icell x).length = 5 := rfl
/-- a slice that reads as the items v -/
def Its (w : World) (a : Option Addr) (c : Nat) (v : List It) : Prop := Sl w 5 a v.length c (icells v)
theorem Its.below {w w' : World} {a : Option Addr} {c : Nat} {v : List It} (h : Its w a c v) (hb : Below w.heap.size w w') : Its w' a c v := Sl.below h hb
structure ItAt (w : World) (b : Addr) (x : It) : Prop where
  c0 : w.cell? b = some (.int .u64 x.t)
  c1 : w.cell? ⟨b.block, b.off + 1, none⟩ = some (.int .u8 x.d.1.1)
  c2 : w.cell? ⟨b.block, b.off + 2, none⟩ = some (.int .u32 x.d.1.2)
  c3 : w.cell? ⟨b.block, b.off + 3, none⟩ = some (.int .u64 x.d.2)
  c4 : w.cell? ⟨b.block, b.off + 4, none⟩ = some (.string x.x)
theorem Its.at {w : World} {a : Option Addr} {c : Nat} {v : List It} (h : Its w a c v) {k : Nat} {x : It} (hx : v[k]? = some x) :
    ∃ ad, a = some ad ∧ ItAt w (ad.add (k * 5)) x ∧ ad.block < w.heap.size := by
  have hk : k < v.length := (List.getElem?_eq_some_iff.1 hx).1
  obtain ⟨_, _, _, ⟨_, h0, _⟩ | ⟨ad, rfl, hc⟩⟩ := h
  · omega
  · have hj := fun j hj => flatMap_at icell_len v k j x hx hj
    have g0 := hc (k * 5) _ (hj 0 (by omega))
    have g1 := hc (k * 5 + 1) _ (hj 1 (by omega))
    have g2 := hc (k * 5 + 2) _ (hj 2 (by omega))
    have g3 := hc (k * 5 + 3) _ (hj 3 (by omega))
    have g4 := hc (k * 5 + 4) _ (hj 4 (by omega))
    rw [← Go.Deep.add_add] at g1 g2 g3 g4
    refine ⟨ad, rfl, ⟨g0, g1, g2, g3, g4⟩, ?_⟩
    have := World.block_lt_of_cell? w _ g0
    have hb : (ad.add (k * 5)).block = ad.block := by unfold Addr.add; split <;> rfl
    rwa [hb] at this

/-! dots, items held against each other -/
def eqD (a b : Dt) : Bool := decide (a = b)
theorem eqD_iff (a b : Dt) : eqD a b = true ↔ a = b := by simp [eqD]
def eqI (a b : It) : Bool := decide (a.t = b.t) && (decide (a.d = b.d) && decide (a.x = b.x))
theorem beq_bytes (a b : ByteArray) : (a.toList == b.toList) = decide (a = b) := by
  rw [← beq_toListBytes, Bool.eq_iff_iff, MapKept.bytes_beq, decide_eq_true_iff]
@[go_sem high] theorem guardD (op : BinOp) (X Y : Operand) (xs ys : Array Value) (w : World) : (eqGuard op 41 X Y (.agg xs) (.agg ys)).run Tryz.prog w = .ok () w := run_eqGuard_agg w op 41 X Y xs ys (by kernel_rfl)
@[go_sem high] theorem guardI (op : BinOp) (X Y : Operand) (xs ys : Array Value) (w : World) : (eqGuard op 197 X Y (.agg xs) (.agg ys)).run Tryz.prog w = .ok () w := run_eqGuard_agg w op 197 X Y xs ys (by kernel_rfl)
section
variable {P : Program}
theorem part_one (w : World) {t : TypeId} {xs : Array Value} {off : Nat} {v : Value} (ha : (isAgg t).run P w = .ok false w) (hx : xs[off]? = some v) : (part t xs off).run P w = .ok v w := by
  simp [part, ha, hx]
theorem part_agg (w : World) {t : TypeId} {n : Nat} {xs : Array Value} {off : Nat} (ha : (isAgg t).run P w = .ok true w) (hz : (sizeOf t).run P w = .ok n w) : (part t xs off).run P w = .ok (.agg (xs.extract off (off + n))) w := by
  simp [part, ha, hz]
theorem eq_two (w : World) {d : Nat} {k : TypeId} {f0 f1 : Field} {xs ys : Array Value} {v0 u0 v1 u1 : Value} {b0 b1 : Bool} (hu : P.underlying k = some (.struct #[f0, f1])) (hp : P.stoodInHeld k = false) (n0 : f0.name ≠ "_") (n1 : f1.name ≠ "_")
    (x0 : (part f0.type xs f0.offset).run P w = .ok v0 w) (y0 : (part f0.type ys f0.offset).run P w = .ok u0 w) (e0 : (Op.equalIn d f0.type v0 u0).run P w = .ok b0 w)
    (x1 : (part f1.type xs f1.offset).run P w = .ok v1 w) (y1 : (part f1.type ys f1.offset).run P w = .ok u1 w) (e1 : (Op.equalIn d f1.type v1 u1).run P w = .ok b1 w) :
    (Op.equalIn (d + 1) k (.agg xs) (.agg ys)).run P w = .ok (b0 && b1) w := by
  have hf : P.fieldsOf k = #[f0, f1] := by simp [Program.fieldsOf, hu]
  rw [run_equalIn_agg w d k _ _ (by rw [hf, hu]) hp, hf]
  cases b0 <;> cases b1 <;> simp [Op.eqFields, n0, n1, x0, y0, e0, x1, y1, e1]
theorem eq_three (w : World) {d : Nat} {k : TypeId} {f0 f1 f2 : Field} {xs ys : Array Value} {v0 u0 v1 u1 v2 u2 : Value} {b0 b1 b2 : Bool} (hu : P.underlying k = some (.struct #[f0, f1, f2])) (hp : P.stoodInHeld k = false) (n0 : f0.name ≠ "_") (n1 : f1.name ≠ "_") (n2 : f2.name ≠ "_")
    (x0 : (part f0.type xs f0.offset).run P w = .ok v0 w) (y0 : (part f0.type ys f0.offset).run P w = .ok u0 w) (e0 : (Op.equalIn d f0.type v0 u0).run P w = .ok b0 w)
    (x1 : (part f1.type xs f1.offset).run P w = .ok v1 w) (y1 : (part f1.type ys f1.offset).run P w = .ok u1 w) (e1 : (Op.equalIn d f1.type v1 u1).run P w = .ok b1 w)
    (x2 : (part f2.type xs f2.offset).run P w = .ok v2 w) (y2 : (part f2.type ys f2.offset).run P w = .ok u2 w) (e2 : (Op.equalIn d f2.type v2 u2).run P w = .ok b2 w) :
    (Op.equalIn (d + 1) k (.agg xs) (.agg ys)).run P w = .ok (b0 && (b1 && b2)) w := by
  have hf : P.fieldsOf k = #[f0, f1, f2] := by simp [Program.fieldsOf, hu]
  rw [run_equalIn_agg w d k _ _ (by rw [hf, hu]) hp, hf]
  cases b0 <;> cases b1 <;> cases b2 <;> simp [Op.eqFields, n0, n1, n2, x0, y0, e0, x1, y1, e1, x2, y2, e2]
end
theorem eqA_at (d : Nat) (r i r' i' : Int) (w : World) : (Op.equalIn (d + 2) 39 (.agg #[.int .u8 r, .int .u32 i]) (.agg #[.int .u8 r', .int .u32 i'])).run Tryz.prog w = .ok ((r == r') && (i == i')) w :=
  eq_two w Tryz.underlying39 (by kernel_rfl) (by decide) (by decide) (part_one w (Tryz.isAgg5 w) rfl) (part_one w (Tryz.isAgg5 w) rfl) (run_equalIn_int w d _ _ _ _ _ Tryz.underlying5)
    (part_one w (Tryz.isAgg37 w) rfl) (part_one w (Tryz.isAgg37 w) rfl) (run_equalIn_int w d _ _ _ _ _ Tryz.underlying37)
theorem eqD_at (d : Nat) (r i s r' i' s' : Int) (w : World) : (Op.equalIn (d + 3) 41 (.agg #[.int .u8 r, .int .u32 i, .int .u64 s]) (.agg #[.int .u8 r', .int .u32 i', .int .u64 s'])).run Tryz.prog w = .ok (eqD ((r, i), s) ((r', i'), s')) w := by
  have h := eq_two w (d := d + 2) (b1 := s == s') (xs := #[.int .u8 r, .int .u32 i, .int .u64 s]) (ys := #[.int .u8 r', .int .u32 i', .int .u64 s']) Tryz.underlying41 (by kernel_rfl) (by decide) (by decide) (part_agg w (Tryz.isAgg39 w) (Tryz.sizeOf39 w)) (part_agg w (Tryz.isAgg39 w) (Tryz.sizeOf39 w)) (eqA_at d r i r' i' w)
    (part_one w (Tryz.isAgg22 w) rfl) (part_one w (Tryz.isAgg22 w) rfl) (run_equalIn_int w (d + 1) _ _ _ _ _ Tryz.underlying22)
  rw [h, show ((r == r') && (i == i') && (s == s')) = eqD ((r, i), s) ((r', i'), s') from by rw [Bool.eq_iff_iff, eqD_iff]; simp [and_assoc]]
theorem eqI_at (d : Nat) (t r i s t' r' i' s' : Int) (x x' : ByteArray) (w : World) : (Op.equalIn (d + 4) 197 (.agg #[.int .u64 t, .int .u8 r, .int .u32 i, .int .u64 s, .string x]) (.agg #[.int .u64 t', .int .u8 r', .int .u32 i', .int .u64 s', .string x'])).run Tryz.prog w = .ok (eqI ⟨t, ((r, i), s), x⟩ ⟨t', ((r', i'), s'), x'⟩) w := by
  have h := eq_three w (d := d + 3) (xs := #[.int .u64 t, .int .u8 r, .int .u32 i, .int .u64 s, .string x]) (ys := #[.int .u64 t', .int .u8 r', .int .u32 i', .int .u64 s', .string x']) Tryz.underlying197 (by kernel_rfl) (by decide) (by decide) (by decide)
    (part_one w (Tryz.isAgg22 w) rfl) (part_one w (Tryz.isAgg22 w) rfl) (run_equalIn_int w (d + 2) _ _ _ _ _ Tryz.underlying22)
    (part_agg w (Tryz.isAgg41 w) (Tryz.sizeOf41 w)) (part_agg w (Tryz.isAgg41 w) (Tryz.sizeOf41 w)) (eqD_at d r i s r' i' s' w)
    (part_one w (Tryz.isAgg9 w) rfl) (part_one w (Tryz.isAgg9 w) rfl) (run_equalIn_string w (d + 2) _ _ _ Tryz.underlying9)
  rw [h, beq_bytes]
  exact congrArg (fun b => Result.ok b w) (show ((t == t') && (eqD ((r, i), s) ((r', i'), s') && decide (x = x'))) = eqI ⟨t, ((r, i), s), x⟩ ⟨t', ((r', i'), s'), x'⟩ from rfl)
@[go_sem high] theorem run_eqD (r i s r' i' s' : Int) (w : World) : (binOp .eql 41 (.agg #[.int .u8 r, .int .u32 i, .int .u64 s]) (.agg #[.int .u8 r', .int .u32 i', .int .u64 s'])).run Tryz.prog w = .ok (.bool (eqD ((r, i), s) ((r', i'), s'))) w := by
  rw [run_eql_struct, show (10000 : Nat) = 9997 + 3 from rfl, eqD_at]
  rfl
@[go_sem high] theorem run_neD (r i s r' i' s' : Int) (w : World) : (binOp .neq 41 (.agg #[.int .u8 r, .int .u32 i, .int .u64 s]) (.agg #[.int .u8 r', .int .u32 i', .int .u64 s'])).run Tryz.prog w = .ok (.bool (!eqD ((r, i), s) ((r', i'), s'))) w := by
  rw [run_neq_struct, show (10000 : Nat) = 9997 + 3 from rfl, eqD_at]
  rfl
@[go_sem high] theorem run_eqI (t r i s t' r' i' s' : Int) (x x' : ByteArray) (w : World) : (binOp .eql 197 (.agg #[.int .u64 t, .int .u8 r, .int .u32 i, .int .u64 s, .string x]) (.agg #[.int .u64 t', .int .u8 r', .int .u32 i', .int .u64 s', .string x'])).run Tryz.prog w = .ok (.bool (eqI ⟨t, ((r, i), s), x⟩ ⟨t', ((r', i'), s'), x'⟩)) w := by
  rw [run_eql_struct, show (10000 : Nat) = 9996 + 4 from rfl, eqI_at]
  rfl
@[go_sem high] theorem run_neI (t r i s t' r' i' s' : Int) (x x' : ByteArray) (w : World) : (binOp .neq 197 (.agg #[.int .u64 t, .int .u8 r, .int .u32 i, .int .u64 s, .string x]) (.agg #[.int .u64 t', .int .u8 r', .int .u32 i', .int .u64 s', .string x'])).run Tryz.prog w = .ok (.bool (!eqI ⟨t, ((r, i), s), x⟩ ⟨t', ((r', i'), s'), x'⟩)) w := by
  rw [run_neq_struct, show (10000 : Nat) = 9996 + 4 from rfl, eqI_at]
  rfl

/-! which is ahead -/
end Go.Proofs.YthdmoplclllhjaaGreat

/- LeafB -/
namespace Go.Proofs.YthdmoplclllhjaaGreat
open Go.RowKit
set_option linter.unusedVariables false
set_option linter.unusedSimpArgs false

structure LfAt (w : World) (l : Lf) (ia : Option Addr) (ic : Nat) (ta : Option Addr) (tc : Nat) : Prop where
  its : Its w ia ic l.items
  tms : Vec w ta tc l.tombs
  li : l.items.length ≤ 1000000
  lt : l.tombs.length ≤ 1000000
theorem LfAt.below {w w' : World} {l : Lf} {ia : Option Addr} {ic : Nat} {ta : Option Addr} {tc : Nat} (h : LfAt w l ia ic ta tc) (hb : Below w.heap.size w w') : LfAt w' l ia ic ta tc := ⟨h.its.below hb, h.tms.below hb, h.li, h.lt⟩
theorem Lf.ext' {a b : Lf} (h0 : a.k = b.k) (h1 : a.n = b.n) (h2 : a.t = b.t) (h3 : a.d = b.d) (h4 : a.x = b.x) (h5 : a.items = b.items) (h6 : a.tombs = b.tombs) : a = b := by
  obtain ⟨⟩ := a; obtain ⟨⟩ := b; simp_all
end Go.Proofs.YthdmoplclllhjaaGreat

/- LeafC -/
namespace Go.Proofs.YthdmoplclllhjaaGreat
open Go.RowKit
set_option linter.unusedVariables false
set_option linter.unusedSimpArgs false

end Go.Proofs.YthdmoplclllhjaaGreat

/- LeafD -/
namespace Go.Proofs.YthdmoplclllhjaaGreat
open Go.RowKit
set_option linter.unusedVariables false
set_option linter.unusedSimpArgs false

/-- the first k follow one another -/
def upTo {α : Type} (lt : α → α → Prop) (l : List α) (k : Nat) : Prop := ∀ i x y, i + 1 < k → l[i]? = some x → l[i + 1]? = some y → lt x y
theorem upTo.zero {α : Type} {lt : α → α → Prop} {l : List α} : upTo lt l 0 := fun i x y h => by omega
theorem upTo.one {α : Type} {lt : α → α → Prop} {l : List α} : upTo lt l 1 := fun i x y h => by omega
theorem upTo.succ {α : Type} {lt : α → α → Prop} {l : List α} {k : Nat} (h : upTo lt l (k + 1)) {x y : α} (hx : l[k]? = some x) (hy : l[k + 1]? = some y) (hlt : lt x y) : upTo lt l (k + 2) := fun i a b hi ha hb => by
  by_cases e : i = k
  · subst e; rw [hx] at ha; rw [hy] at hb; cases ha; cases hb; exact hlt
  · exact h i a b (by omega) ha hb
theorem upTo.all {α : Type} {lt : α → α → Prop} (ht : ∀ {a b c}, lt a b → lt b c → lt a c) {l : List α} {k : Nat} (h : upTo lt l k) (hk : l.length ≤ k) : l.Pairwise lt :=
  chain_pairwise (lt := lt) (fun h1 h2 => ht h1 h2) fun i x y hx hy => h i x y (by have := (List.getElem?_eq_some_iff.1 hy).1; omega) hx hy
theorem all_snoc {α : Type} {p : α → Prop} {l : List α} {k : Nat} {x : α} (hx : l[k]? = some x) (h : ∀ y ∈ l.take k, p y) (hp : p x) : ∀ y ∈ l.take (k + 1), p y := by
  intro y hy
  rw [take_snoc' hx, List.mem_append, List.mem_singleton] at hy
  rcases hy with hy | rfl
  · exact h y hy
  · exact hp
theorem below2 {w w1 w2 : World} {B : Nat} (h : Below B w w1) (k : Below w1.heap.size w1 w2) (hs : B ≤ w1.heap.size) : Below B w w2 := h.trans (k.mono hs)
end Go.Proofs.YthdmoplclllhjaaGreat

/- LeafE -/
namespace Go.Proofs.YthdmoplclllhjaaGreat
open Go.RowKit
set_option linter.unusedVariables false
set_option linter.unusedSimpArgs false

/-- the cells of a leaf whose items and tombs lie so -/
def lcells (l : Lf) (ia : Option Addr) (ic : Nat) (ta : Option Addr) (tc : Nat) : Array Value :=
  #[.int .u8 l.k, .int .i64 l.n, .int .u64 l.t, .int .u8 l.d.1.1, .int .u32 l.d.1.2, .int .u64 l.d.2, .string l.x, .slice ia l.items.length ic, .slice ta l.tombs.length tc]
theorem cmpDD_less (a b : Dt) : decide (0 ≤ cmpDD a b) = !lessD a b := by
  have := cmpD_neg a b
  rw [← cmpDD_eq] at this
  rw [Bool.eq_iff_iff, decide_eq_true_iff, Bool.not_eq_true', ← Bool.not_eq_true, ← this]
  omega
end Go.Proofs.YthdmoplclllhjaaGreat

/- LeafF -/
namespace Go.Proofs.YthdmoplclllhjaaGreat
open Go.RowKit
set_option linter.unusedVariables false
set_option linter.unusedSimpArgs false

theorem toList_nil {x : ByteArray} : x.toList = [] ↔ x.size = 0 := by
  rw [ByteArray.toList_eq, Array.toList_eq_nil_iff]
  exact ⟨fun h => by show x.data.size = 0; rw [h]; rfl, fun h => Array.eq_empty_of_size_eq_zero h⟩
theorem LfAt.none {w : World} {l : Lf} (h : l.items = []) (h2 : l.tombs = []) : LfAt w l none 0 none 0 := by
  refine ⟨?_, ?_, by simp [h], by simp [h2]⟩
  · unfold Its; rw [h]; exact Sl.nil w 5
  · unfold Vec; rw [h2]; exact Sl.nil w 3
/-- numbers as they lie in memory -/
def okL (l : Lf) : Prop := (0 ≤ l.k ∧ l.k ≤ 255) ∧ isU l.t ∧ okD l.d ∧ (∀ x ∈ l.items, isU x.t ∧ okD x.d) ∧ okV l.tombs
theorem okL.dots {l : Lf} (h : okL l) : okV (dotsOf l.items) := fun d hd => by
  obtain ⟨x, hx, rfl⟩ := mem_dotsOf.1 hd
  exact (h.2.2.2.1 x hx).2
end Go.Proofs.YthdmoplclllhjaaGreat
