/- Slices of items, of dots of one's own: appended to, cut. -/
import Derived.Test.YtmabjghjkgicgaaGreatLeafA
import Derived.Lib.SliceRun
namespace Go.Proofs.YtmabjghjkgicgaaGreat
open Go.RowKit
set_option linter.unusedVariables false
set_option linter.unusedSimpArgs false

theorem Tryz.info_item : (Tryz.prog.info? 63).map (fun i => (i.zero, i.size, i.bytes)) = some (some (.agg #[.int .u64 0, .int .u8 0, .int .u32 0, .int .u64 0, .string ⟨#[]⟩]), 5, 40) := by kernel_rfl
theorem Tryz.info_dot : (Tryz.prog.info? 44).map (fun i => (i.zero, i.size, i.bytes)) = some (some (.agg #[.int .u8 0, .int .u32 0, .int .u64 0]), 3, 16) := by kernel_rfl
theorem info_parts {o : Option TypeInfo} {z : Option Value} {s b : Nat} (h : o.map (fun i => (i.zero, i.size, i.bytes)) = some (z, s, b)) : ∃ i, o = some i ∧ i.zero = z ∧ i.size = s ∧ i.bytes = b := by
  cases o with
  | none => cases h
  | some i => simp at h; exact ⟨i, rfl, h⟩
/-- items in memory of one's own, above base -/
def OwnI (w : World) (base : Nat) (a : Option Addr) (c : Nat) (v : List It) : Prop := w.ownsRow base 63 5 (.slice a v.length c) v.length (icells v)
def OwnD (w : World) (base : Nat) (a : Option Addr) (c : Nat) (v : List Dt) : Prop := w.ownsRow base 44 3 (.slice a v.length c) v.length (dcells v)
theorem OwnI.its {w : World} {base : Nat} {a : Option Addr} {c : Nat} {v : List It} (h : OwnI w base a c v) : Its w a c v := Sl.of_owns h
theorem OwnD.vec {w : World} {base : Nat} {a : Option Addr} {c : Nat} {v : List Dt} (h : OwnD w base a c v) : Vec w a c v := Sl.of_owns h
theorem OwnI.nil (w : World) (base : Nat) : OwnI w base none 0 [] := World.ownsRow_nil _ _ _ _
theorem OwnD.nil (w : World) (base : Nat) : OwnD w base none 0 [] := World.ownsRow_nil _ _ _ _
theorem OwnI.made (w : World) {base : Nat} (h : base ≤ w.heap.size) : OwnI (w.alloc (.cells #[] 63)) base (some ⟨w.heap.size, 0, none⟩) 0 [] := World.ownsRow_made w #[] 0 h (by decide) rfl
theorem OwnD.made (w : World) {base : Nat} (h : base ≤ w.heap.size) : OwnD (w.alloc (.cells #[] 44)) base (some ⟨w.heap.size, 0, none⟩) 0 [] := World.ownsRow_made w #[] 0 h (by decide) rfl
theorem OwnI.base {w : World} {base base' : Nat} {a : Option Addr} {c : Nat} {v : List It} (h : OwnI w base a c v) (hb : base' ≤ base) : OwnI w base' a c v := owns_base h hb
theorem OwnD.base {w : World} {base base' : Nat} {a : Option Addr} {c : Nat} {v : List Dt} (h : OwnD w base a c v) (hb : base' ≤ base) : OwnD w base' a c v := owns_base h hb
theorem OwnI.below {w w' : World} {base : Nat} {a : Option Addr} {c : Nat} {v : List It} (h : OwnI w base a c v) (hb : Below w.heap.size w w') : OwnI w' base a c v := owns_chg (F := []) h (Chg.of_below hb) (by simp)
theorem OwnD.below {w w' : World} {base : Nat} {a : Option Addr} {c : Nat} {v : List Dt} (h : OwnD w base a c v) (hb : Below w.heap.size w w') : OwnD w' base a c v := owns_chg (F := []) h (Chg.of_below hb) (by simp)
theorem its_one {w : World} {b : Nat} {t : Int} {r i s : Int} {x : ByteArray} (h : w.heap[b]? = some (.cells #[.int .u64 t, .int .u8 r, .int .u32 i, .int .u64 s, .string x] 63 (0, 0))) : Its w (some ⟨b, 0, none⟩) 1 [⟨t, ((r, i), s), x⟩] :=
  Sl.blk (C := #[.int .u64 t, .int .u8 r, .int .u32 i, .int .u64 s, .string x]) h rfl (by simp [maxLen])
theorem vec_one {w : World} {b : Nat} {r i s : Int} (h : w.heap[b]? = some (.cells #[.int .u8 r, .int .u32 i, .int .u64 s] 44 (0, 0))) : Vec w (some ⟨b, 0, none⟩) 1 [((r, i), s)] :=
  Sl.blk (C := #[.int .u8 r, .int .u32 i, .int .u64 s]) h rfl (by simp [maxLen])

section
variable {w : World} {ops : Array Oper} {rest : List Oper} {o : Oper} {a : Act} {Q : Exit → Act → World → Prop}
theorem wpList_appI (hgd : o.guard = none) (s x : Operand) (ho : o.op = .call { callee := .builtin .append, args := #[s, x], argTypes := #[45, 45] })
    (base : Nat) (va : Option Addr) (vc : Nat) (v : List It) (hs : a.eval s = .slice va v.length vc) (hown : OwnI w base va vc v)
    (sa : Option Addr) (c : Nat) (u : List It) (hx : a.eval x = .slice sa u.length c) (hsl : Its w sa c u) (hn : v.length + u.length ≤ 3000000) (hbase : base ≤ w.heap.size)
    (h : ∀ v' a' c' w', v' = v ++ u → OwnI w' base a' c' v' → Below base w w' → Chg (ob va) w w' → wpList Tryz.prog ops Q rest (a.put o.dst (.slice a' v'.length c')) w') : wpList Tryz.prog ops Q (o :: rest) a w := by
  obtain ⟨i0, hi0, hz0, hz1, hz2⟩ := info_parts Tryz.info_item
  refine wpList_append_sl hgd s x 45 ho base 63 i0 (.agg #[.int .u64 0, .int .u8 0, .int .u32 0, .int .u64 0, .string ⟨#[]⟩]) 5 40 Tryz.underlying45 hi0 hz0 hz1 hz2 rfl (by decide) va v.length vc (icells v) hs hown sa u.length c (icells u) hx hsl (icells_one u) (by unfold maxLen; omega) (by omega) hbase fun a' c' w' h1 h2 h3 => ?_
  have := h (v ++ u) a' c' w' rfl (by unfold OwnI; rw [icells_append, List.length_append]; exact h1) (h2.below hbase fun k hk => (owns_lt hown k hk).1) h2
  rwa [List.length_append] at this
theorem wpList_appD (hgd : o.guard = none) (s x : Operand) (ho : o.op = .call { callee := .builtin .append, args := #[s, x], argTypes := #[46, 46] })
    (base : Nat) (va : Option Addr) (vc : Nat) (v : List Dt) (hs : a.eval s = .slice va v.length vc) (hown : OwnD w base va vc v)
    (sa : Option Addr) (c : Nat) (u : List Dt) (hx : a.eval x = .slice sa u.length c) (hsl : Vec w sa c u) (hn : v.length + u.length ≤ 3000000) (hbase : base ≤ w.heap.size)
    (h : ∀ v' a' c' w', v' = v ++ u → OwnD w' base a' c' v' → Below base w w' → Chg (ob va) w w' → wpList Tryz.prog ops Q rest (a.put o.dst (.slice a' v'.length c')) w') : wpList Tryz.prog ops Q (o :: rest) a w := by
  obtain ⟨i0, hi0, hz0, hz1, hz2⟩ := info_parts Tryz.info_dot
  refine wpList_append_sl hgd s x 46 ho base 44 i0 (.agg #[.int .u8 0, .int .u32 0, .int .u64 0]) 3 16 Tryz.underlying46 hi0 hz0 hz1 hz2 rfl (by decide) va v.length vc (dcells v) hs hown sa u.length c (dcells u) hx hsl (dcells_one u) (by unfold maxLen; omega) (by omega) hbase fun a' c' w' h1 h2 h3 => ?_
  have := h (v ++ u) a' c' w' rfl (by unfold OwnD; rw [dcells_append, List.length_append]; exact h1) (h2.below hbase fun k hk => (owns_lt hown k hk).1) h2
  rwa [List.length_append] at this
end

/-! parts of slices -/
theorem flatMap_drop {α : Type} {enc : α → List Value} {m : Nat} (hk : ∀ x, (enc x).length = m) : ∀ (l : List α) (j : Nat), (l.flatMap enc).drop (j * m) = (l.drop j).flatMap enc
  | l, 0 => by simp
  | [], j + 1 => by simp
  | x :: l, j + 1 => by
    rw [List.flatMap_cons, List.drop_succ_cons, ← flatMap_drop hk l j, show (j + 1) * m = (enc x).length + j * m by rw [hk, Nat.succ_mul]; omega, List.drop_append]
    simp
theorem flatMap_take {α : Type} {enc : α → List Value} {m : Nat} (hk : ∀ x, (enc x).length = m) : ∀ (l : List α) (j : Nat), (l.flatMap enc).take (j * m) = (l.take j).flatMap enc
  | l, 0 => by simp
  | [], j + 1 => by simp
  | x :: l, j + 1 => by
    rw [List.flatMap_cons, List.take_succ_cons, List.flatMap_cons, ← flatMap_take hk l j, show (j + 1) * m = (enc x).length + j * m by rw [hk, Nat.succ_mul]; omega, List.take_append, List.take_of_length_le (by omega)]
    simp
theorem Sl.dropK {α : Type} {enc : α → List Value} {m : Nat} (hk : ∀ x, (enc x).length = m) {w : World} {a : Option Addr} {c : Nat} {U : List α} (h : Sl w m a U.length c (U.flatMap enc)) {j : Nat} (hj : j ≤ U.length) : Sl w m (if c = j then a else a.map (·.add (j * m))) (U.drop j).length (c - j) ((U.drop j).flatMap enc) := by
  obtain ⟨h1, h2, h3, h4⟩ := h
  refine ⟨by rw [flatMap_len hk], by rw [List.length_drop]; omega, by omega, ?_⟩
  rcases h4 with ⟨rfl, h6, h7⟩ | ⟨b, rfl, hc⟩
  · exact .inl ⟨by split <;> rfl, by rw [List.length_drop]; omega, by omega⟩
  · by_cases e : c = j
    · rw [if_pos e]
      refine .inr ⟨b, rfl, fun i u hu => ?_⟩
      rw [List.drop_eq_nil_of_le (by omega)] at hu
      simp at hu
    · rw [if_neg e]
      refine .inr ⟨b.add (j * m), rfl, fun i u hu => ?_⟩
      rw [Go.Deep.add_add]
      refine hc _ _ ?_
      rw [← flatMap_drop hk, List.getElem?_drop] at hu
      exact hu
theorem Sl.takeK {α : Type} {enc : α → List Value} {m : Nat} (hk : ∀ x, (enc x).length = m) {w : World} {a : Option Addr} {c : Nat} {U : List α} (h : Sl w m a U.length c (U.flatMap enc)) {j : Nat} (hj : j ≤ U.length) : Sl w m a (U.take j).length c ((U.take j).flatMap enc) := by
  obtain ⟨h1, h2, h3, h4⟩ := h
  refine ⟨by rw [flatMap_len hk], by rw [List.length_take]; omega, h3, ?_⟩
  rcases h4 with ⟨h5, h6, h7⟩ | ⟨b, rfl, hc⟩
  · exact .inl ⟨h5, by rw [List.length_take]; omega, h7⟩
  · refine .inr ⟨b, rfl, fun i u hu => hc i u ?_⟩
    rw [← flatMap_take hk, List.getElem?_take] at hu
    split at hu
    · exact hu
    · cases hu
theorem dcell_len (d : Dt) : (dcell d).length = 3 := rfl
theorem Its.drop {w : World} {a : Option Addr} {c : Nat} {v : List It} (h : Its w a c v) {j : Nat} (hj : j ≤ v.length) : Its w (if c = j then a else a.map (·.add (j * 5))) (c - j) (v.drop j) := Sl.dropK icell_len h hj
theorem Vec.drop {w : World} {a : Option Addr} {c : Nat} {v : List Dt} (h : Vec w a c v) {j : Nat} (hj : j ≤ v.length) : Vec w (if c = j then a else a.map (·.add (j * 3))) (c - j) (v.drop j) := Sl.dropK dcell_len h hj
theorem Its.take {w : World} {a : Option Addr} {c : Nat} {v : List It} (h : Its w a c v) {j : Nat} (hj : j ≤ v.length) : Its w a c (v.take j) := Sl.takeK icell_len h hj
theorem Vec.take {w : World} {a : Option Addr} {c : Nat} {v : List Dt} (h : Vec w a c v) {j : Nat} (hj : j ≤ v.length) : Vec w a c (v.take j) := Sl.takeK dcell_len h hj
theorem slice_loI (oa : Option Addr) (n oc j : Nat) (hj : j ≤ n) (hn : n ≤ oc) (W : World) : (Instr.sliceAt 45 (.slice oa n oc) (some (.int .i64 (j : Int))) none none).run Tryz.prog W = .ok (.slice (if oc = j then oa else oa.map (·.add (j * 5))) (n - j) (oc - j)) W := by
  simp [go_sem, Instr.sliceAt, Instr.slice, run_underlying Tryz.underlying45]
  intro h; omega
theorem slice_loD (oa : Option Addr) (n oc j : Nat) (hj : j ≤ n) (hn : n ≤ oc) (W : World) : (Instr.sliceAt 46 (.slice oa n oc) (some (.int .i64 (j : Int))) none none).run Tryz.prog W = .ok (.slice (if oc = j then oa else oa.map (·.add (j * 3))) (n - j) (oc - j)) W := by
  simp [go_sem, Instr.sliceAt, Instr.slice, run_underlying Tryz.underlying46]
  intro h; omega
theorem Its.cap {w : World} {a : Option Addr} {c : Nat} {v : List It} (h : Its w a c v) : v.length ≤ c := h.2.1
theorem Vec.cap {w : World} {a : Option Addr} {c : Nat} {v : List Dt} (h : Vec w a c v) : v.length ≤ c := h.2.1
theorem while_eq {α : Type} {p : α → Bool} {l : List α} {k : Nat} (h1 : ∀ j x, j < k → l[j]? = some x → p x = true) (h2 : ∀ x, l[k]? = some x → p x = false) : l.takeWhile p = l.take k ∧ l.dropWhile p = l.drop k := by
  induction l generalizing k with
  | nil => simp
  | cons a l ih =>
    cases k with
    | zero => simp [h2 a rfl]
    | succ k =>
      have := ih (k := k) (fun j x hj hx => h1 (j + 1) x (by omega) (by simpa using hx)) (fun x hx => h2 x (by simpa using hx))
      simp [h1 0 a (by omega) rfl, this.1, this.2]
end Go.Proofs.YtmabjghjkgicgaaGreat
