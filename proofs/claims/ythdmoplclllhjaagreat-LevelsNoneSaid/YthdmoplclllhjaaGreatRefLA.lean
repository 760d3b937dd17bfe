/- Slices of items, of dots of one's own: appended to, cut. | The reference's Ahead, Item, Tomb, Left, Lay, Bury (varveref05): contracts. | The reference's May on leaves (varveref05): contract. -/
import Derived.Test.YthdmoplclllhjaaGreatLeafA
import Derived.Lib.SliceRun
/- ItsA -/
namespace Go.Proofs.YthdmoplclllhjaaGreat
open Go.RowKit
set_option linter.unusedVariables false
set_option linter.unusedSimpArgs false

theorem info_parts {o : Option TypeInfo} {z : Option Value} {s b : Nat} (h : o.map (fun i => (i.zero, i.size, i.bytes)) = some (z, s, b)) : ∃ i, o = some i ∧ i.zero = z ∧ i.size = s ∧ i.bytes = b := by
  cases o with
  | none => cases h
  | some i => simp at h; exact ⟨i, rfl, h⟩
/-- items in memory of one's own, above base -/
def OwnI (w : World) (base : Nat) (a : Option Addr) (c : Nat) (v : List It) : Prop := w.ownsRow base 197 5 (.slice a v.length c) v.length (icells v)
def OwnD (w : World) (base : Nat) (a : Option Addr) (c : Nat) (v : List Dt) : Prop := w.ownsRow base 41 3 (.slice a v.length c) v.length (dcells v)
theorem OwnI.its {w : World} {base : Nat} {a : Option Addr} {c : Nat} {v : List It} (h : OwnI w base a c v) : Its w a c v := Sl.of_owns h
theorem OwnD.vec {w : World} {base : Nat} {a : Option Addr} {c : Nat} {v : List Dt} (h : OwnD w base a c v) : Vec w a c v := Sl.of_owns h
theorem OwnI.nil (w : World) (base : Nat) : OwnI w base none 0 [] := World.ownsRow_nil _ _ _ _
theorem OwnD.nil (w : World) (base : Nat) : OwnD w base none 0 [] := World.ownsRow_nil _ _ _ _
theorem OwnI.made (w : World) {base : Nat} (h : base ≤ w.heap.size) : OwnI (w.alloc (.cells #[] 197)) base (some ⟨w.heap.size, 0, none⟩) 0 [] := World.ownsRow_made w #[] 0 h (by decide) rfl
theorem OwnD.made (w : World) {base : Nat} (h : base ≤ w.heap.size) : OwnD (w.alloc (.cells #[] 41)) base (some ⟨w.heap.size, 0, none⟩) 0 [] := World.ownsRow_made w #[] 0 h (by decide) rfl
theorem OwnI.base {w : World} {base base' : Nat} {a : Option Addr} {c : Nat} {v : List It} (h : OwnI w base a c v) (hb : base' ≤ base) : OwnI w base' a c v := owns_base h hb
theorem OwnD.base {w : World} {base base' : Nat} {a : Option Addr} {c : Nat} {v : List Dt} (h : OwnD w base a c v) (hb : base' ≤ base) : OwnD w base' a c v := owns_base h hb
theorem OwnI.below {w w' : World} {base : Nat} {a : Option Addr} {c : Nat} {v : List It} (h : OwnI w base a c v) (hb : Below w.heap.size w w') : OwnI w' base a c v := owns_chg (F := []) h (Chg.of_below hb) (by simp)
theorem OwnD.below {w w' : World} {base : Nat} {a : Option Addr} {c : Nat} {v : List Dt} (h : OwnD w base a c v) (hb : Below w.heap.size w w') : OwnD w' base a c v := owns_chg (F := []) h (Chg.of_below hb) (by simp)
section
variable {w : World} {ops : Array Oper} {rest : List Oper} {o : Oper} {a : Act} {Q : Exit → Act → World → Prop}
theorem wpList_appD (hgd : o.guard = none) (s x : Operand) (ho : o.op = .call { callee := .builtin .append, args := #[s, x], argTypes := #[23, 23] })
    (base : Nat) (va : Option Addr) (vc : Nat) (v : List Dt) (hs : a.eval s = .slice va v.length vc) (hown : OwnD w base va vc v)
    (sa : Option Addr) (c : Nat) (u : List Dt) (hx : a.eval x = .slice sa u.length c) (hsl : Vec w sa c u) (hn : v.length + u.length ≤ 3000000) (hbase : base ≤ w.heap.size)
    (h : ∀ v' a' c' w', v' = v ++ u → OwnD w' base a' c' v' → Below base w w' → Chg (ob va) w w' → wpList Tryz.prog ops Q rest (a.put o.dst (.slice a' v'.length c')) w') : wpList Tryz.prog ops Q (o :: rest) a w := by
  obtain ⟨i0, hi0, hz0, hz1, hz2⟩ := info_parts Tryz.info_dot
  refine wpList_append_sl hgd s x 23 ho base 41 i0 (.agg #[.int .u8 0, .int .u32 0, .int .u64 0]) 3 16 Tryz.underlying23 hi0 hz0 hz1 hz2 rfl (by decide) va v.length vc (dcells v) hs hown sa u.length c (dcells u) hx hsl (dcells_one u) (by unfold maxLen; omega) (by omega) hbase fun a' c' w' h1 h2 h3 => ?_
  have := h (v ++ u) a' c' w' rfl (by unfold OwnD; rw [dcells_append, List.length_append]; exact h1) (h2.below hbase fun k hk => (owns_lt hown k hk).1) h2
  rwa [List.length_append] at this
end

/-! parts of slices -/
theorem flatMap_drop {α : Type} {enc : α → List Value} {m : Nat} (hk : ∀ x, (enc x).length = m) : ∀ (l : List α) (j : Nat), (l.flatMap enc).drop (j * m) = (l.drop j).flatMap enc
  | l, 0 => by simp
  | [], j + 1 => by simp
  | x :: l, j + 1 => by
    rw [List.flatMap_cons, List.drop_succ_cons, ← flatMap_drop hk l j, show (j + 1) * m = (enc x).length + j * m by rw [hk, Nat.succ_mul]; omega, List.drop_append]
    simp
theorem flatMap_take {α : Type} {enc : α → List Value} {m : Nat} (hk : ∀ x, (enc x).length = m) : ∀ (l : List α) (j : Nat), (l.flatMap enc).take (j * m) = (l.take j).flatMap enc
  | l, 0 => by simp
  | [], j + 1 => by simp
  | x :: l, j + 1 => by
    rw [List.flatMap_cons, List.take_succ_cons, List.flatMap_cons, ← flatMap_take hk l j, show (j + 1) * m = (enc x).length + j * m by rw [hk, Nat.succ_mul]; omega, List.take_append, List.take_of_length_le (by omega)]
    simp
theorem Sl.dropK {α : Type} {enc : α → List Value} {m : Nat} (hk : ∀ x, (enc x).length = m) {w : World} {a : Option Addr} {c : Nat} {U : List α} (h : Sl w m a U.length c (U.flatMap enc)) {j : Nat} (hj : j ≤ U.length) : Sl w m (if c = j then a else a.map (·.add (j * m))) (U.drop j).length (c - j) ((U.drop j).flatMap enc) := by
  obtain ⟨h1, h2, h3, h4⟩ := h
  refine ⟨by rw [flatMap_len hk], by rw [List.length_drop]; omega, by omega, ?_⟩
  rcases h4 with ⟨rfl, h6, h7⟩ | ⟨b, rfl, hc⟩
  · exact .inl ⟨by split <;> rfl, by rw [List.length_drop]; omega, by omega⟩
  · by_cases e : c = j
    · rw [if_pos e]
      refine .inr ⟨b, rfl, fun i u hu => ?_⟩
      rw [List.drop_eq_nil_of_le (by omega)] at hu
      simp at hu
    · rw [if_neg e]
      refine .inr ⟨b.add (j * m), rfl, fun i u hu => ?_⟩
      rw [Go.Deep.add_add]
      refine hc _ _ ?_
      rw [← flatMap_drop hk, List.getElem?_drop] at hu
      exact hu
theorem Sl.takeK {α : Type} {enc : α → List Value} {m : Nat} (hk : ∀ x, (enc x).length = m) {w : World} {a : Option Addr} {c : Nat} {U : List α} (h : Sl w m a U.length c (U.flatMap enc)) {j : Nat} (hj : j ≤ U.length) : Sl w m a (U.take j).length c ((U.take j).flatMap enc) := by
  obtain ⟨h1, h2, h3, h4⟩ := h
  refine ⟨by rw [flatMap_len hk], by rw [List.length_take]; omega, h3, ?_⟩
  rcases h4 with ⟨h5, h6, h7⟩ | ⟨b, rfl, hc⟩
  · exact .inl ⟨h5, by rw [List.length_take]; omega, h7⟩
  · refine .inr ⟨b, rfl, fun i u hu => hc i u ?_⟩
    rw [← flatMap_take hk, List.getElem?_take] at hu
    split at hu
    · exact hu
    · cases hu
theorem dcell_len (d : Dt) : (dcell d).length = 3 := rfl
theorem Its.drop {w : World} {a : Option Addr} {c : Nat} {v : List It} (h : Its w a c v) {j : Nat} (hj : j ≤ v.length) : Its w (if c = j then a else a.map (·.add (j * 5))) (c - j) (v.drop j) := Sl.dropK icell_len h hj
theorem Its.take {w : World} {a : Option Addr} {c : Nat} {v : List It} (h : Its w a c v) {j : Nat} (hj : j ≤ v.length) : Its w a c (v.take j) := Sl.takeK icell_len h hj
theorem slice_loI (oa : Option Addr) (n oc j : Nat) (hj : j ≤ n) (hn : n ≤ oc) (W : World) : (Instr.sliceAt 155 (.slice oa n oc) (some (.int .i64 (j : Int))) none none).run Tryz.prog W = .ok (.slice (if oc = j then oa else oa.map (·.add (j * 5))) (n - j) (oc - j)) W := by
  simp [go_sem, Instr.sliceAt, Instr.slice, run_underlying Tryz.underlying155]
  intro h; omega
theorem slice_loD (oa : Option Addr) (n oc j : Nat) (hj : j ≤ n) (hn : n ≤ oc) (W : World) : (Instr.sliceAt 23 (.slice oa n oc) (some (.int .i64 (j : Int))) none none).run Tryz.prog W = .ok (.slice (if oc = j then oa else oa.map (·.add (j * 3))) (n - j) (oc - j)) W := by
  simp [go_sem, Instr.sliceAt, Instr.slice, run_underlying Tryz.underlying23]
  intro h; omega
theorem Its.cap {w : World} {a : Option Addr} {c : Nat} {v : List It} (h : Its w a c v) : v.length ≤ c := h.2.1
theorem Vec.cap {w : World} {a : Option Addr} {c : Nat} {v : List Dt} (h : Vec w a c v) : v.length ≤ c := h.2.1
end Go.Proofs.YthdmoplclllhjaaGreat

/- RefLA -/
namespace Go.Proofs.YthdmoplclllhjaaGreat
open Go.RowKit
set_option linter.unusedVariables false
set_option linter.unusedSimpArgs false

end Go.Proofs.YthdmoplclllhjaaGreat

/- RefLB -/
namespace Go.Proofs.YthdmoplclllhjaaGreat
open Go.RowKit
set_option linter.unusedVariables false
set_option linter.unusedSimpArgs false

/-- two blocks that came first -/
def two (w : World) (A B : Array Value) (s t : TypeId) : World := (w.alloc (.cells A s)).alloc (.cells B t)
/-- what stays in a round: the leaf's block, below the item's block -/
structure RM (w : World) (A : Array Value) (B : Array Value) (W : World) : Prop where
  g : W.heap[w.heap.size]? = some (.cells A 157 (0, 0))
  bel : Below w.heap.size w W
  BEL : Below (two w A B 157 41).heap.size (two w A B 157 41) W
theorem RM.of {w W : World} {A B : Array Value} (h : Below (two w A B 157 41).heap.size (two w A B 157 41) W) : RM w A B W := ⟨(new2 h).1, (new2 h).2.2.2, h⟩
theorem RM.step {w W W' : World} {A B : Array Value} (h : RM w A B W) (hb : Below W.heap.size W W') : RM w A B W' := RM.of (below2 h.BEL hb h.BEL.size)
def AllT (ts : List Dt) : Prop := (∀ d ∈ ts, may d = true) ∧ ts.Pairwise ltD
theorem bad_t {ts : List Dt} {k : Nat} {d : Dt} (hd : ts[k]? = some d) (h : may d = false) : ¬ AllT ts := fun hm => by
  have := hm.1 d (List.mem_of_getElem? hd); rw [h] at this; cases this
theorem bad_tp {ts : List Dt} {k : Nat} {d o : Dt} (hd : ts[k]? = some d) (ho : ts[k + 1]? = some o) (h : lessD d o = false) : ¬ AllT ts := fun hm => by
  have := pairwise_next hm.2 hd ho
  unfold ltD at this
  rw [h] at this
  cases this

end Go.Proofs.YthdmoplclllhjaaGreat
