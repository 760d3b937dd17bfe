/- Slices of items, of dots of one's own: appended to, cut. | The reference's Ahead, Item, Tomb, Left, Lay, Bury (varveref05): contracts. | The reference's May on leaves (varveref05): contract. -/
import Derived.Test.YtbeblbgbngplhaaGreatLeafA
import Derived.Lib.SliceRun
/- ItsA -/
namespace Go.Proofs.YtbeblbgbngplhaaGreat
open Go.RowKit
set_option linter.unusedVariables false
set_option linter.unusedSimpArgs false

theorem Tryz.info_item : (Tryz.prog.info? 185).map (fun i => (i.zero, i.size, i.bytes)) = some (some (.agg #[.int .u64 0, .int .u8 0, .int .u32 0, .int .u64 0, .string ⟨#[]⟩]), 5, 40) := by kernel_rfl
theorem info_parts {o : Option TypeInfo} {z : Option Value} {s b : Nat} (h : o.map (fun i => (i.zero, i.size, i.bytes)) = some (z, s, b)) : ∃ i, o = some i ∧ i.zero = z ∧ i.size = s ∧ i.bytes = b := by
  cases o with
  | none => cases h
  | some i => simp at h; exact ⟨i, rfl, h⟩
/-- items in memory of one's own, above base -/
def OwnI (w : World) (base : Nat) (a : Option Addr) (c : Nat) (v : List It) : Prop := w.ownsRow base 185 5 (.slice a v.length c) v.length (icells v)
def OwnD (w : World) (base : Nat) (a : Option Addr) (c : Nat) (v : List Dt) : Prop := w.ownsRow base 52 3 (.slice a v.length c) v.length (dcells v)
theorem OwnI.its {w : World} {base : Nat} {a : Option Addr} {c : Nat} {v : List It} (h : OwnI w base a c v) : Its w a c v := Sl.of_owns h
theorem OwnD.vec {w : World} {base : Nat} {a : Option Addr} {c : Nat} {v : List Dt} (h : OwnD w base a c v) : Vec w a c v := Sl.of_owns h
theorem OwnI.nil (w : World) (base : Nat) : OwnI w base none 0 [] := World.ownsRow_nil _ _ _ _
theorem OwnD.nil (w : World) (base : Nat) : OwnD w base none 0 [] := World.ownsRow_nil _ _ _ _
theorem OwnI.made (w : World) {base : Nat} (h : base ≤ w.heap.size) : OwnI (w.alloc (.cells #[] 185)) base (some ⟨w.heap.size, 0, none⟩) 0 [] := World.ownsRow_made w #[] 0 h (by decide) rfl
theorem OwnD.made (w : World) {base : Nat} (h : base ≤ w.heap.size) : OwnD (w.alloc (.cells #[] 52)) base (some ⟨w.heap.size, 0, none⟩) 0 [] := World.ownsRow_made w #[] 0 h (by decide) rfl
theorem OwnD.base {w : World} {base base' : Nat} {a : Option Addr} {c : Nat} {v : List Dt} (h : OwnD w base a c v) (hb : base' ≤ base) : OwnD w base' a c v := owns_base h hb
theorem OwnI.below {w w' : World} {base : Nat} {a : Option Addr} {c : Nat} {v : List It} (h : OwnI w base a c v) (hb : Below w.heap.size w w') : OwnI w' base a c v := owns_chg (F := []) h (Chg.of_below hb) (by simp)
theorem OwnD.below {w w' : World} {base : Nat} {a : Option Addr} {c : Nat} {v : List Dt} (h : OwnD w base a c v) (hb : Below w.heap.size w w') : OwnD w' base a c v := owns_chg (F := []) h (Chg.of_below hb) (by simp)
section
variable {w : World} {ops : Array Oper} {rest : List Oper} {o : Oper} {a : Act} {Q : Exit → Act → World → Prop}
theorem wpList_appI (hgd : o.guard = none) (s x : Operand) (ho : o.op = .call { callee := .builtin .append, args := #[s, x], argTypes := #[181, 181] })
    (base : Nat) (va : Option Addr) (vc : Nat) (v : List It) (hs : a.eval s = .slice va v.length vc) (hown : OwnI w base va vc v)
    (sa : Option Addr) (c : Nat) (u : List It) (hx : a.eval x = .slice sa u.length c) (hsl : Its w sa c u) (hn : v.length + u.length ≤ 3000000) (hbase : base ≤ w.heap.size)
    (h : ∀ v' a' c' w', v' = v ++ u → OwnI w' base a' c' v' → Below base w w' → Chg (ob va) w w' → wpList Tryz.prog ops Q rest (a.put o.dst (.slice a' v'.length c')) w') : wpList Tryz.prog ops Q (o :: rest) a w := by
  obtain ⟨i0, hi0, hz0, hz1, hz2⟩ := info_parts Tryz.info_item
  refine wpList_append_sl hgd s x 181 ho base 185 i0 (.agg #[.int .u64 0, .int .u8 0, .int .u32 0, .int .u64 0, .string ⟨#[]⟩]) 5 40 Tryz.underlying181 hi0 hz0 hz1 hz2 rfl (by decide) va v.length vc (icells v) hs hown sa u.length c (icells u) hx hsl (icells_one u) (by unfold maxLen; omega) (by omega) hbase fun a' c' w' h1 h2 h3 => ?_
  have := h (v ++ u) a' c' w' rfl (by unfold OwnI; rw [icells_append, List.length_append]; exact h1) (h2.below hbase fun k hk => (owns_lt hown k hk).1) h2
  rwa [List.length_append] at this
theorem wpList_appD (hgd : o.guard = none) (s x : Operand) (ho : o.op = .call { callee := .builtin .append, args := #[s, x], argTypes := #[27, 27] })
    (base : Nat) (va : Option Addr) (vc : Nat) (v : List Dt) (hs : a.eval s = .slice va v.length vc) (hown : OwnD w base va vc v)
    (sa : Option Addr) (c : Nat) (u : List Dt) (hx : a.eval x = .slice sa u.length c) (hsl : Vec w sa c u) (hn : v.length + u.length ≤ 3000000) (hbase : base ≤ w.heap.size)
    (h : ∀ v' a' c' w', v' = v ++ u → OwnD w' base a' c' v' → Below base w w' → Chg (ob va) w w' → wpList Tryz.prog ops Q rest (a.put o.dst (.slice a' v'.length c')) w') : wpList Tryz.prog ops Q (o :: rest) a w := by
  obtain ⟨i0, hi0, hz0, hz1, hz2⟩ := info_parts Tryz.info_dot
  refine wpList_append_sl hgd s x 27 ho base 52 i0 (.agg #[.int .u8 0, .int .u32 0, .int .u64 0]) 3 16 Tryz.underlying27 hi0 hz0 hz1 hz2 rfl (by decide) va v.length vc (dcells v) hs hown sa u.length c (dcells u) hx hsl (dcells_one u) (by unfold maxLen; omega) (by omega) hbase fun a' c' w' h1 h2 h3 => ?_
  have := h (v ++ u) a' c' w' rfl (by unfold OwnD; rw [dcells_append, List.length_append]; exact h1) (h2.below hbase fun k hk => (owns_lt hown k hk).1) h2
  rwa [List.length_append] at this
end

/-! parts of slices -/
theorem slice_loI (oa : Option Addr) (n oc j : Nat) (hj : j ≤ n) (hn : n ≤ oc) (W : World) : (Instr.sliceAt 181 (.slice oa n oc) (some (.int .i64 (j : Int))) none none).run Tryz.prog W = .ok (.slice (if oc = j then oa else oa.map (·.add (j * 5))) (n - j) (oc - j)) W := by
  simp [go_sem, Instr.sliceAt, Instr.slice, run_underlying Tryz.underlying181]
  intro h; omega
theorem slice_loD (oa : Option Addr) (n oc j : Nat) (hj : j ≤ n) (hn : n ≤ oc) (W : World) : (Instr.sliceAt 27 (.slice oa n oc) (some (.int .i64 (j : Int))) none none).run Tryz.prog W = .ok (.slice (if oc = j then oa else oa.map (·.add (j * 3))) (n - j) (oc - j)) W := by
  simp [go_sem, Instr.sliceAt, Instr.slice, run_underlying Tryz.underlying27]
  intro h; omega
end Go.Proofs.YtbeblbgbngplhaaGreat

/- RefLA -/
namespace Go.Proofs.YtbeblbgbngplhaaGreat
open Go.RowKit
set_option linter.unusedVariables false
set_option linter.unusedSimpArgs false

end Go.Proofs.YtbeblbgbngplhaaGreat

/- RefLB -/
namespace Go.Proofs.YtbeblbgbngplhaaGreat
open Go.RowKit
set_option linter.unusedVariables false
set_option linter.unusedSimpArgs false

def AllT (ts : List Dt) : Prop := (∀ d ∈ ts, may d = true) ∧ ts.Pairwise ltD
theorem bad_t {ts : List Dt} {k : Nat} {d : Dt} (hd : ts[k]? = some d) (h : may d = false) : ¬ AllT ts := fun hm => by
  have := hm.1 d (List.mem_of_getElem? hd); rw [h] at this; cases this
theorem bad_tp {ts : List Dt} {k : Nat} {d o : Dt} (hd : ts[k]? = some d) (ho : ts[k + 1]? = some o) (h : lessD d o = false) : ¬ AllT ts := fun hm => by
  have := pairwise_next hm.2 hd ho
  unfold ltD at this
  rw [h] at this
  cases this

end Go.Proofs.YtbeblbgbngplhaaGreat
