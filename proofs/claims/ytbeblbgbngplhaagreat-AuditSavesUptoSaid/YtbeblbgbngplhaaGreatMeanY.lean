/- The reference's node, Leaf. | Nodes, leaves, rows of leaves in memory of one's own; what is behind a place of a slice. -/
import Derived.Test.YtbeblbgbngplhaaGreatMeanW
import Derived.Test.YtbeblbgbngplhaaGreatAqA
import Derived.Test.YtbeblbgbngplhaaGreatBatC
/- MeanX -/
namespace Go.Proofs.YtbeblbgbngplhaaGreat
open Go.RowKit
set_option linter.unusedVariables false
set_option linter.unusedSimpArgs false

end Go.Proofs.YtbeblbgbngplhaaGreat

/- MeanY -/
namespace Go.Proofs.YtbeblbgbngplhaaGreat
open Go.RowKit
set_option linter.unusedVariables false
set_option linter.unusedSimpArgs false

theorem Tryz.info_nd : (Tryz.prog.info? 180).map (fun i => (i.zero, i.size, i.bytes)) = some (some (.agg #[.string ⟨#[]⟩, .slice none 0 0, .slice none 0 0]), 3, 64) := by kernel_rfl
theorem Tryz.info_lf : (Tryz.prog.info? 183).map (fun i => (i.zero, i.size, i.bytes)) = some (some (.agg #[.int .u8 0, .int .i64 0, .int .u64 0, .int .u8 0, .int .u32 0, .int .u64 0, .string ⟨#[]⟩, .slice none 0 0, .slice none 0 0]), 9, 104) := by kernel_rfl
theorem ndcells_one (T : List Nd) : ∀ u ∈ T.flatMap ndcell, u.oneCell' = true := by
  intro u hu
  simp only [List.mem_flatMap] at hu
  obtain ⟨x, _, hx⟩ := hu
  simp [ndcell] at hx
  rcases hx with rfl | rfl | rfl <;> rfl
theorem lvcell_one (v : Lv) : ∀ u ∈ lvcell v, u.oneCell' = true := by
  intro u hu
  simp [lvcell, lcells] at hu
  rcases hu with rfl | rfl | rfl | rfl | rfl | rfl | rfl | rfl | rfl <;> rfl
theorem lvcells_one (ls : List Lv) : ∀ u ∈ ls.flatMap lvcell, u.oneCell' = true := by
  intro u hu
  simp only [List.mem_flatMap] at hu
  obtain ⟨x, _, hx⟩ := hu
  exact lvcell_one x u hx
def OwnN (w : World) (base : Nat) (a : Option Addr) (c : Nat) (T : List Nd) : Prop := w.ownsRow base 180 3 (.slice a T.length c) T.length (T.flatMap ndcell)
def OwnF (w : World) (base : Nat) (a : Option Addr) (c : Nat) (ls : List Lv) : Prop := w.ownsRow base 183 9 (.slice a ls.length c) ls.length (ls.flatMap lvcell)
theorem OwnN.nil (w : World) (base : Nat) : OwnN w base none 0 [] := World.ownsRow_nil _ _ _ _
theorem OwnF.nil (w : World) (base : Nat) : OwnF w base none 0 [] := World.ownsRow_nil _ _ _ _
theorem OwnN.sl {w : World} {base : Nat} {a : Option Addr} {c : Nat} {T : List Nd} (h : OwnN w base a c T) : Sl w 3 a T.length c (T.flatMap ndcell) := Sl.of_owns h
theorem OwnF.sl {w : World} {base : Nat} {a : Option Addr} {c : Nat} {T : List Lv} (h : OwnF w base a c T) : Sl w 9 a T.length c (T.flatMap lvcell) := Sl.of_owns h
theorem OwnN.below {w w' : World} {base : Nat} {a : Option Addr} {c : Nat} {T : List Nd} (h : OwnN w base a c T) (hb : Below w.heap.size w w') : OwnN w' base a c T := owns_chg (F := []) h (Chg.of_below hb) (by simp)
theorem OwnF.below {w w' : World} {base : Nat} {a : Option Addr} {c : Nat} {T : List Lv} (h : OwnF w base a c T) (hb : Below w.heap.size w w') : OwnF w' base a c T := owns_chg (F := []) h (Chg.of_below hb) (by simp)
section
variable {w : World} {ops : Array Oper} {rest : List Oper} {o : Oper} {a : Act} {Q : Exit → Act → World → Prop}
theorem wpList_appN (hgd : o.guard = none) (s x : Operand) (ho : o.op = .call { callee := .builtin .append, args := #[s, x], argTypes := #[30, 30] })
    (base : Nat) (va : Option Addr) (vc : Nat) (v : List Nd) (hs : a.eval s = .slice va v.length vc) (hown : OwnN w base va vc v)
    (sa : Option Addr) (c : Nat) (u : List Nd) (hx : a.eval x = .slice sa u.length c) (hsl : Sl w 3 sa u.length c (u.flatMap ndcell)) (hn : v.length + u.length ≤ 3000000) (hbase : base ≤ w.heap.size)
    (h : ∀ v' a' c' w', v' = v ++ u → OwnN w' base a' c' v' → Below base w w' → Chg (ob va) w w' → (∀ k ∈ ob a', k ∈ ob va ∨ w.heap.size ≤ k) → wpList Tryz.prog ops Q rest (a.put o.dst (.slice a' (List.length v') c')) w') : wpList Tryz.prog ops Q (o :: rest) a w := by
  obtain ⟨i0, hi0, hz0, hz1, hz2⟩ := info_parts Tryz.info_nd
  refine wpList_append_sl hgd s x 30 ho base 180 i0 (.agg #[.string ⟨#[]⟩, .slice none 0 0, .slice none 0 0]) 3 64 Tryz.underlying30 hi0 hz0 hz1 hz2 rfl (by decide) va v.length vc (v.flatMap ndcell) hs hown sa u.length c (u.flatMap ndcell) hx hsl (ndcells_one u) (by unfold maxLen; omega) (by omega) hbase fun a' c' w' h1 h2 h3 => ?_
  have := h (v ++ u) a' c' w' rfl (by unfold OwnN; rw [List.flatMap_append, List.length_append]; exact h1) (h2.below hbase fun k hk => (owns_lt hown k hk).1) h2 h3
  rwa [List.length_append] at this
theorem wpList_appF (hgd : o.guard = none) (s x : Operand) (ho : o.op = .call { callee := .builtin .append, args := #[s, x], argTypes := #[178, 178] })
    (base : Nat) (va : Option Addr) (vc : Nat) (v : List Lv) (hs : a.eval s = .slice va v.length vc) (hown : OwnF w base va vc v)
    (sa : Option Addr) (c : Nat) (u : List Lv) (hx : a.eval x = .slice sa u.length c) (hsl : Sl w 9 sa u.length c (u.flatMap lvcell)) (hn : v.length + u.length ≤ 3000000) (hbase : base ≤ w.heap.size)
    (h : ∀ v' a' c' w', v' = v ++ u → OwnF w' base a' c' v' → Below base w w' → Chg (ob va) w w' → (∀ k ∈ ob a', k ∈ ob va ∨ w.heap.size ≤ k) → wpList Tryz.prog ops Q rest (a.put o.dst (.slice a' (List.length v') c')) w') : wpList Tryz.prog ops Q (o :: rest) a w := by
  obtain ⟨i0, hi0, hz0, hz1, hz2⟩ := info_parts Tryz.info_lf
  refine wpList_append_sl hgd s x 178 ho base 183 i0 (.agg #[.int .u8 0, .int .i64 0, .int .u64 0, .int .u8 0, .int .u32 0, .int .u64 0, .string ⟨#[]⟩, .slice none 0 0, .slice none 0 0]) 9 104 Tryz.underlying178 hi0 hz0 hz1 hz2 rfl (by decide) va v.length vc (v.flatMap lvcell) hs hown sa u.length c (u.flatMap lvcell) hx hsl (lvcells_one u) (by unfold maxLen; omega) (by omega) hbase fun a' c' w' h1 h2 h3 => ?_
  have := h (v ++ u) a' c' w' rfl (by unfold OwnF; rw [List.flatMap_append, List.length_append]; exact h1) (h2.below hbase fun k hk => (owns_lt hown k hk).1) h2 h3
  rwa [List.length_append] at this
end
theorem slice_loN (oa : Option Addr) (n oc j : Nat) (hj : j ≤ n) (hn : n ≤ oc) (W : World) : (Instr.sliceAt 30 (.slice oa n oc) (some (.int .i64 (j : Int))) none none).run Tryz.prog W = .ok (.slice (if oc = j then oa else oa.map (·.add (j * 3))) (n - j) (oc - j)) W := by
  simp [go_sem, Instr.sliceAt, Instr.slice, run_underlying Tryz.underlying30]
  intro h; omega
theorem slice_loF (oa : Option Addr) (n oc j : Nat) (hj : j ≤ n) (hn : n ≤ oc) (W : World) : (Instr.sliceAt 178 (.slice oa n oc) (some (.int .i64 (j : Int))) none none).run Tryz.prog W = .ok (.slice (if oc = j then oa else oa.map (·.add (j * 9))) (n - j) (oc - j)) W := by
  simp [go_sem, Instr.sliceAt, Instr.slice, run_underlying Tryz.underlying178]
  intro h; omega
theorem slice_loS (oa : Option Addr) (n oc j : Nat) (hj : j ≤ n) (hn : n ≤ oc) (W : World) : (Instr.sliceAt 53 (.slice oa n oc) (some (.int .i64 (j : Int))) none none).run Tryz.prog W = .ok (.slice (if oc = j then oa else oa.map (·.add (j * 1))) (n - j) (oc - j)) W := by
  simp [go_sem, Instr.sliceAt, Instr.slice, run_underlying Tryz.underlying53]
  intro h; omega
theorem slice_hiS (oa : Option Addr) (n oc j : Nat) (hj : j ≤ oc) (W : World) : (Instr.sliceAt 53 (.slice oa n oc) none (some (.int .i64 (j : Int))) none).run Tryz.prog W = .ok (.slice oa j oc) W := by
  simp [go_sem, Instr.sliceAt, Instr.slice, run_underlying Tryz.underlying53]
  omega
end Go.Proofs.YtbeblbgbngplhaaGreat
