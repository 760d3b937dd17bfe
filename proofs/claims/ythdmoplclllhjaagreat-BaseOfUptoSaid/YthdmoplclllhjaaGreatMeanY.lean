/- The reference's node, Leaf. | Nodes, leaves, rows of leaves in memory of one's own; what is behind a place of a slice. -/
import Derived.Test.YthdmoplclllhjaaGreatMeanW
import Derived.Test.YthdmoplclllhjaaGreatAqA
import Derived.Test.YthdmoplclllhjaaGreatBatC
/- MeanX -/
namespace Go.Proofs.YthdmoplclllhjaaGreat
open Go.RowKit
set_option linter.unusedVariables false
set_option linter.unusedSimpArgs false

theorem below_three {B : Nat} {w w1 : World} (h : Below B w w1) {b : Nat} (hb : B ≤ b) (x0 x1 x2 : Value) : Below B w (((w1.setCell ⟨b, 0, none⟩ x0).setCell ⟨b, 1, none⟩ x1).setCell ⟨b, 2, none⟩ x2) :=
  ((h.setCell hb _).setCell hb _).setCell hb _
def zcellsK (k : Int) : Array Value := #[.int .u8 k, .int .i64 0, .int .u64 0, .int .u8 0, .int .u32 0, .int .u64 0, .string ⟨#[]⟩, .slice none 0 0, .slice none 0 0]
structure LkE (w W : World) (b1 b2 : Nat) (k : Int) (n : Nd) : Prop where
  r0 : W.heap[w.heap.size]? = some (.cells zcells1 157 (0, 0))
  r1 : W.heap[b1]? = some (.cells (zcellsK k) 157 (0, 0))
  r2 : W.heap[b2]? = some (.cells #[.string n.name, .slice n.la n.ls.length n.lc, .slice n.ba n.kids.length n.bc] 154 (0, 0))
  l1 : w.heap.size < b1
  l2 : b1 < b2
  bel : Below w.heap.size w W
theorem LkE.step {w W W' : World} {b1 b2 : Nat} {k : Int} {n : Nd} (h : LkE w W b1 b2 k n) (hb : Below W.heap.size W W') : LkE w W' b1 b2 k n :=
  ⟨(hb.block _ (heap_lt h.r0)).trans h.r0, (hb.block _ (heap_lt h.r1)).trans h.r1, (hb.block _ (heap_lt h.r2)).trans h.r2, h.l1, h.l2, below2 h.bel hb h.bel.size⟩
theorem LkE.put {w W : World} {b1 b2 : Nat} {k : Int} {n : Nd} (h : LkE w W b1 b2 k n) (x : Nd) :
    LkE w (((W.setCell ⟨b2, 0, none⟩ (.string x.name)).setCell ⟨b2, 1, none⟩ (.slice x.la x.ls.length x.lc)).setCell ⟨b2, 2, none⟩ (.slice x.ba x.kids.length x.bc)) b1 b2 k x := by
  have hC : Chg [b2] W (((W.setCell ⟨b2, 0, none⟩ (.string x.name)).setCell ⟨b2, 1, none⟩ (.slice x.la x.ls.length x.lc)).setCell ⟨b2, 2, none⟩ (.slice x.ba x.kids.length x.bc)) :=
    (((Chg.setCell W ⟨b2, 0, none⟩ _).set _ _ (by simp)).set _ _ (by simp))
  have h0 := heap_set (heap_set (heap_set h.r2 0 (.string x.name)) 1 (.slice x.la x.ls.length x.lc)) 2 (.slice x.ba x.kids.length x.bc)
  simp only [List.setIfInBounds_toArray, List.set_cons_zero, List.set_cons_succ] at h0
  have := h.l1
  have := h.l2
  exact ⟨(hC.block _ (heap_lt h.r0) (by simp; omega)).trans h.r0, (hC.block _ (heap_lt h.r1) (by simp; omega)).trans h.r1, h0, h.l1, h.l2, below_three h.bel (by omega) _ _ _⟩
theorem lookP_cons (T : List Nd) (s : ByteArray) (p : List ByteArray) (k : Int) : lookP T (s :: p) k = (findN T s).bind fun x => match p with | [] => findL x.ls k | _ :: _ => lookP x.kids p k := rfl
def LookAt (T : List Nd) (P : List ByteArray) (k : Int) (q : Nat) (U : List Nd) (n : Nd) : Prop :=
  (P.drop q ≠ [] → lookP T P k = lookP U (P.drop q) k) ∧ (P.drop q = [] → lookP T P k = findL n.ls k)
theorem LookAt.none {T U : List Nd} {P : List ByteArray} {k : Int} {q : Nat} {n : Nd} {s : ByteArray} (h : LookAt T P k q U n) (hs : P[q]? = some s) (hn : findN U s = none) : lookP T P k = none := by
  have hd : P.drop q = s :: P.drop (q + 1) := by
    rw [← (List.getElem?_eq_some_iff.1 hs).2, List.getElem_cons_drop]
  rw [h.1 (by rw [hd]; simp), hd, lookP_cons, hn]; rfl
theorem LookAt.next {T U : List Nd} {P : List ByteArray} {k : Int} {q : Nat} {n x : Nd} {s : ByteArray} (h : LookAt T P k q U n) (hs : P[q]? = some s) (hn : findN U s = some x) : LookAt T P k (q + 1) x.kids x := by
  have hd : P.drop q = s :: P.drop (q + 1) := by
    rw [← (List.getElem?_eq_some_iff.1 hs).2, List.getElem_cons_drop]
  have h1 := h.1 (by rw [hd]; simp)
  rw [hd, lookP_cons, hn, Option.bind_some] at h1
  refine ⟨fun hne => ?_, fun he => ?_⟩
  · rw [h1]
    cases e : P.drop (q + 1) with
    | nil => exact absurd e hne
    | cons a b => rfl
  · rw [h1, he]
end Go.Proofs.YthdmoplclllhjaaGreat

/- MeanY -/
namespace Go.Proofs.YthdmoplclllhjaaGreat
open Go.RowKit
set_option linter.unusedVariables false
set_option linter.unusedSimpArgs false

theorem Tryz.info_nd : (Tryz.prog.info? 154).map (fun i => (i.zero, i.size, i.bytes)) = some (some (.agg #[.string ⟨#[]⟩, .slice none 0 0, .slice none 0 0]), 3, 64) := by kernel_rfl
theorem Tryz.info_lf : (Tryz.prog.info? 157).map (fun i => (i.zero, i.size, i.bytes)) = some (some (.agg #[.int .u8 0, .int .i64 0, .int .u64 0, .int .u8 0, .int .u32 0, .int .u64 0, .string ⟨#[]⟩, .slice none 0 0, .slice none 0 0]), 9, 104) := by kernel_rfl
theorem ndcells_one (T : List Nd) : ∀ u ∈ T.flatMap ndcell, u.oneCell' = true := by
  intro u hu
  simp only [List.mem_flatMap] at hu
  obtain ⟨x, _, hx⟩ := hu
  simp [ndcell] at hx
  rcases hx with rfl | rfl | rfl <;> rfl
theorem lvcell_one (v : Lv) : ∀ u ∈ lvcell v, u.oneCell' = true := by
  intro u hu
  simp [lvcell, lcells] at hu
  rcases hu with rfl | rfl | rfl | rfl | rfl | rfl | rfl | rfl | rfl <;> rfl
theorem lvcells_one (ls : List Lv) : ∀ u ∈ ls.flatMap lvcell, u.oneCell' = true := by
  intro u hu
  simp only [List.mem_flatMap] at hu
  obtain ⟨x, _, hx⟩ := hu
  exact lvcell_one x u hx
def OwnN (w : World) (base : Nat) (a : Option Addr) (c : Nat) (T : List Nd) : Prop := w.ownsRow base 154 3 (.slice a T.length c) T.length (T.flatMap ndcell)
def OwnF (w : World) (base : Nat) (a : Option Addr) (c : Nat) (ls : List Lv) : Prop := w.ownsRow base 157 9 (.slice a ls.length c) ls.length (ls.flatMap lvcell)
theorem OwnN.nil (w : World) (base : Nat) : OwnN w base none 0 [] := World.ownsRow_nil _ _ _ _
theorem OwnF.nil (w : World) (base : Nat) : OwnF w base none 0 [] := World.ownsRow_nil _ _ _ _
theorem OwnN.sl {w : World} {base : Nat} {a : Option Addr} {c : Nat} {T : List Nd} (h : OwnN w base a c T) : Sl w 3 a T.length c (T.flatMap ndcell) := Sl.of_owns h
theorem OwnF.sl {w : World} {base : Nat} {a : Option Addr} {c : Nat} {T : List Lv} (h : OwnF w base a c T) : Sl w 9 a T.length c (T.flatMap lvcell) := Sl.of_owns h
theorem OwnN.below {w w' : World} {base : Nat} {a : Option Addr} {c : Nat} {T : List Nd} (h : OwnN w base a c T) (hb : Below w.heap.size w w') : OwnN w' base a c T := owns_chg (F := []) h (Chg.of_below hb) (by simp)
theorem OwnF.below {w w' : World} {base : Nat} {a : Option Addr} {c : Nat} {T : List Lv} (h : OwnF w base a c T) (hb : Below w.heap.size w w') : OwnF w' base a c T := owns_chg (F := []) h (Chg.of_below hb) (by simp)
section
variable {w : World} {ops : Array Oper} {rest : List Oper} {o : Oper} {a : Act} {Q : Exit → Act → World → Prop}
theorem wpList_appN (hgd : o.guard = none) (s x : Operand) (ho : o.op = .call { callee := .builtin .append, args := #[s, x], argTypes := #[26, 26] })
    (base : Nat) (va : Option Addr) (vc : Nat) (v : List Nd) (hs : a.eval s = .slice va v.length vc) (hown : OwnN w base va vc v)
    (sa : Option Addr) (c : Nat) (u : List Nd) (hx : a.eval x = .slice sa u.length c) (hsl : Sl w 3 sa u.length c (u.flatMap ndcell)) (hn : v.length + u.length ≤ 3000000) (hbase : base ≤ w.heap.size)
    (h : ∀ v' a' c' w', v' = v ++ u → OwnN w' base a' c' v' → Below base w w' → Chg (ob va) w w' → (∀ k ∈ ob a', k ∈ ob va ∨ w.heap.size ≤ k) → wpList Tryz.prog ops Q rest (a.put o.dst (.slice a' (List.length v') c')) w') : wpList Tryz.prog ops Q (o :: rest) a w := by
  obtain ⟨i0, hi0, hz0, hz1, hz2⟩ := info_parts Tryz.info_nd
  refine wpList_append_sl hgd s x 26 ho base 154 i0 (.agg #[.string ⟨#[]⟩, .slice none 0 0, .slice none 0 0]) 3 64 Tryz.underlying26 hi0 hz0 hz1 hz2 rfl (by decide) va v.length vc (v.flatMap ndcell) hs hown sa u.length c (u.flatMap ndcell) hx hsl (ndcells_one u) (by unfold maxLen; omega) (by omega) hbase fun a' c' w' h1 h2 h3 => ?_
  have := h (v ++ u) a' c' w' rfl (by unfold OwnN; rw [List.flatMap_append, List.length_append]; exact h1) (h2.below hbase fun k hk => (owns_lt hown k hk).1) h2 h3
  rwa [List.length_append] at this
theorem wpList_appF (hgd : o.guard = none) (s x : Operand) (ho : o.op = .call { callee := .builtin .append, args := #[s, x], argTypes := #[152, 152] })
    (base : Nat) (va : Option Addr) (vc : Nat) (v : List Lv) (hs : a.eval s = .slice va v.length vc) (hown : OwnF w base va vc v)
    (sa : Option Addr) (c : Nat) (u : List Lv) (hx : a.eval x = .slice sa u.length c) (hsl : Sl w 9 sa u.length c (u.flatMap lvcell)) (hn : v.length + u.length ≤ 3000000) (hbase : base ≤ w.heap.size)
    (h : ∀ v' a' c' w', v' = v ++ u → OwnF w' base a' c' v' → Below base w w' → Chg (ob va) w w' → (∀ k ∈ ob a', k ∈ ob va ∨ w.heap.size ≤ k) → wpList Tryz.prog ops Q rest (a.put o.dst (.slice a' (List.length v') c')) w') : wpList Tryz.prog ops Q (o :: rest) a w := by
  obtain ⟨i0, hi0, hz0, hz1, hz2⟩ := info_parts Tryz.info_lf
  refine wpList_append_sl hgd s x 152 ho base 157 i0 (.agg #[.int .u8 0, .int .i64 0, .int .u64 0, .int .u8 0, .int .u32 0, .int .u64 0, .string ⟨#[]⟩, .slice none 0 0, .slice none 0 0]) 9 104 Tryz.underlying152 hi0 hz0 hz1 hz2 rfl (by decide) va v.length vc (v.flatMap lvcell) hs hown sa u.length c (u.flatMap lvcell) hx hsl (lvcells_one u) (by unfold maxLen; omega) (by omega) hbase fun a' c' w' h1 h2 h3 => ?_
  have := h (v ++ u) a' c' w' rfl (by unfold OwnF; rw [List.flatMap_append, List.length_append]; exact h1) (h2.below hbase fun k hk => (owns_lt hown k hk).1) h2 h3
  rwa [List.length_append] at this
end
theorem slice_loN (oa : Option Addr) (n oc j : Nat) (hj : j ≤ n) (hn : n ≤ oc) (W : World) : (Instr.sliceAt 26 (.slice oa n oc) (some (.int .i64 (j : Int))) none none).run Tryz.prog W = .ok (.slice (if oc = j then oa else oa.map (·.add (j * 3))) (n - j) (oc - j)) W := by
  simp [go_sem, Instr.sliceAt, Instr.slice, run_underlying Tryz.underlying26]
  intro h; omega
theorem slice_loF (oa : Option Addr) (n oc j : Nat) (hj : j ≤ n) (hn : n ≤ oc) (W : World) : (Instr.sliceAt 152 (.slice oa n oc) (some (.int .i64 (j : Int))) none none).run Tryz.prog W = .ok (.slice (if oc = j then oa else oa.map (·.add (j * 9))) (n - j) (oc - j)) W := by
  simp [go_sem, Instr.sliceAt, Instr.slice, run_underlying Tryz.underlying152]
  intro h; omega
theorem slice_loS (oa : Option Addr) (n oc j : Nat) (hj : j ≤ n) (hn : n ≤ oc) (W : World) : (Instr.sliceAt 42 (.slice oa n oc) (some (.int .i64 (j : Int))) none none).run Tryz.prog W = .ok (.slice (if oc = j then oa else oa.map (·.add (j * 1))) (n - j) (oc - j)) W := by
  simp [go_sem, Instr.sliceAt, Instr.slice, run_underlying Tryz.underlying42]
  intro h; omega
theorem slice_hiS (oa : Option Addr) (n oc j : Nat) (hj : j ≤ oc) (W : World) : (Instr.sliceAt 42 (.slice oa n oc) none (some (.int .i64 (j : Int))) none).run Tryz.prog W = .ok (.slice oa j oc) W := by
  simp [go_sem, Instr.sliceAt, Instr.slice, run_underlying Tryz.underlying42]
  omega
end Go.Proofs.YthdmoplclllhjaaGreat
