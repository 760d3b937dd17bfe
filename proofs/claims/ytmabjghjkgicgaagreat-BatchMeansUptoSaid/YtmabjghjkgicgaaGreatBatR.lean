/- slices.Delete at operations. | (*queue).set. -/
import Derived.Test.YtmabjghjkgicgaaGreatBatP
import Derived.Test.YtmabjghjkgicgaaGreatFuseE
/- BatR -/
namespace Go.Proofs.YtmabjghjkgicgaaGreat
open Go.RowKit
set_option linter.unusedVariables false
set_option linter.unusedSimpArgs false

theorem setCells_row (b : Nat) (t : TypeId) : ∀ (vs : List Value) (o : Nat) (w : World) (cur : Array Value), w.heap[b]? = some (.cells cur t (0, 0)) → o + vs.length ≤ cur.size →
    ∃ cur', (w.setCells b o vs).heap[b]? = some (.cells cur' t (0, 0)) ∧ cur'.toList = cur.toList.take o ++ vs ++ cur.toList.drop (o + vs.length)
  | [], o, w, cur, h, _ => ⟨cur, h, by simp⟩
  | v :: vs, o, w, cur, h, ho => by
    simp only [List.length_cons] at ho
    obtain ⟨cur', h1, h2⟩ := setCells_row b t vs (o + 1) (w.setCell ⟨b, o, none⟩ v) (cur.setIfInBounds o v) (heap_setCell_same w b o cur t v h) (by simp; omega)
    refine ⟨cur', h1, ?_⟩
    rw [h2, Array.toList_setIfInBounds]
    have hlt : o < cur.toList.length := by simp; omega
    apply List.ext_getElem?
    intro j
    simp only [List.getElem?_append, List.length_append, List.length_take, List.length_set, List.length_cons, List.getElem?_take, List.getElem?_drop, List.getElem?_set, List.getElem?_cons]
    simp only [Array.length_toList] at hlt ⊢
    by_cases h3 : j < o
    · simp [h3, show j < min (o + 1) cur.size by omega, show j < min o cur.size by omega, show j < min (o + 1) cur.size + vs.length by omega, show j < min o cur.size + (vs.length + 1) by omega, show j < o + 1 by omega, show o ≠ j by omega]
    · by_cases h4 : j = o
      · subst h4
        simp [show j < min (j + 1) cur.size by omega, show ¬ j < min j cur.size by omega, show j < min (j + 1) cur.size + vs.length by omega, show j < min j cur.size + (vs.length + 1) by omega, show j - min j cur.size = 0 by omega, show j < cur.size by omega]
      · by_cases h5 : j < o + 1 + vs.length
        · simp [show ¬ j < min (o + 1) cur.size by omega, show ¬ j < min o cur.size by omega, show j < min (o + 1) cur.size + vs.length by omega, show j < min o cur.size + (vs.length + 1) by omega, show j - min o cur.size ≠ 0 by omega, show j - min o cur.size - 1 = j - min (o + 1) cur.size by omega]
        · simp [show ¬ j < min (o + 1) cur.size + vs.length by omega, show ¬ j < min o cur.size + (vs.length + 1) by omega, show ¬ (o = o + 1 + vs.length + (j - (min (o + 1) cur.size + vs.length))) by omega]
          congr 1
          omega
/-- an append as its run says -/
theorem wpList_append_run {P : Program} {w w' : World} {ops : Array Oper} {rest : List Oper} {o : Oper} {a : Act} {Q : Exit → Act → World → Prop} (hgd : o.guard = none) (s x : Operand) (t : TypeId)
    (ho : o.op = .call { callee := .builtin .append, args := #[s, x], argTypes := #[t, t] }) (v : Value)
    (hrun : (Builtin.append_ #[t, t] o.type #[a.eval s, a.eval x]).run P w = .ok v w')
    (h : wpList P ops Q rest (a.put o.dst v) w') : wpList P ops Q (o :: rest) a w := by
  refine wpList_plain hgd fun K hK => ?_
  unfold Oper.wp
  simp [execOp, ho, resolve, invoke, builtin, hrun, Result.andThen]
  exact hK _ _ h
set_option maxRecDepth 100000 in
set_option maxHeartbeats 4000000 in
theorem deleteO_walk (g c i n : Nat) (w : World) (hn : n ≤ c) (hi : i < n) (hm : n ≤ 1000000) (hc : c ≤ 9223372036854775807)
    (W1 W2 : World) (ad : Addr)
    (had : ad = if c = i + 1 then ⟨g, 0, none⟩ else ⟨g, (i + 1) * 5, none⟩)
    (h1 : ∀ ty, (Builtin.append_ #[24, 24] ty #[.slice (some ⟨g, 0, none⟩) i c, .slice (some ad) (n - (i + 1)) (c - (i + 1))]).run Tryz.prog w.drew = .ok (.slice (some ⟨g, 0, none⟩) (n - 1) c) W1)
    (h2 : ∀ ty, (Builtin.clear_ #[24] ty #[.slice (some ⟨g, (n - 1) * 5, none⟩) 1 (c - (n - 1))]).run Tryz.prog W1 = .ok (.tuple #[]) W2) :
    Calls Tryz.prog 41 #[.slice (some ⟨g, 0, none⟩) n c, .int .i64 i, .int .i64 ((i : Int) + 1)] w fun e w' => e = .returned (.slice (some ⟨g, 0, none⟩) (n - 1) c) ∧ w' = W2 := by
  have hne : ((i : Int) == (i : Int) + 1) = false := by simp; omega
  have H1 := Lib.hid h1
  have H2 := Lib.hid h2
  have Had := Lib.hid had
  clear h1 h2 had
  go_enter Tryz.func41, Tryz.ntmps41
  go_wp2_with fail
  refine region_text [([0, 1, 2, 3, 4, 5, 6, 7], false)] mixed (by kernel_rfl) ?_
  simp only [wpSegs, List.map_cons, List.map_nil, List.getD_cons_succ, List.getD_cons_zero]
  by_cases hci : c = i + 1
  · obtain rfl : ad = ⟨g, 0, none⟩ := by have := Had.out; rw [if_pos hci] at this; exact this
    obtain rfl : n = i + 1 := by omega
    subst hci
    have H3 : Hid (∀ ty, (Builtin.append_ #[24, 24] ty #[.slice (some ⟨g, 0, none⟩) i (i + 1), .slice (some ⟨g, 0, none⟩) 0 0]).run Tryz.prog w.drew = .ok (.slice (some ⟨g, 0, none⟩) i (i + 1)) W1) := by
      have := H1.out; exact Lib.hid (by simpa using this)
    have H4 : Hid (∀ ty, (Builtin.clear_ #[24] ty #[.slice (some ⟨g, i * 5, none⟩) 1 1]).run Tryz.prog W1 = .ok (.tuple #[]) W2) := by
      have := H2.out; exact Lib.hid (by simpa using this)
    clear H1 H2
    go_wp2_with (at_builtin; go_must (refine wpList_append_run rfl _ _ 24 rfl _ (H3.out _) ?_))
    refine And.intro (by kernel_rfl) ?_
    have h4 := H4.out
    go_wp2_with fail
    go_ret
    exact ⟨rfl, rfl⟩
  · obtain rfl : ad = ⟨g, (i + 1) * 5, none⟩ := by have := Had.out; rw [if_neg hci] at this; exact this
    go_wp2_with (at_builtin; go_must (refine wpList_append_run rfl _ _ 24 rfl _ (H1.out _) ?_))
    refine And.intro (by kernel_rfl) ?_
    have H5 : Hid (∀ ty, (Builtin.clear_ #[24] ty #[.slice (some ⟨g, (n - 1) * 5, none⟩) (n - (n - 1)) (c - (n - 1))]).run Tryz.prog W1 = .ok (.tuple #[]) W2) := by
      have := H2.out; rw [show n - (n - 1) = 1 by omega]; exact Lib.hid this
    clear H2 H1
    have h5 := H5.out
    go_wp2_with fail
    go_ret
    exact ⟨rfl, rfl⟩

theorem opcells_length (V : List Ow) : (opcells V).length = V.length * 5 := by
  induction V with
  | nil => rfl
  | cons v V ih => simp only [opcells, List.flatMap_cons, List.length_append, List.length_cons] at ih ⊢; rw [ih, show (owcells v).toList.length = 5 from rfl]; omega
theorem opcells_take (M : List Ow) (i : Nat) : (opcells M).take (i * 5) = opcells (M.take i) := by
  induction M generalizing i with
  | nil => simp [opcells]
  | cons x M ih =>
    cases i with
    | zero => simp [opcells]
    | succ i =>
      have := ih i
      simp only [opcells, List.flatMap_cons, List.take_succ_cons] at this ⊢
      rw [show (i + 1) * 5 = 5 + i * 5 by omega, List.take_append, show (owcells x).toList.length = 5 from rfl, show 5 + i * 5 - 5 = i * 5 by omega, this, List.take_of_length_le (by simp [owcells, ocells])]
theorem opcells_drop (M : List Ow) (i : Nat) : (opcells M).drop (i * 5) = opcells (M.drop i) := by
  induction M generalizing i with
  | nil => simp [opcells]
  | cons x M ih =>
    cases i with
    | zero => simp [opcells]
    | succ i =>
      have := ih i
      simp only [opcells, List.flatMap_cons, List.drop_succ_cons] at this ⊢
      rw [show (i + 1) * 5 = 5 + i * 5 by omega, List.drop_append, show (owcells x).toList.length = 5 from rfl, show 5 + i * 5 - 5 = i * 5 by omega, this, List.drop_eq_nil_of_le (by simp [owcells, ocells])]
      rfl
set_option maxHeartbeats 4000000 in
theorem deleteO_any (base g c i : Nat) (M : List Ow) (w : World) (hr : w.ownsRow base 59 5 (.slice (some ⟨g, 0, none⟩) M.length c) M.length (opcells M)) (hi : i < M.length) (hm : M.length ≤ 1000000) :
    Calls Tryz.prog 41 #[.slice (some ⟨g, 0, none⟩) M.length c, .int .i64 i, .int .i64 ((i : Int) + 1)] w fun e w' =>
      e = .returned (.slice (some ⟨g, 0, none⟩) (M.length - 1) c) ∧ w'.ownsRow base 59 5 (.slice (some ⟨g, 0, none⟩) (M.length - 1) c) (M.length - 1) (opcells (M.eraseIdx i)) ∧ Chg [g] w w' := by
  obtain ⟨i0, hi0, hz0, hz1, hz2⟩ := info_parts Tryz.info_op
  rcases hr.2 with ⟨h, _⟩ | ⟨g', cap, cur, h, hb0, hg, hnc, hcm, hcs, htake⟩
  · simp at h
  · simp at h
    obtain ⟨rfl, rfl⟩ := h
    have hgd : w.drew.heap[g]? = some (.cells cur 59 (0, 0)) := hg
    have hclen : cur.toList.length = c * 5 := by simp [hcs]
    have hcell : ∀ k, k < c * 5 → (w.drew.cell? ⟨g, k, none⟩).isSome = true := fun k hk => by rw [cells_at hgd]; simp [hcs, hk]
    have hfz : ∀ k, w.drew.frozen? ⟨g, k, none⟩ = false := free_at hgd
    have hadd : ∀ o k, (⟨g, o, none⟩ : Addr).add k = ⟨g, o + k, none⟩ := fun o k => by unfold Addr.add; split <;> simp_all
    -- the append
    have hnews : ∀ j u, (opcells (M.drop (i + 1)))[j]? = some u → w.drew.cell? ((if c = i + 1 then (⟨g, 0, none⟩ : Addr) else ⟨g, (i + 1) * 5, none⟩).add j) = some u := by
      intro j u hu
      have hj : j < (opcells (M.drop (i + 1))).length := by
        rcases Nat.lt_or_ge j (opcells (M.drop (i + 1))).length with h | h
        · exact h
        · rw [List.getElem?_eq_none h] at hu; cases hu
      rw [opcells_length, List.length_drop] at hj
      rw [if_neg (by omega), hadd, cells_at hgd, ← Array.getElem?_toList]
      rw [← opcells_drop, ← htake, List.getElem?_drop, List.getElem?_take] at hu
      rw [if_pos (by omega)] at hu
      exact hu
    have happ := fun ty => run_append_room_cells (P := Tryz.prog) w.drew 24 ty 59 i0 Tryz.underlying24 hi0 g 0 i c (if c = i + 1 then ⟨g, 0, none⟩ else ⟨g, (i + 1) * 5, none⟩) (M.length - (i + 1)) (c - (i + 1)) (opcells (M.drop (i + 1)))
      (by rw [hz1, opcells_length, List.length_drop]) hnews (opcells_one _) (by omega) (fun j hj => hcell _ (by rw [hz1]; rw [opcells_length, List.length_drop] at hj; omega)) (fun j _ => hfz _)
    rw [hz1] at happ
    simp only [Nat.zero_add, show i + (M.length - (i + 1)) = M.length - 1 by omega] at happ
    obtain ⟨cur1, hb1, ht1⟩ := setCells_row g 59 (opcells (M.drop (i + 1))) (i * 5) w.drew cur hgd (by rw [opcells_length, List.length_drop, hcs]; omega)
    have hl1 : cur1.toList.length = c * 5 := by rw [ht1]; simp [opcells_length, hcs]; omega
    generalize hW1 : w.drew.setCells g (i * 5) (opcells (M.drop (i + 1))) = W1 at *
    -- the clear
    have hz : (Builtin.zeroCells (Value.agg #[.int .u8 0, .slice none 0 0, .int .i64 0, .string ⟨#[]⟩, .slice none 0 0]).cells 1).toList = [.int .u8 0, .slice none 0 0, .int .i64 0, .string ⟨#[]⟩, .slice none 0 0] := by simp [Builtin.zeroCells, Value.cells, Array.toList_range, List.range_succ]
    have hst := run_storeCells_cells (P := Tryz.prog) g ((M.length - 1) * 5) [.int .u8 0, .slice none 0 0, .int .i64 0, .string ⟨#[]⟩, .slice none 0 0] 0 W1 (fun j hj => by rw [cells_at hb1, ← Array.getElem?_toList]; simp at hj ⊢; rw [Array.length_toList] at hl1; omega) (fun j _ => free_at hb1 _) (by simp [Value.oneCell'])
    simp only [Nat.add_zero] at hst
    have hclr : ∀ ty, (Builtin.clear_ #[24] ty #[.slice (some ⟨g, (M.length - 1) * 5, none⟩) 1 (c - (M.length - 1))]).run Tryz.prog W1 = .ok (.tuple #[]) (W1.setCells g ((M.length - 1) * 5) [.int .u8 0, .slice none 0 0, .int .i64 0, .string ⟨#[]⟩, .slice none 0 0]) := by
      intro ty
      simp only [Value.cells] at hz
      simp [Builtin.clear_, run_underlying Tryz.underlying24, Tryz.zeroValue59, Value.cells, hz, hst]
    refine (deleteO_walk g c i M.length w hnc hi hm (by unfold maxLen at hcm; omega) W1 _ _ rfl happ hclr).mono ?_
    rintro e w' ⟨rfl, rfl⟩
    obtain ⟨cur2, hb2, ht2⟩ := setCells_row g 59 [.int .u8 0, .slice none 0 0, .int .i64 0, .string ⟨#[]⟩, .slice none 0 0] ((M.length - 1) * 5) W1 cur1 hb1 (by rw [Array.length_toList] at hl1; simp [hl1]; omega)
    refine ⟨rfl, ⟨by rw [opcells_length, List.length_eraseIdx_of_lt hi], .inr ⟨g, c, cur2, rfl, hb0, hb2, by omega, hcm, ?_, ?_⟩⟩, ?_⟩
    · have : cur2.toList.length = c * 5 := by rw [ht2]; simp only [List.length_append, List.length_take, List.length_drop, hl1, List.length_cons, List.length_nil]; omega
      rwa [Array.length_toList] at this
    · rw [ht2, List.take_append_of_le_length (by simp [hl1]; omega), List.take_append_of_le_length (by simp [hl1]; omega), List.take_take, Nat.min_self, ht1]
      rw [List.eraseIdx_eq_take_drop_succ, opcells_append, List.append_assoc, List.take_append, List.take_append]
      have e1 : (cur.toList.take (i * 5)) = opcells (M.take i) := by rw [← opcells_take, ← htake, List.take_take, Nat.min_eq_left (by omega)]
      rw [e1]
      rw [List.take_of_length_le (by rw [opcells_length, List.length_take]; omega)]
      refine congrArg (opcells (M.take i) ++ ·) ?_
      rw [opcells_length, List.length_take, Nat.min_eq_left (by omega), List.take_of_length_le (by rw [opcells_length, List.length_drop]; omega)]
      rw [opcells_length, List.length_drop, show (M.length - 1) * 5 - i * 5 - (M.length - (i + 1)) * 5 = 0 by omega]
      simp
    · rw [← hW1]
      exact ((Chg.drew [g] w).trans (Chg.setCells g _ _ _) (by simp)).trans (Chg.setCells g _ _ _) (by simp)
end Go.Proofs.YtmabjghjkgicgaaGreat

/- BatS -/
namespace Go.Proofs.YtmabjghjkgicgaaGreat
open Go.RowKit
set_option linter.unusedVariables false
set_option linter.unusedSimpArgs false

def SetM (o x : Opn) : Prop := x.k = o.k ∧ x.p = o.p
def SetL (L : List Opn) (o : Opn) (L' : List Opn) : Prop := (∃ (q : Nat) (x : Opn), L[q]? = some x ∧ SetM o x ∧ (∀ y ∈ L.take q, ¬ SetM o y) ∧ L' = L.eraseIdx q ++ [o]) ∨ ((∀ x ∈ L, ¬ SetM o x) ∧ L' = L ++ [o])
theorem map_eraseIdx {α β : Type} (f : α → β) (l : List α) (q : Nat) : (l.eraseIdx q).map f = (l.map f).eraseIdx q := by
  rw [List.eraseIdx_eq_take_drop_succ, List.eraseIdx_eq_take_drop_succ, List.map_append, List.map_take, List.map_drop]
/-- the queue behind a Delete -/
theorem Qu.erase {W W' : World} {t : TypeId} {base qp g c q : Nat} {V : List Ow} (hQ : Qu W t base qp (some ⟨g, 0, none⟩) c V) (hq : q < V.length) (hC : Chg [g] W W')
    (hO : W'.ownsRow base 59 5 (.slice (some ⟨g, 0, none⟩) (V.length - 1) c) (V.length - 1) (opcells (V.eraseIdx q))) :
    Qu (W'.setCell ⟨qp, 0, none⟩ (.slice (some ⟨g, 0, none⟩) (V.length - 1) c)) t base qp (some ⟨g, 0, none⟩) c (V.eraseIdx q) := by
  have hl : (V.eraseIdx q).length = V.length - 1 := List.length_eraseIdx_of_lt hq
  have hn : qp ∉ ob (some (⟨g, 0, none⟩ : Addr)) := fun h => by have := (owns_lt hQ.own qp h).1; have := hQ.lo; omega
  have hO' : OwnO W' base (some ⟨g, 0, none⟩) c (V.eraseIdx q) := by unfold OwnO; rw [hl]; exact hO
  refine ⟨?_, hQ.lo, owns_chg hO' (Chg.setCell W' ⟨qp, 0, none⟩ _) (fun k hk hm => by have := (owns_lt hO' k hk).1; have := hQ.lo; simp at hm; omega), fun v hv => ?_⟩
  · rw [hl]
    exact heap_setCell1 (heap_chg hQ.blk hC hn)
  · exact ((hQ.each v (List.mem_of_mem_eraseIdx hv)).chg hQ.own hC).put hQ.lo _
set_option maxRecDepth 100000 in
set_option maxHeartbeats 4000000 in
theorem setQ_any (t : TypeId) (base qp : Nat) (a : Option Addr) (c : Nat) (V : List Ow) (o : Ow) (w : World) (hQ : Qu w t base qp a c V) (hbw : base ≤ w.heap.size) (hn : V.length ≤ 1000000) (hof : ∀ W, Below qp w W → OwAt W o) (hmo : MayO o.o) :
    Calls Tryz.prog 23 #[.pointer (some ⟨qp, 0, none⟩), .agg #[.int .u8 o.o.k, .slice o.pa o.o.p.length o.pc, .int .i64 o.o.n, .string o.o.x, .slice o.da o.o.ds.length o.dc]] w (QTo w t base qp (SetL (V.map (·.o)) o.o)) := by
  have HQ := Lib.hid hQ
  have Hof := Lib.hid hof
  have Ho := Lib.hid (hof w (Below.refl _ _))
  have Hmo := Lib.hid hmo
  have hlq := hQ.lo
  clear hQ hof hmo
  go_enter Tryz.func23, Tryz.ntmps23
  go_wp2_with fail
  have hb0 : Below w.heap.size w (w.alloc (.cells (owcells o) 59 (0, 0))) := (Below.refl _ _).alloc (Nat.le_refl _) _
  refine (likeSet_any qp t a c V o _ (HQ.out.below hb0).blk (HQ.out.below hb0).ops hn (fun v hv => (HQ.out.each v hv).may) (Ho.out.below hb0) Hmo.out).mono ?_
  intro e w1 hto
  obtain ⟨k, rfl, hk, hb⟩ := hto
  obtain ⟨x0, hz1, hB1⟩ := new1 hb
  have HB1 := Lib.hid hB1
  have X0 := Lib.hid x0
  have x1 := cells_at x0
  simp only [owcells, ocells] at x1
  have hqw := heap_lt HQ.out.blk
  clear hb hB1 x0 hb0
  rcases hk with ⟨rfl, hno⟩ | ⟨q, v, rfl, hv, hm, hfst⟩
  · have Hno := Lib.hid hno
    clear hno
    go_wp2_with fail
    refine (wait_any t base qp a c V o _ (HQ.out.below HB1.out) (by omega) hn (Ho.out.below HB1.out) Hmo.out).mono ?_
    intro e w2 hto
    obtain ⟨rfl, a', c', u, hu, hq2, hb2⟩ := hto
    have Hu := Lib.hid hu
    have H2 := Lib.hid hq2
    have HB2 := Lib.hid hb2
    clear hu hq2 hb2 x1
    go_wp2_with fail
    go_end0
    refine ⟨rfl, a', c', V ++ [u], .inr ⟨fun x hx hh => ?_, by rw [List.map_append, List.map_cons, List.map_nil, Hu.out]⟩, H2.out, (HB1.out.mono (by have := heap_lt HQ.out.blk; omega)).trans HB2.out⟩
    obtain ⟨v, hv, rfl⟩ := List.mem_map.1 hx
    exact Hno.out v hv ⟨hh.1, hh.2, trivial⟩
  · have Hm := Lib.hid hm
    have Hv := Lib.hid hv
    have Hf := Lib.hid hfst
    have hk0 : decide ((q : Int) ≥ 0) = true := by simp
    have hq1 : q < V.length := (List.getElem?_eq_some_iff.1 hv).1
    have Q1 := Lib.hid (HQ.out.below HB1.out)
    have b1 := cells_at Q1.out.blk
    have f1 := free_at Q1.out.blk
    obtain ⟨g, rfl⟩ : ∃ g, a = some ⟨g, 0, none⟩ := by
      rcases Q1.out.own.2 with ⟨h2, h3⟩ | ⟨g, _, _, h2, _⟩
      · omega
      · injection h2 with h2
        exact ⟨g, h2⟩
    have hgw := (owns_lt HQ.out.own g (by simp [ob]))
    clear hv hm hfst
    go_wp2_with fail
    refine (deleteO_any base g c q V _ Q1.out.own hq1 hn).mono ?_
    rintro e w2 ⟨rfl, hO, hC⟩
    have hqg : qp ∉ ([g] : List Nat) := by simp; omega
    have q2 := heap_chg Q1.out.blk hC hqg
    have b2 := cells_at q2
    have f2 := free_at q2
    have hl2 := heap_lt q2
    have Q2 := Lib.hid (Q1.out.erase hq1 hC hO)
    have hx2 := heap_chg X0.out hC (by simp; omega)
    have x2 := cells_at hx2
    simp only [owcells, ocells] at x2
    have hs2 := hC.size
    have hwq : w.heap.size ≠ qp := by omega
    have k1 : Below qp w w1 := HB1.out.mono (by omega)
    have k2 : Below qp w1 w2 := hC.below (by omega) (fun k hk => by simp at hk; omega)
    have k3 : Below qp w (w2.setCell ⟨qp, 0, none⟩ (.slice (some ⟨g, 0, none⟩) (V.length - 1) c)) := (k1.trans k2).setCell (Nat.le_refl _) _
    have HB2 := Lib.hid k3
    clear k1 k2 k3
    clear b1 f1 x1 hO hC
    go_wp2_with fail
    have hle : (V.eraseIdx q).length ≤ 1000000 := by rw [List.length_eraseIdx_of_lt hq1]; omega
    refine (wait_any t base qp (some ⟨g, 0, none⟩) c (V.eraseIdx q) o _ Q2.out (by simp; omega) hle (Hof.out _ HB2.out) Hmo.out).mono ?_
    intro e w3 hto
    obtain ⟨rfl, a', c', u, hu, hq2, hb2⟩ := hto
    have Hu := Lib.hid hu
    have H3 := Lib.hid hq2
    have HB3 := Lib.hid hb2
    clear hu hq2 hb2 x2
    go_wp2_with fail
    go_end0
    refine ⟨rfl, a', c', _, .inl ⟨q, v.o, by rw [List.getElem?_map, Hv.out]; rfl, ⟨Hm.out.1, Hm.out.2.1⟩, fun y hy hh => ?_, ?_⟩, H3.out, HB2.out.trans HB3.out⟩
    · rw [← List.map_take] at hy
      obtain ⟨u', hu, rfl⟩ := List.mem_map.1 hy
      exact Hf.out u' hu ⟨hh.1, hh.2, trivial⟩
    · rw [List.map_append, List.map_cons, List.map_nil, Hu.out, map_eraseIdx]
end Go.Proofs.YtmabjghjkgicgaaGreat
