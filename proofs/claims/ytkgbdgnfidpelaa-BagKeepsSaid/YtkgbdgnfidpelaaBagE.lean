/- slices.Delete at letters. -/
import Derived.Test.YtkgbdgnfidpelaaBagC
namespace Go.Proofs.Ytkgbdgnfidpelaa
open Go.RowKit
set_option linter.unusedVariables false
set_option linter.unusedSimpArgs false

theorem setCells_block (b : Nat) (t : TypeId) : ∀ (vs : List Value) (o : Nat) (w : World) (cur : Array Value), w.heap[b]? = some (.cells cur t (0, 0)) → o + vs.length ≤ cur.size →
    ∃ cur', (w.setCells b o vs).heap[b]? = some (.cells cur' t (0, 0)) ∧ cur'.toList = cur.toList.take o ++ vs ++ cur.toList.drop (o + vs.length)
  | [], o, w, cur, h, _ => ⟨cur, h, by simp⟩
  | v :: vs, o, w, cur, h, ho => by
    simp only [List.length_cons] at ho
    obtain ⟨cur', h1, h2⟩ := setCells_block b t vs (o + 1) (w.setCell ⟨b, o, none⟩ v) (cur.setIfInBounds o v) (heap_setCell_same w b o cur t v h) (by simp; omega)
    refine ⟨cur', h1, ?_⟩
    rw [h2, Array.toList_setIfInBounds]
    have hlt : o < cur.toList.length := by simp; omega
    apply List.ext_getElem?
    intro j
    simp only [List.getElem?_append, List.length_append, List.length_take, List.length_set, List.length_cons, List.getElem?_take, List.getElem?_drop, List.getElem?_set, List.getElem?_cons]
    simp only [Array.length_toList] at hlt ⊢
    by_cases h3 : j < o
    · simp [h3, show j < min (o + 1) cur.size by omega, show j < min o cur.size by omega, show j < min (o + 1) cur.size + vs.length by omega, show j < min o cur.size + (vs.length + 1) by omega, show j < o + 1 by omega, show o ≠ j by omega]
    · by_cases h4 : j = o
      · subst h4
        simp [show j < min (j + 1) cur.size by omega, show ¬ j < min j cur.size by omega, show j < min (j + 1) cur.size + vs.length by omega, show j < min j cur.size + (vs.length + 1) by omega, show j - min j cur.size = 0 by omega, show j < cur.size by omega]
      · by_cases h5 : j < o + 1 + vs.length
        · simp [show ¬ j < min (o + 1) cur.size by omega, show ¬ j < min o cur.size by omega, show j < min (o + 1) cur.size + vs.length by omega, show j < min o cur.size + (vs.length + 1) by omega, show j - min o cur.size ≠ 0 by omega, show j - min o cur.size - 1 = j - min (o + 1) cur.size by omega]
        · simp [show ¬ j < min (o + 1) cur.size + vs.length by omega, show ¬ j < min o cur.size + (vs.length + 1) by omega, show ¬ (o = o + 1 + vs.length + (j - (min (o + 1) cur.size + vs.length))) by omega]
          congr 1
          omega
theorem Chg.setCells (b : Nat) : ∀ (vs : List Value) (o : Nat) (w : World), Chg [b] w (w.setCells b o vs)
  | [], o, w => Chg.refl _ _
  | v :: vs, o, w => (Chg.setCell w ⟨b, o, none⟩ v).trans (Chg.setCells b vs (o + 1) _) (by simp)

/-- an append as its run says -/
theorem wpList_append_run {P : Program} {w w' : World} {ops : Array Oper} {rest : List Oper} {o : Oper} {a : Act} {Q : Exit → Act → World → Prop} (hgd : o.guard = none) (s x : Operand) (t : TypeId)
    (ho : o.op = .call { callee := .builtin .append, args := #[s, x], argTypes := #[t, t] }) (v : Value)
    (hrun : (Builtin.append_ #[t, t] o.type #[a.eval s, a.eval x]).run P w = .ok v w')
    (h : wpList P ops Q rest (a.put o.dst v) w') : wpList P ops Q (o :: rest) a w := by
  refine wpList_plain hgd fun K hK => ?_
  unfold Oper.wp
  simp [execOp, ho, resolve, invoke, builtin, hrun, Result.andThen]
  exact hK _ _ h
theorem wpList_clear_run {P : Program} {w w' : World} {ops : Array Oper} {rest : List Oper} {o : Oper} {a : Act} {Q : Exit → Act → World → Prop} (hgd : o.guard = none) (x : Operand) (t : TypeId)
    (ho : o.op = .call { callee := .builtin .clear, args := #[x], argTypes := #[t] }) (v : Value)
    (hrun : (Builtin.clear_ #[t] o.type #[a.eval x]).run P w = .ok v w')
    (h : wpList P ops Q rest (a.put o.dst v) w') : wpList P ops Q (o :: rest) a w := by
  refine wpList_plain hgd fun K hK => ?_
  unfold Oper.wp
  simp [execOp, ho, resolve, invoke, builtin, hrun, Result.andThen]
  exact hK _ _ h

theorem delete_walk (g c i n : Nat) (w : World) (hn : n ≤ c) (hi : i < n) (hm : n ≤ 1000000) (hc : c ≤ 9223372036854775807)
    (W1 W2 : World) (ad : Addr)
    (had : ad = if c = i + 1 then ⟨g, 0, none⟩ else ⟨g, (i + 1) * 3, none⟩)
    (h1 : ∀ ty, (Builtin.append_ #[51, 51] ty #[.slice (some ⟨g, 0, none⟩) i c, .slice (some ad) (n - (i + 1)) (c - (i + 1))]).run Try.prog w.drew = .ok (.slice (some ⟨g, 0, none⟩) (n - 1) c) W1)
    (h2 : ∀ ty, (Builtin.clear_ #[51] ty #[.slice (some ⟨g, (n - 1) * 3, none⟩) 1 (c - (n - 1))]).run Try.prog W1 = .ok (.tuple #[]) W2) :
    Calls Try.prog 27 #[.slice (some ⟨g, 0, none⟩) n c, .int .i64 i, .int .i64 ((i : Int) + 1)] w fun e w' => e = .returned (.slice (some ⟨g, 0, none⟩) (n - 1) c) ∧ w' = W2 := by
  have hne : ((i : Int) == (i : Int) + 1) = false := by simp; omega
  have H1 := Lib.hid h1
  have H2 := Lib.hid h2
  have Had := Lib.hid had
  clear h1 h2 had
  go_enter Try.func27, Try.ntmps27
  go_wp2_with fail
  refine region_text [([0, 1, 2, 3, 4, 5, 6, 7], false)] mixed (by kernel_rfl) ?_
  simp only [wpSegs, List.map_cons, List.map_nil, List.getD_cons_succ, List.getD_cons_zero]
  by_cases hci : c = i + 1
  · obtain rfl : ad = ⟨g, 0, none⟩ := by have := Had.out; rw [if_pos hci] at this; exact this
    obtain rfl : n = i + 1 := by omega
    subst hci
    have H3 : Hid (∀ ty, (Builtin.append_ #[51, 51] ty #[.slice (some ⟨g, 0, none⟩) i (i + 1), .slice (some ⟨g, 0, none⟩) 0 0]).run Try.prog w.drew = .ok (.slice (some ⟨g, 0, none⟩) i (i + 1)) W1) := by
      have := H1.out; exact Lib.hid (by simpa using this)
    have H4 : Hid (∀ ty, (Builtin.clear_ #[51] ty #[.slice (some ⟨g, i * 3, none⟩) 1 1]).run Try.prog W1 = .ok (.tuple #[]) W2) := by
      have := H2.out; exact Lib.hid (by simpa using this)
    clear H1 H2
    go_wp2_with (at_builtin; go_must (refine wpList_append_run rfl _ _ 51 rfl _ (H3.out _) ?_))
    refine And.intro (by kernel_rfl) ?_
    go_wp2_with (refine wpList_clear_run rfl _ 51 rfl _ (H4.out _) ?_)
    go_ret
    exact ⟨rfl, rfl⟩
  · obtain rfl : ad = ⟨g, (i + 1) * 3, none⟩ := by have := Had.out; rw [if_neg hci] at this; exact this
    go_wp2_with (at_builtin; go_must (refine wpList_append_run rfl _ _ 51 rfl _ (H1.out _) ?_))
    refine And.intro (by kernel_rfl) ?_
    have H5 : Hid (∀ ty, (Builtin.clear_ #[51] ty #[.slice (some ⟨g, (n - 1) * 3, none⟩) (n - (n - 1)) (c - (n - 1))]).run Try.prog W1 = .ok (.tuple #[]) W2) := by
      have := H2.out; rw [show n - (n - 1) = 1 by omega]; exact Lib.hid this
    clear H2 H1
    go_wp2_with (refine wpList_clear_run rfl _ 51 rfl _ (H5.out _) ?_)
    go_ret
    exact ⟨rfl, rfl⟩

theorem zero_letter (w : World) : (zeroValue 55).run Try.prog w = .ok (.agg #[.int .u8 0, .slice none 0 0, .bool false]) w := by kernel_rfl
theorem rcells_one (M : List Ml) : ∀ u ∈ rcells M, u.oneCell' = true := by
  intro u hu
  simp only [rcells, List.mem_flatMap, lcells] at hu
  obtain ⟨x, _, hx⟩ := hu
  simp at hx
  rcases hx with rfl | rfl | rfl <;> rfl
theorem rcells_take (M : List Ml) (i : Nat) : (rcells M).take (i * 3) = rcells (M.take i) := by
  induction M generalizing i with
  | nil => simp [rcells]
  | cons x M ih =>
    cases i with
    | zero => simp [rcells]
    | succ i =>
      have := ih i
      simp only [rcells, List.flatMap_cons, List.take_succ_cons] at this ⊢
      rw [show (i + 1) * 3 = 3 + i * 3 by omega, List.take_append, show (lcells x).length = 3 from rfl, show 3 + i * 3 - 3 = i * 3 by omega, this, List.take_of_length_le (by simp [lcells])]
theorem rcells_drop (M : List Ml) (i : Nat) : (rcells M).drop (i * 3) = rcells (M.drop i) := by
  induction M generalizing i with
  | nil => simp [rcells]
  | cons x M ih =>
    cases i with
    | zero => simp [rcells]
    | succ i =>
      have := ih i
      simp only [rcells, List.flatMap_cons, List.drop_succ_cons] at this ⊢
      rw [show (i + 1) * 3 = 3 + i * 3 by omega, List.drop_append, show (lcells x).length = 3 from rfl, show 3 + i * 3 - 3 = i * 3 by omega, this, List.drop_eq_nil_of_le (by simp [lcells])]
      rfl
theorem rcells_append (M N : List Ml) : rcells (M ++ N) = rcells M ++ rcells N := by simp [rcells]

theorem delete_any (g c i : Nat) (M : List Ml) (w : World) (hr : w.ownsRow 0 55 3 (.slice (some ⟨g, 0, none⟩) M.length c) M.length (rcells M)) (hi : i < M.length) (hm : M.length ≤ 1000000) :
    Calls Try.prog 27 #[.slice (some ⟨g, 0, none⟩) M.length c, .int .i64 i, .int .i64 ((i : Int) + 1)] w fun e w' =>
      e = .returned (.slice (some ⟨g, 0, none⟩) (M.length - 1) c) ∧ w'.ownsRow 0 55 3 (.slice (some ⟨g, 0, none⟩) (M.length - 1) c) (M.length - 1) (rcells (M.eraseIdx i)) ∧ Chg [g] w w' := by
  obtain ⟨i0, hi0, hz0, hz1, hz2⟩ := info_parts Try.info_letter
  rcases hr.2 with ⟨h, _⟩ | ⟨g', cap, cur, h, _, hg, hnc, hcm, hcs, htake⟩
  · simp at h
  · simp at h
    obtain ⟨rfl, rfl⟩ := h
    have hgd : w.drew.heap[g]? = some (.cells cur 55 (0, 0)) := hg
    have hclen : cur.toList.length = c * 3 := by simp [hcs]
    have hcell : ∀ k, k < c * 3 → (w.drew.cell? ⟨g, k, none⟩).isSome = true := fun k hk => by rw [cells_at hgd]; simp [hcs, hk]
    have hfz : ∀ k, w.drew.frozen? ⟨g, k, none⟩ = false := free_at hgd
    have hadd : ∀ o k, (⟨g, o, none⟩ : Addr).add k = ⟨g, o + k, none⟩ := fun o k => by unfold Addr.add; split <;> simp_all
    -- the append
    have hnews : ∀ j u, (rcells (M.drop (i + 1)))[j]? = some u → w.drew.cell? ((if c = i + 1 then (⟨g, 0, none⟩ : Addr) else ⟨g, (i + 1) * 3, none⟩).add j) = some u := by
      intro j u hu
      have hj : j < (rcells (M.drop (i + 1))).length := by
        rcases Nat.lt_or_ge j (rcells (M.drop (i + 1))).length with h | h
        · exact h
        · rw [List.getElem?_eq_none h] at hu; cases hu
      rw [rcells_length, List.length_drop] at hj
      rw [if_neg (by omega), hadd, cells_at hgd, ← Array.getElem?_toList]
      rw [← rcells_drop, ← htake, List.getElem?_drop, List.getElem?_take] at hu
      rw [if_pos (by omega)] at hu
      exact hu
    have happ := fun ty => run_append_room_cells (P := Try.prog) w.drew 51 ty 55 i0 Try.underlying51 hi0 g 0 i c (if c = i + 1 then ⟨g, 0, none⟩ else ⟨g, (i + 1) * 3, none⟩) (M.length - (i + 1)) (c - (i + 1)) (rcells (M.drop (i + 1)))
      (by rw [hz1, rcells_length, List.length_drop]) hnews (rcells_one _) (by omega) (fun j hj => hcell _ (by rw [hz1]; rw [rcells_length, List.length_drop] at hj; omega)) (fun j _ => hfz _)
    rw [hz1] at happ
    simp only [Nat.zero_add, show i + (M.length - (i + 1)) = M.length - 1 by omega] at happ
    obtain ⟨cur1, hb1, ht1⟩ := setCells_block g 55 (rcells (M.drop (i + 1))) (i * 3) w.drew cur hgd (by rw [rcells_length, List.length_drop, hcs]; omega)
    have hl1 : cur1.toList.length = c * 3 := by rw [ht1]; simp [rcells_length, hcs]; omega
    generalize hW1 : w.drew.setCells g (i * 3) (rcells (M.drop (i + 1))) = W1 at *
    -- the clear
    have hz : (Builtin.zeroCells (Value.agg #[.int .u8 0, .slice none 0 0, .bool false]).cells 1).toList = [.int .u8 0, .slice none 0 0, .bool false] := by simp [Builtin.zeroCells, Value.cells, Array.toList_range, List.range_succ]
    have hst := run_storeCells_cells (P := Try.prog) g ((M.length - 1) * 3) [.int .u8 0, .slice none 0 0, .bool false] 0 W1 (fun j hj => by rw [cells_at hb1, ← Array.getElem?_toList]; simp at hj ⊢; rw [Array.length_toList] at hl1; omega) (fun j _ => free_at hb1 _) (by simp [Value.oneCell'])
    simp only [Nat.add_zero] at hst
    have hclr : ∀ ty, (Builtin.clear_ #[51] ty #[.slice (some ⟨g, (M.length - 1) * 3, none⟩) 1 (c - (M.length - 1))]).run Try.prog W1 = .ok (.tuple #[]) (W1.setCells g ((M.length - 1) * 3) [.int .u8 0, .slice none 0 0, .bool false]) := by
      intro ty
      simp [Builtin.clear_, run_underlying Try.underlying51, zero_letter, hz, hst]
    refine (delete_walk g c i M.length w hnc hi hm (by unfold maxLen at hcm; omega) W1 _ _ rfl happ hclr).mono ?_
    rintro e w' ⟨rfl, rfl⟩
    obtain ⟨cur2, hb2, ht2⟩ := setCells_block g 55 [.int .u8 0, .slice none 0 0, .bool false] ((M.length - 1) * 3) W1 cur1 hb1 (by rw [Array.length_toList] at hl1; simp [hl1]; omega)
    refine ⟨rfl, ⟨by rw [rcells_length, List.length_eraseIdx_of_lt hi], .inr ⟨g, c, cur2, rfl, Nat.zero_le _, hb2, by omega, hcm, ?_, ?_⟩⟩, ?_⟩
    · have : cur2.toList.length = c * 3 := by rw [ht2]; simp only [List.length_append, List.length_take, List.length_drop, hl1, List.length_cons, List.length_nil]; omega
      rwa [Array.length_toList] at this
    · rw [ht2, List.take_append_of_le_length (by simp [hl1]; omega), List.take_append_of_le_length (by simp [hl1]; omega), List.take_take, Nat.min_self, ht1]
      rw [List.eraseIdx_eq_take_drop_succ, rcells_append, List.append_assoc, List.take_append, List.take_append]
      have e1 : (cur.toList.take (i * 3)) = rcells (M.take i) := by rw [← rcells_take, ← htake, List.take_take, Nat.min_eq_left (by omega)]
      rw [e1]
      rw [List.take_of_length_le (by rw [rcells_length, List.length_take]; omega)]
      congr 1
      rw [rcells_length, List.length_take, Nat.min_eq_left (by omega), List.take_of_length_le (by rw [rcells_length, List.length_drop]; omega)]
      rw [rcells_length, List.length_drop, show (M.length - 1) * 3 - i * 3 - (M.length - (i + 1)) * 3 = 0 by omega]
      simp
    · rw [← hW1]
      exact ((Chg.drew [g] w).trans (Chg.setCells g _ _ _) (by simp)).trans (Chg.setCells g _ _ _) (by simp)
end Go.Proofs.Ytkgbdgnfidpelaa
