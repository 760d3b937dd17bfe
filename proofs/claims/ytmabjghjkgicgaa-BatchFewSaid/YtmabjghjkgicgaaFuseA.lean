/- slices.Grow of nothing, slices.Concat, Contains, Clone at dots and items: contracts. -/
import Derived.Test.YtmabjghjkgicgaaItsA
namespace Go.Proofs.Ytmabjghjkgicgaa
open Go.RowKit
set_option linter.unusedVariables false
set_option linter.unusedSimpArgs false

section
variable {P : Program}
/-- append(nil, make(n)...): n zero values in a new row -/
theorem run_append_make (w : World) (t u ty e : TypeId) (q : IntKind) (i : TypeInfo) (z : Value) (ht : P.underlying t = some (.slice e)) (hu : P.underlying u = some (.int q)) (hi : P.info? e = some i) (hz : i.zero = some z) (hzs : z.cells.size = i.size) (hsz : 0 < i.size)
    (n : Nat) (h0 : 0 < n) (h63 : n ≤ 1000000000) (h48 : n * i.bytes ≤ 140737488355328) :
    ∃ w', (Builtin.append_ #[t, u] ty #[.slice none 0 0, .int .i64 (n : Int)]).run P w = .ok (.slice (some ⟨w.heap.size, 0, none⟩) n (grownCap w n 0 e)) w' ∧
      w'.ownsRow w.heap.size e i.size (.slice (some ⟨w.heap.size, 0, none⟩) 0 (grownCap w n 0 e)) 0 [] ∧ Below w.heap.size w w' ∧ n ≤ grownCap w n 0 e := by
  have hn : n ≠ 0 := by omega
  have hw : IntKind.i64.wrap (n : Int) = n := by simp [IntKind.wrap, IntKind.signed, IntKind.bits]; omega
  have h48a : ¬ (281474976710656 < (n : Int) * (i.bytes : Int)) := by omega
  have h48' : ¬ (281474976710656 < Builtin.nextslicecap n 0 * i.bytes) := by rw [nextslicecap_zero h0]; omega
  have h63' : ¬ (9223372036854775807 < (n : Int)) := by omega
  refine ⟨w.drew.alloc (.cells (Builtin.zeroCells z.cells n ++ Builtin.zeroCells z.cells (grownCap w n 0 e - n)) e), ?_, ?_, ?_, grownCap_ge w n 0 e⟩
  · simp [Builtin.append_, run_underlying ht, run_underlying hu, sizeOf, typeInfo, zeroValue, hi, hz, hn, hw, h48a, h48', h63', asInt, asIntOf, Question.forced, run_firstCells_none, newRow, grownCap]
    rw [if_neg (by omega), if_neg (Nat.mul_ne_zero (by omega) (by omega))]
  · have hge := grownCap_ge w n 0 e
    have hcm := grownCap_le_maxLen w n 0 e (by unfold maxLen; omega)
    refine ⟨by simp, .inr ⟨w.heap.size, _, _, rfl, Nat.le_refl _, heap_alloc_new w.drew _, Nat.zero_le _, hcm, ?_, by simp⟩⟩
    simp only [Array.size_append, size_zeroCells, hzs, ← Nat.add_mul]
    congr 1
    omega
  · exact (Below.refl _ _).drew.alloc (Nat.le_refl _) _
end
section
variable {w : World} {ops : Array Oper} {rest : List Oper} {o : Oper} {a : Act} {Q : Exit → Act → World → Prop}
theorem wpList_makeI (hgd : o.guard = none) (s x : Operand) (ho : o.op = .call { callee := .builtin .append, args := #[s, x], argTypes := #[38, 3] }) (hs : a.eval s = .slice none 0 0)
    (n : Nat) (hx : a.eval x = .int .i64 (n : Int)) (h0 : 0 < n) (hn : n ≤ 3000000)
    (h : ∀ ad c w', OwnI w' w.heap.size (some ad) c [] → Below w.heap.size w w' → n ≤ c → wpList Try.prog ops Q rest (a.put o.dst (.slice (some ad) n c)) w') : wpList Try.prog ops Q (o :: rest) a w := by
  obtain ⟨i0, hi0, hz0, hz1, hz2⟩ := info_parts Try.info_item
  obtain ⟨w', hr, h1, h2, h3⟩ := run_append_make (P := Try.prog) w 38 3 o.type 58 .i64 i0 _ Try.underlying38 Try.underlying3 hi0 hz0 (by rw [hz1]; rfl) (by omega) n h0 (by omega) (by rw [hz2]; omega)
  refine wpList_plain hgd fun K hK => ?_
  unfold Oper.wp
  simp only [execOp, ho, resolve, invoke, builtin, Sem.run_bind, Sem.run_pure, Result.andThen_ok, List.map_toArray, List.map_cons, List.map_nil, hs, hx, hr]
  rw [hz1] at h1
  exact hK _ _ (h _ _ w' h1 h2 h3)
theorem wpList_makeD (hgd : o.guard = none) (s x : Operand) (ho : o.op = .call { callee := .builtin .append, args := #[s, x], argTypes := #[33, 3] }) (hs : a.eval s = .slice none 0 0)
    (n : Nat) (hx : a.eval x = .int .i64 (n : Int)) (h0 : 0 < n) (hn : n ≤ 3000000)
    (h : ∀ ad c w', OwnD w' w.heap.size (some ad) c [] → Below w.heap.size w w' → n ≤ c → wpList Try.prog ops Q rest (a.put o.dst (.slice (some ad) n c)) w') : wpList Try.prog ops Q (o :: rest) a w := by
  obtain ⟨i0, hi0, hz0, hz1, hz2⟩ := info_parts Try.info_dot
  obtain ⟨w', hr, h1, h2, h3⟩ := run_append_make (P := Try.prog) w 33 3 o.type 31 .i64 i0 _ Try.underlying33 Try.underlying3 hi0 hz0 (by rw [hz1]; rfl) (by omega) n h0 (by omega) (by rw [hz2]; omega)
  refine wpList_plain hgd fun K hK => ?_
  unfold Oper.wp
  simp only [execOp, ho, resolve, invoke, builtin, Sem.run_bind, Sem.run_pure, Result.andThen_ok, List.map_toArray, List.map_cons, List.map_nil, hs, hx, hr]
  rw [hz1] at h1
  exact hK _ _ (h _ _ w' h1 h2 h3)
end
theorem slice_hiI (oa : Option Addr) (n oc j : Nat) (hj : j ≤ oc) (W : World) : (Instr.sliceAt 38 (.slice oa n oc) none (some (.int .i64 (j : Int))) none).run Try.prog W = .ok (.slice oa j oc) W := by
  simp [go_sem, Instr.sliceAt, Instr.slice, run_underlying Try.underlying38]
  omega
theorem slice_hiD (oa : Option Addr) (n oc j : Nat) (hj : j ≤ oc) (W : World) : (Instr.sliceAt 33 (.slice oa n oc) none (some (.int .i64 (j : Int))) none).run Try.prog W = .ok (.slice oa j oc) W := by
  simp [go_sem, Instr.sliceAt, Instr.slice, run_underlying Try.underlying33]
  omega

set_option maxHeartbeats 1000000 in
theorem growI_any (n : Nat) (w : World) (hn : n ≤ 3000000) :
    Calls Try.prog 123 #[.slice none 0 0, .int .i64 (n : Int)] w fun e w' => ∃ a c, e = .returned (.slice a 0 c) ∧ OwnI w' w.heap.size a c [] ∧ Below w.heap.size w w' := by
  have hs0 := fun W => slice_hiI none 0 0 0 (Nat.le_refl _) W
  by_cases h0 : n = 0
  · subst h0
    go_enter Try.func123, Try.ntmps123
    go_wp2_with fail
    go_ret
    exact ⟨none, 0, rfl, OwnI.nil _ _, Below.refl _ _⟩
  · have h1 : 0 < n := by omega
    clear h0
    go_enter Try.func123, Try.ntmps123
    go_wp2_with (at_builtin; go_must (refine wpList_makeI rfl _ _ rfl rfl n rfl h1 (by omega) ?_))
    intro ad c w1 ho hb hc
    have hs1 := fun W => slice_hiI (some ad) n c 0 (Nat.zero_le _) W
    have Ho := Lib.hid ho
    have Hb := Lib.hid hb
    clear ho hb
    go_wp2_with fail
    go_ret
    exact ⟨some ad, c, rfl, Ho.out, Hb.out⟩
set_option maxHeartbeats 1000000 in
theorem growD_any (n : Nat) (w : World) (hn : n ≤ 3000000) :
    Calls Try.prog 84 #[.slice none 0 0, .int .i64 (n : Int)] w fun e w' => ∃ a c, e = .returned (.slice a 0 c) ∧ OwnD w' w.heap.size a c [] ∧ Below w.heap.size w w' := by
  have hs0 := fun W => slice_hiD none 0 0 0 (Nat.le_refl _) W
  by_cases h0 : n = 0
  · subst h0
    go_enter Try.func84, Try.ntmps84
    go_wp2_with fail
    go_ret
    exact ⟨none, 0, rfl, OwnD.nil _ _, Below.refl _ _⟩
  · have h1 : 0 < n := by omega
    clear h0
    go_enter Try.func84, Try.ntmps84
    go_wp2_with (at_builtin; go_must (refine wpList_makeD rfl _ _ rfl rfl n rfl h1 (by omega) ?_))
    intro ad c w1 ho hb hc
    have hs1 := fun W => slice_hiD (some ad) n c 0 (Nat.zero_le _) W
    have Ho := Lib.hid ho
    have Hb := Lib.hid hb
    clear ho hb
    go_wp2_with fail
    go_ret
    exact ⟨some ad, c, rfl, Ho.out, Hb.out⟩
end Go.Proofs.Ytmabjghjkgicgaa
