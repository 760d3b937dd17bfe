/- slices.Grow of nothing, slices.Concat, Contains, Clone at dots and items: contracts. | slices.Concat of two slices, at dots and at items; slices.Contains at dots; slices.Clone at items: contracts. -/
import Derived.Test.YtmabjghjkgicgaaGreatItsA
import Derived.Test.YtmabjghjkgicgaaGreatRefLA
/- FuseA -/
namespace Go.Proofs.YtmabjghjkgicgaaGreat
open Go.RowKit
set_option linter.unusedVariables false
set_option linter.unusedSimpArgs false

section
variable {P : Program}
/-- append(nil, make(n)...): n zero values in a new row -/
theorem run_append_make (w : World) (t u ty e : TypeId) (q : IntKind) (i : TypeInfo) (z : Value) (ht : P.underlying t = some (.slice e)) (hu : P.underlying u = some (.int q)) (hi : P.info? e = some i) (hz : i.zero = some z) (hzs : z.cells.size = i.size) (hsz : 0 < i.size)
    (n : Nat) (h0 : 0 < n) (h63 : n ≤ 1000000000) (h48 : n * i.bytes ≤ 140737488355328) :
    ∃ w', (Builtin.append_ #[t, u] ty #[.slice none 0 0, .int .i64 (n : Int)]).run P w = .ok (.slice (some ⟨w.heap.size, 0, none⟩) n (grownCap w n 0 e)) w' ∧
      w'.ownsRow w.heap.size e i.size (.slice (some ⟨w.heap.size, 0, none⟩) 0 (grownCap w n 0 e)) 0 [] ∧ Below w.heap.size w w' ∧ n ≤ grownCap w n 0 e := by
  have hn : n ≠ 0 := by omega
  have hw : IntKind.i64.wrap (n : Int) = n := by simp [IntKind.wrap, IntKind.signed, IntKind.bits]; omega
  have h48a : ¬ (281474976710656 < (n : Int) * (i.bytes : Int)) := by omega
  have h48' : ¬ (281474976710656 < Builtin.nextslicecap n 0 * i.bytes) := by rw [nextslicecap_zero h0]; omega
  have h63' : ¬ (9223372036854775807 < (n : Int)) := by omega
  refine ⟨w.drew.alloc (.cells (Builtin.zeroCells z.cells n ++ Builtin.zeroCells z.cells (grownCap w n 0 e - n)) e), ?_, ?_, ?_, grownCap_ge w n 0 e⟩
  · simp [Builtin.append_, run_underlying ht, run_underlying hu, sizeOf, typeInfo, zeroValue, hi, hz, hn, hw, h48a, h48', h63', asInt, asIntOf, Question.forced, run_firstCells_none, newRow, grownCap]
    rw [if_neg (by omega), if_neg (Nat.mul_ne_zero (by omega) (by omega))]
  · have hge := grownCap_ge w n 0 e
    have hcm := grownCap_le_maxLen w n 0 e (by unfold maxLen; omega)
    refine ⟨by simp, .inr ⟨w.heap.size, _, _, rfl, Nat.le_refl _, heap_alloc_new w.drew _, Nat.zero_le _, hcm, ?_, by simp⟩⟩
    simp only [Array.size_append, size_zeroCells, hzs, ← Nat.add_mul]
    congr 1
    omega
  · exact (Below.refl _ _).drew.alloc (Nat.le_refl _) _
end
section
variable {w : World} {ops : Array Oper} {rest : List Oper} {o : Oper} {a : Act} {Q : Exit → Act → World → Prop}
theorem wpList_makeD (hgd : o.guard = none) (s x : Operand) (ho : o.op = .call { callee := .builtin .append, args := #[s, x], argTypes := #[46, 3] }) (hs : a.eval s = .slice none 0 0)
    (n : Nat) (hx : a.eval x = .int .i64 (n : Int)) (h0 : 0 < n) (hn : n ≤ 3000000)
    (h : ∀ ad c w', OwnD w' w.heap.size (some ad) c [] → Below w.heap.size w w' → n ≤ c → wpList Tryz.prog ops Q rest (a.put o.dst (.slice (some ad) n c)) w') : wpList Tryz.prog ops Q (o :: rest) a w := by
  obtain ⟨i0, hi0, hz0, hz1, hz2⟩ := info_parts Tryz.info_dot
  obtain ⟨w', hr, h1, h2, h3⟩ := run_append_make (P := Tryz.prog) w 46 3 o.type 44 .i64 i0 _ Tryz.underlying46 Tryz.underlying3 hi0 hz0 (by rw [hz1]; rfl) (by omega) n h0 (by omega) (by rw [hz2]; omega)
  refine wpList_plain hgd fun K hK => ?_
  unfold Oper.wp
  simp only [execOp, ho, resolve, invoke, builtin, Sem.run_bind, Sem.run_pure, Result.andThen_ok, List.map_toArray, List.map_cons, List.map_nil, hs, hx, hr]
  rw [hz1] at h1
  exact hK _ _ (h _ _ w' h1 h2 h3)
end
theorem slice_hiI (oa : Option Addr) (n oc j : Nat) (hj : j ≤ oc) (W : World) : (Instr.sliceAt 45 (.slice oa n oc) none (some (.int .i64 (j : Int))) none).run Tryz.prog W = .ok (.slice oa j oc) W := by
  simp [go_sem, Instr.sliceAt, Instr.slice, run_underlying Tryz.underlying45]
  omega
theorem slice_hiD (oa : Option Addr) (n oc j : Nat) (hj : j ≤ oc) (W : World) : (Instr.sliceAt 46 (.slice oa n oc) none (some (.int .i64 (j : Int))) none).run Tryz.prog W = .ok (.slice oa j oc) W := by
  simp [go_sem, Instr.sliceAt, Instr.slice, run_underlying Tryz.underlying46]
  omega

set_option maxHeartbeats 1000000 in
theorem growD_any (n : Nat) (w : World) (hn : n ≤ 3000000) :
    Calls Tryz.prog 81 #[.slice none 0 0, .int .i64 (n : Int)] w fun e w' => ∃ a c, e = .returned (.slice a 0 c) ∧ OwnD w' w.heap.size a c [] ∧ Below w.heap.size w w' := by
  have hs0 := fun W => slice_hiD none 0 0 0 (Nat.le_refl _) W
  by_cases h0 : n = 0
  · subst h0
    go_enter Tryz.func81, Tryz.ntmps81
    go_wp2_with fail
    go_ret
    exact ⟨none, 0, rfl, OwnD.nil _ _, Below.refl _ _⟩
  · have h1 : 0 < n := by omega
    clear h0
    go_enter Tryz.func81, Tryz.ntmps81
    go_wp2_with (at_builtin; go_must (refine wpList_makeD rfl _ _ rfl rfl n rfl h1 (by omega) ?_))
    intro ad c w1 ho hb hc
    have hs1 := fun W => slice_hiD (some ad) n c 0 (Nat.zero_le _) W
    have Ho := Lib.hid ho
    have Hb := Lib.hid hb
    clear ho hb
    go_wp2_with fail
    go_ret
    exact ⟨some ad, c, rfl, Ho.out, Hb.out⟩
end Go.Proofs.YtmabjghjkgicgaaGreat

/- FuseB -/
namespace Go.Proofs.YtmabjghjkgicgaaGreat
open Go.RowKit
set_option linter.unusedVariables false
set_option linter.unusedSimpArgs false

set_option maxRecDepth 100000 in
set_option maxHeartbeats 2000000 in
theorem concatD_any (a b : Option Addr) (c d g : Nat) (l m : List Dt) (w : World) (hv : Vec w a c l) (hu : Vec w b d m) (hg : w.heap[g]? = some (.cells #[.slice a l.length c, .slice b m.length d] 46 (0, 0))) (hn : l.length ≤ 1000000) (hm : m.length ≤ 1000000) :
    Calls Tryz.prog 66 #[.slice (some ⟨g, 0, none⟩) 2 2] w fun e w' => ∃ a' c' v', e = .returned (.slice a' v'.length c') ∧ v' = l ++ m ∧ OwnD w' w.heap.size a' c' v' ∧ Below w.heap.size w w' := by
  have Hv := Lib.hid hv
  have Hu := Lib.hid hu
  have Hg := Lib.hid hg
  have g0 := cells_at hg
  clear hv hu hg
  go_enter Tryz.func66, Tryz.ntmps66
  go_wp2_with fail
  go_loopw [3, 11] (fun s j wr => w = wr ∧ ((j = .int .i64 0 ∧ s = .int .i64 0) ∨ (j = .int .i64 1 ∧ s = .int .i64 (l.length : Int)) ∨ (j = .int .i64 2 ∧ s = .int .i64 ((l.length : Int) + (m.length : Int))))) (fun _ j _ => 2 - (intOf j).toNat)
  case atStart => exact ⟨rfl, .inl ⟨rfl, rfl⟩⟩
  case round =>
    obtain ⟨hw, ⟨rfl, rfl⟩ | ⟨rfl, rfl⟩ | ⟨rfl, rfl⟩⟩ := hrel <;> subst hw
    · go_wp2_with fail
      go_roundw
      case rel => exact ⟨by trivial, .inr (.inl ⟨by go_num, by first | trivial | go_num⟩)⟩
      case measure => simp [intOf]
    · go_wp2_with fail
      go_roundw
      case rel => exact ⟨by trivial, .inr (.inr ⟨by go_num, by first | trivial | go_num⟩)⟩
      case measure => simp [intOf]
    · have hlen : ((l.length : Int) + (m.length : Int)) = ((l.length + m.length : Nat) : Int) := by omega
      rw [hlen]
      have Hl := Lib.hid hlen
      clear hlen
      go_wp2_with fail
      refine (growD_any (l.length + m.length) _ (by omega)).mono ?_
      rintro e w1 ⟨a1, c1, rfl, ho, hb⟩
      have Ho := Lib.hid ho
      have Hb := Lib.hid hb
      have g1 := cells_at ((hb.block _ (heap_lt Hg.out)).trans Hg.out)
      clear ho hb g0
      go_wp2_with fail
      go_loopw [6, 27] (fun s j wr => ∃ (va : Option Addr) (vc : Nat) (v : List Dt), s = .slice va v.length vc ∧ v.length ≤ 2000000 ∧ Hid (OwnD wr w.heap.size va vc v) ∧ Hid (Below w.heap.size w wr) ∧ ((j = .int .i64 0 ∧ Hid (v = [])) ∨ (j = .int .i64 1 ∧ Hid (v = l)) ∨ (j = .int .i64 2 ∧ Hid (v = l ++ m)))) (fun _ j _ => 2 - (intOf j).toNat)
      case atStart => exact ⟨a1, c1, [], rfl, by simp, Ho, Hb, .inl ⟨rfl, Lib.hid rfl⟩⟩
      case round =>
        obtain ⟨va, vc, v, rfl, hv2, Ho2, Hb2, ⟨rfl, hv⟩ | ⟨rfl, hv⟩ | ⟨rfl, hv⟩⟩ := hrel
        · have hz2 := Hb2.out.size
          have hvl : v.length ≤ 0 := by rw [hv.out]; simp
          have g2 := cells_at ((Hb2.out.block _ (heap_lt Hg.out)).trans Hg.out)
          go_wp2_with (at_builtin; go_must (refine wpList_appD rfl _ _ rfl w.heap.size va vc v rfl Ho2.out a c l rfl (Hv.out.below Hb2.out) (by omega) hz2 ?_))
          intro v' a' c' w3 hv' ho3 hb3 _
          have Hv' := Lib.hid hv'
          have hl' : v'.length ≤ 2000000 := by rw [hv']; simp; omega
          have Ho3 := Lib.hid ho3
          have Hb3 := Lib.hid (Hb2.out.trans hb3)
          clear hv' ho3 hb3
          go_wp2_with fail
          go_roundw
          case rel => exact ⟨a', c', v', rfl, hl', Ho3, Hb3, .inr (.inl ⟨by go_num, Lib.hid (by rw [Hv'.out, hv.out]; rfl)⟩)⟩
          case measure => simp [intOf]
        · have hz2 := Hb2.out.size
          have hvl : v.length ≤ l.length := by rw [hv.out]; exact Nat.le_refl _
          have g2 := cells_at ((Hb2.out.block _ (heap_lt Hg.out)).trans Hg.out)
          go_wp2_with (at_builtin; go_must (refine wpList_appD rfl _ _ rfl w.heap.size va vc v rfl Ho2.out b d m rfl (Hu.out.below Hb2.out) (by omega) hz2 ?_))
          intro v' a' c' w3 hv' ho3 hb3 _
          have Hv' := Lib.hid hv'
          have hl' : v'.length ≤ 2000000 := by rw [hv']; simp; omega
          have Ho3 := Lib.hid ho3
          have Hb3 := Lib.hid (Hb2.out.trans hb3)
          clear hv' ho3 hb3
          go_wp2_with fail
          go_roundw
          case rel => exact ⟨a', c', v', rfl, hl', Ho3, Hb3, .inr (.inr ⟨by go_num, Lib.hid (by rw [Hv'.out, hv.out])⟩)⟩
          case measure => simp [intOf]
        · go_wp2_with fail
          go_ret
          exact ⟨va, vc, v, rfl, hv.out, Ho2.out, Hb2.out⟩

end Go.Proofs.YtmabjghjkgicgaaGreat
