/- slices.Grow of nothing, slices.Concat, Contains, Clone at dots and items: contracts. | slices.Concat of two slices, at dots and at items; slices.Contains at dots; slices.Clone at items: contracts. | Sorting dots, items: slices.SortFunc, by the shelf's contract. | slices.Compact of sorted dots: contract. | slices.Compact of sorted dots: the walk. -/
import Derived.Test.YthdmoplclllhjaaGreatRefLA
import Derived.Test.YthdmoplclllhjaaGreatShelf
import Derived.Laws.OwnMore
import Derived.Deep.CutBlock
/- FuseA -/
namespace Go.Proofs.YthdmoplclllhjaaGreat
open Go.RowKit
set_option linter.unusedVariables false
set_option linter.unusedSimpArgs false

section
variable {P : Program}
end
section
variable {w : World} {ops : Array Oper} {rest : List Oper} {o : Oper} {a : Act} {Q : Exit → Act → World → Prop}
end
theorem slice_hiI (oa : Option Addr) (n oc j : Nat) (hj : j ≤ oc) (W : World) : (Instr.sliceAt 155 (.slice oa n oc) none (some (.int .i64 (j : Int))) none).run Tryz.prog W = .ok (.slice oa j oc) W := by
  simp [go_sem, Instr.sliceAt, Instr.slice, run_underlying Tryz.underlying155]
  omega
theorem slice_hiD (oa : Option Addr) (n oc j : Nat) (hj : j ≤ oc) (W : World) : (Instr.sliceAt 23 (.slice oa n oc) none (some (.int .i64 (j : Int))) none).run Tryz.prog W = .ok (.slice oa j oc) W := by
  simp [go_sem, Instr.sliceAt, Instr.slice, run_underlying Tryz.underlying23]
  omega

end Go.Proofs.YthdmoplclllhjaaGreat

/- FuseB -/
namespace Go.Proofs.YthdmoplclllhjaaGreat
open Go.RowKit
set_option linter.unusedVariables false
set_option linter.unusedSimpArgs false

set_option maxRecDepth 100000 in
set_option maxHeartbeats 1000000 in
theorem cloneI_any (a : Option Addr) (c : Nat) (l : List It) (w : World) (hv : Its w a c l) (hn : l.length ≤ 1100000) :
    Calls Tryz.prog 172 #[.slice a l.length c] w fun e w' => ∃ a' c' v', e = .returned (.slice a' v'.length c') ∧ v' = l ∧ OwnI w' w.heap.size a' c' v' ∧ Below w.heap.size w w' := by
  have Hv := Lib.hid hv
  have heq := fun (w : World) (a : Option Addr) (n c : Nat) => Lib.run_eql_slice_nil (P := Tryz.prog) w 155 197 a n c 0 0 Tryz.underlying155
  cases a with
  | none =>
    obtain ⟨h1, h2, h3, ⟨_, h4, h5⟩ | ⟨b, hb, _⟩⟩ := hv
    · subst h5
      obtain rfl : l = [] := List.eq_nil_of_length_eq_zero h4
      clear h1 h2 h3 h4 Hv
      go_enter Tryz.func172, Tryz.ntmps172
      go_wp2_with fail
      go_ret
      exact ⟨none, 0, [], rfl, rfl, OwnI.nil _ _, Below.refl _ _⟩
    · cases hb
  | some ad =>
    clear hv
    go_enter Tryz.func172, Tryz.ntmps172
    go_wp2_with (at_builtin; go_must (refine wpList_appI rfl _ _ rfl w.heap.size (some ⟨w.heap.size, 0, none⟩) 0 [] rfl (OwnI.made w (Nat.le_refl _)) (some ad) c l rfl (Hv.out.below ((Below.refl _ _).alloc (Nat.le_refl _) _)) ?n1 ?b1 ?_))
    case n1 => simp; omega
    case b1 => simp
    intro v' a' c' w2 hv' ho2 hb2 _
    have Hv' := Lib.hid hv'
    have HB2 : Hid (Below w.heap.size w w2) := Lib.hid (((Below.refl _ _).alloc (Nat.le_refl _) _).trans hb2)
    have Ho2 := Lib.hid ho2
    clear hv' ho2 hb2
    go_wp2_with fail
    go_ret
    exact ⟨a', c', v', rfl, by rw [Hv'.out], Ho2.out, HB2.out⟩
end Go.Proofs.YthdmoplclllhjaaGreat

/- FuseC -/
namespace Go.Proofs.YthdmoplclllhjaaGreat
open Go.RowKit Go.Shelf
set_option linter.unusedVariables false
set_option linter.unusedSimpArgs false

/-! which is ahead, once more: blocks and draws came, nothing else -/
/-! sorting nothing -/
/-! sorting dots -/
theorem ltD_of (a b : Dt) : ltOf cmpDD a b = lessD a b := by
  unfold ltOf
  rw [Bool.eq_iff_iff, decide_eq_true_iff, cmpDD_eq, cmpD_neg]
/-! sorting items -/
instance : Inhabited It := ⟨⟨0, noDot, ByteArray.empty⟩⟩
end Go.Proofs.YthdmoplclllhjaaGreat

/- FuseD -/
namespace Go.Proofs.YthdmoplclllhjaaGreat
open Go.RowKit
set_option linter.unusedVariables false
set_option linter.unusedSimpArgs false

theorem setCells_block (b : Nat) (t : TypeId) : ∀ (vs : List Value) (o : Nat) (w : World) (cur : Array Value), w.heap[b]? = some (.cells cur t (0, 0)) → o + vs.length ≤ cur.size →
    ∃ cur', (w.setCells b o vs).heap[b]? = some (.cells cur' t (0, 0)) ∧ cur'.size = cur.size ∧ cur'.toList.take o = cur.toList.take o
  | [], o, w, cur, h, _ => ⟨cur, h, rfl, rfl⟩
  | v :: vs, o, w, cur, h, ho => by
    simp only [List.length_cons] at ho
    obtain ⟨cur', h1, h2, h3⟩ := setCells_block b t vs (o + 1) (w.setCell ⟨b, o, none⟩ v) (cur.setIfInBounds o v) (heap_setCell_same w b o cur t v h) (by simp; omega)
    refine ⟨cur', h1, by simpa using h2, ?_⟩
    have h4 := congrArg (List.take o) h3
    rw [List.take_take, List.take_take, Nat.min_eq_left (by omega), Array.toList_setIfInBounds, List.take_set_of_le (by omega)] at h4
    exact h4
theorem Chg.setCells (b : Nat) : ∀ (vs : List Value) (o : Nat) (w : World), Chg [b] w (w.setCells b o vs)
  | [], o, w => Chg.refl _ _
  | v :: vs, o, w => (Chg.setCell w ⟨b, o, none⟩ v).trans (Chg.setCells b vs (o + 1) _) (by simp)
theorem zeroCells_mem {z : Array Value} (hz : 0 < z.size) {n : Nat} {u : Value} (h : u ∈ (Builtin.zeroCells z n).toList) : u ∈ z.toList := by
  simp only [Builtin.zeroCells, Array.toList_map, List.mem_map] at h
  obtain ⟨i, _, rfl⟩ := h
  have hlt : i % z.size < z.size := Nat.mod_lt _ hz
  rw [getElem!_pos z _ hlt]
  exact Array.getElem_mem_toList hlt
/-! the plain law -/
end Go.Proofs.YthdmoplclllhjaaGreat

/- FuseE -/
namespace Go.Proofs.YthdmoplclllhjaaGreat
open Go.RowKit
set_option linter.unusedVariables false
set_option linter.unusedSimpArgs false

theorem chg_drew {F : List Nat} {w w' : World} (h : Chg F w w') : Chg F w w'.drew := h.trans (Chg.drew [] _) (by simp)
theorem wpList_clear_run {w w' : World} {ops : Array Oper} {rest : List Oper} {o : Oper} {a : Act} {Q : Exit → Act → World → Prop} (hgd : o.guard = none) (x : Operand) (t : TypeId)
    (ho : o.op = .call { callee := .builtin .clear, args := #[x], argTypes := #[t] }) (v : Value)
    (hrun : (Builtin.clear_ #[t] o.type #[a.eval x]).run Tryz.prog w = .ok v w')
    (h : wpList Tryz.prog ops Q rest (a.put o.dst v) w') : wpList Tryz.prog ops Q (o :: rest) a w := by
  refine wpList_plain hgd fun K hK => ?_
  unfold Oper.wp
  simp [execOp, ho, resolve, invoke, builtin, hrun, Result.andThen]
  exact hK _ _ h
theorem OwnD.form {w : World} {base c : Nat} {a : Option Addr} {v : List Dt} (h : OwnD w base a c v) (hv : v ≠ []) : ∃ g, a = some ⟨g, 0, none⟩ ∧ base ≤ g ∧ g < w.heap.size := by
  rcases h.2 with ⟨h1, h2⟩ | ⟨g, cap, cur, h1, hb, hg, _⟩
  · simp at h1; exact absurd h1.2.1 hv
  · simp at h1; exact ⟨g, h1.1, hb, heap_lt hg⟩
end Go.Proofs.YthdmoplclllhjaaGreat
