/- slices.Grow of nothing, slices.Concat, Contains, Clone at dots and items: contracts. | slices.Concat of two slices, at dots and at items; slices.Contains at dots; slices.Clone at items: contracts. | Sorting dots, items: slices.SortFunc, by the shelf's contract. | slices.Compact of sorted dots: contract. | slices.Compact of sorted dots: the walk. | batch.both; slices.Clone of dots. | Strings, operations in memory of one's own; Clone of strings. | batch.own. | slices.Equal of strings. | what batch asks of an operation that waits: add$1, set$1, put$1, drop$1. | drop$1. | like$1, for each question. (printed by wip/tools/genlike.py) -/
import Derived.Test.YtaandcblndldmaaGreatRefLA
import Derived.Test.YtaandcblndldmaaGreatShelf
import Derived.Laws.OwnMore
import Derived.Deep.CutBlock
import Derived.Test.YtaandcblndldmaaGreatBatA
/- FuseA -/
/- FuseA -/
namespace Go.Proofs.YtaandcblndldmaaGreat
open Go.RowKit
set_option linter.unusedVariables false
set_option linter.unusedSimpArgs false

section
variable {P : Program}
/-- append(nil, make(n)...): n zero values in a new row -/
theorem run_append_make (w : World) (t u ty e : TypeId) (q : IntKind) (i : TypeInfo) (z : Value) (ht : P.underlying t = some (.slice e)) (hu : P.underlying u = some (.int q)) (hi : P.info? e = some i) (hz : i.zero = some z) (hzs : z.cells.size = i.size) (hsz : 0 < i.size)
    (n : Nat) (h0 : 0 < n) (h63 : n ≤ 1000000000) (h48 : n * i.bytes ≤ 140737488355328) :
    ∃ w', (Builtin.append_ #[t, u] ty #[.slice none 0 0, .int .i64 (n : Int)]).run P w = .ok (.slice (some ⟨w.heap.size, 0, none⟩) n (grownCap w n 0 e)) w' ∧
      w'.ownsRow w.heap.size e i.size (.slice (some ⟨w.heap.size, 0, none⟩) 0 (grownCap w n 0 e)) 0 [] ∧ Below w.heap.size w w' ∧ n ≤ grownCap w n 0 e := by
  have hn : n ≠ 0 := by omega
  have hw : IntKind.i64.wrap (n : Int) = n := by simp [IntKind.wrap, IntKind.signed, IntKind.bits]; omega
  have h48a : ¬ (281474976710656 < (n : Int) * (i.bytes : Int)) := by omega
  have h48' : ¬ (281474976710656 < Builtin.nextslicecap n 0 * i.bytes) := by rw [nextslicecap_zero h0]; omega
  have h63' : ¬ (9223372036854775807 < (n : Int)) := by omega
  refine ⟨w.drew.alloc (.cells (Builtin.zeroCells z.cells n ++ Builtin.zeroCells z.cells (grownCap w n 0 e - n)) e), ?_, ?_, ?_, grownCap_ge w n 0 e⟩
  · simp [Builtin.append_, run_underlying ht, run_underlying hu, sizeOf, typeInfo, zeroValue, hi, hz, hn, hw, h48a, h48', h63', asInt, asIntOf, Question.forced, run_firstCells_none, newRow, grownCap]
    rw [if_neg (by omega), if_neg (Nat.mul_ne_zero (by omega) (by omega))]
  · have hge := grownCap_ge w n 0 e
    have hcm := grownCap_le_maxLen w n 0 e (by unfold maxLen; omega)
    refine ⟨by simp, .inr ⟨w.heap.size, _, _, rfl, Nat.le_refl _, heap_alloc_new w.drew _, Nat.zero_le _, hcm, ?_, by simp⟩⟩
    simp only [Array.size_append, size_zeroCells, hzs, ← Nat.add_mul]
    congr 1
    omega
  · exact (Below.refl _ _).drew.alloc (Nat.le_refl _) _
end
section
variable {w : World} {ops : Array Oper} {rest : List Oper} {o : Oper} {a : Act} {Q : Exit → Act → World → Prop}
end
theorem slice_hiI (oa : Option Addr) (n oc j : Nat) (hj : j ≤ oc) (W : World) : (Instr.sliceAt 176 (.slice oa n oc) none (some (.int .i64 (j : Int))) none).run Tryz.prog W = .ok (.slice oa j oc) W := by
  simp [go_sem, Instr.sliceAt, Instr.slice, run_underlying Tryz.underlying176]
  omega
theorem slice_hiD (oa : Option Addr) (n oc j : Nat) (hj : j ≤ oc) (W : World) : (Instr.sliceAt 27 (.slice oa n oc) none (some (.int .i64 (j : Int))) none).run Tryz.prog W = .ok (.slice oa j oc) W := by
  simp [go_sem, Instr.sliceAt, Instr.slice, run_underlying Tryz.underlying27]
  omega

end Go.Proofs.YtaandcblndldmaaGreat

/- FuseB -/
namespace Go.Proofs.YtaandcblndldmaaGreat
open Go.RowKit
set_option linter.unusedVariables false
set_option linter.unusedSimpArgs false

set_option maxRecDepth 100000 in
set_option maxHeartbeats 1000000 in
theorem cloneI_any (a : Option Addr) (c : Nat) (l : List It) (w : World) (hv : Its w a c l) (hn : l.length ≤ 1100000) :
    Calls Tryz.prog 193 #[.slice a l.length c] w fun e w' => ∃ a' c' v', e = .returned (.slice a' v'.length c') ∧ v' = l ∧ OwnI w' w.heap.size a' c' v' ∧ Below w.heap.size w w' := by
  have Hv := Lib.hid hv
  have heq := fun (w : World) (a : Option Addr) (n c : Nat) => Lib.run_eql_slice_nil (P := Tryz.prog) w 176 180 a n c 0 0 Tryz.underlying176
  cases a with
  | none =>
    obtain ⟨h1, h2, h3, ⟨_, h4, h5⟩ | ⟨b, hb, _⟩⟩ := hv
    · subst h5
      obtain rfl : l = [] := List.eq_nil_of_length_eq_zero h4
      clear h1 h2 h3 h4 Hv
      go_enter Tryz.func193, Tryz.ntmps193
      go_wp2_with fail
      go_ret
      exact ⟨none, 0, [], rfl, rfl, OwnI.nil _ _, Below.refl _ _⟩
    · cases hb
  | some ad =>
    clear hv
    go_enter Tryz.func193, Tryz.ntmps193
    go_wp2_with (at_builtin; go_must (refine wpList_appI rfl _ _ rfl w.heap.size (some ⟨w.heap.size, 0, none⟩) 0 [] rfl (OwnI.made w (Nat.le_refl _)) (some ad) c l rfl (Hv.out.below ((Below.refl _ _).alloc (Nat.le_refl _) _)) ?n1 ?b1 ?_))
    case n1 => simp; omega
    case b1 => simp
    intro v' a' c' w2 hv' ho2 hb2 _
    have Hv' := Lib.hid hv'
    have HB2 : Hid (Below w.heap.size w w2) := Lib.hid (((Below.refl _ _).alloc (Nat.le_refl _) _).trans hb2)
    have Ho2 := Lib.hid ho2
    clear hv' ho2 hb2
    go_wp2_with fail
    go_ret
    exact ⟨a', c', v', rfl, by rw [Hv'.out], Ho2.out, HB2.out⟩
end Go.Proofs.YtaandcblndldmaaGreat

/- FuseC -/
namespace Go.Proofs.YtaandcblndldmaaGreat
open Go.RowKit Go.Shelf
set_option linter.unusedVariables false
set_option linter.unusedSimpArgs false

/-! which is ahead, once more: blocks and draws came, nothing else -/
/-! sorting nothing -/
/-! sorting dots -/
theorem ltD_of (a b : Dt) : ltOf cmpDD a b = lessD a b := by
  unfold ltOf
  rw [Bool.eq_iff_iff, decide_eq_true_iff, cmpDD_eq, cmpD_neg]
/-! sorting items -/
instance : Inhabited It := ⟨⟨0, noDot, ByteArray.empty⟩⟩
end Go.Proofs.YtaandcblndldmaaGreat

/- FuseD -/
namespace Go.Proofs.YtaandcblndldmaaGreat
open Go.RowKit
set_option linter.unusedVariables false
set_option linter.unusedSimpArgs false

/-! the plain law -/
end Go.Proofs.YtaandcblndldmaaGreat

/- FuseE -/
namespace Go.Proofs.YtaandcblndldmaaGreat
open Go.RowKit
set_option linter.unusedVariables false
set_option linter.unusedSimpArgs false

end Go.Proofs.YtaandcblndldmaaGreat

/- BatC -/
/- BatC -/
namespace Go.Proofs.YtaandcblndldmaaGreat
open Go.RowKit
set_option linter.unusedVariables false
set_option linter.unusedSimpArgs false

set_option maxRecDepth 100000 in
set_option maxHeartbeats 1000000 in
theorem cloneD_any (a : Option Addr) (c : Nat) (l : List Dt) (w : World) (hv : Vec w a c l) (hn : l.length ≤ 1100000) :
    Calls Tryz.prog 36 #[.slice a l.length c] w fun e w' => ∃ a' c' v', e = .returned (.slice a' (List.length v') c') ∧ v' = l ∧ OwnD w' w.heap.size a' c' v' ∧ Below w.heap.size w w' := by
  have Hv := Lib.hid hv
  have heq := fun (w : World) (a : Option Addr) (n c : Nat) => Lib.run_eql_slice_nil (P := Tryz.prog) w 27 49 a n c 0 0 Tryz.underlying27
  cases a with
  | none =>
    obtain ⟨h1, h2, h3, ⟨_, h4, h5⟩ | ⟨b, hb, _⟩⟩ := hv
    · subst h5
      obtain rfl : l = [] := List.eq_nil_of_length_eq_zero h4
      clear h1 h2 h3 h4 Hv
      go_enter Tryz.func36, Tryz.ntmps36
      go_wp2_with fail
      go_ret
      exact ⟨none, 0, [], rfl, rfl, OwnD.nil _ _, Below.refl _ _⟩
    · cases hb
  | some ad =>
    clear hv
    go_enter Tryz.func36, Tryz.ntmps36
    go_wp2_with (at_builtin; go_must (refine wpList_appD rfl _ _ rfl w.heap.size (some ⟨w.heap.size, 0, none⟩) 0 [] rfl (OwnD.made w (Nat.le_refl _)) (some ad) c l rfl (Hv.out.below ((Below.refl _ _).alloc (Nat.le_refl _) _)) ?n1 ?b1 ?_))
    case n1 => simp; omega
    case b1 => simp
    intro v' a' c' w2 hv' ho2 hb2 _
    have Hv' := Lib.hid hv'
    have HB2 : Hid (Below w.heap.size w w2) := Lib.hid (((Below.refl _ _).alloc (Nat.le_refl _) _).trans hb2)
    have Ho2 := Lib.hid ho2
    clear hv' ho2 hb2
    go_wp2_with fail
    go_ret
    exact ⟨a', c', v', rfl, by rw [Hv'.out], Ho2.out, HB2.out⟩
end Go.Proofs.YtaandcblndldmaaGreat

/- BatD -/
namespace Go.Proofs.YtaandcblndldmaaGreat
open Go.RowKit
set_option linter.unusedVariables false
set_option linter.unusedSimpArgs false

theorem Tryz.info_str : (Tryz.prog.info? 9).map (fun i => (i.zero, i.size, i.bytes)) = some (some (.string ⟨#[]⟩), 1, 16) := by kernel_rfl
theorem scells_one (l : List ByteArray) : ∀ u ∈ scells l, u.oneCell' = true := by
  intro u hu
  simp only [scells, List.mem_map] at hu
  obtain ⟨x, _, rfl⟩ := hu
  rfl
theorem scells_append (l m : List ByteArray) : scells (l ++ m) = scells l ++ scells m := by simp [scells]
/-- strings in memory of one's own -/
def OwnS (w : World) (base : Nat) (a : Option Addr) (c : Nat) (v : List ByteArray) : Prop := w.ownsRow base 9 1 (.slice a v.length c) v.length (scells v)
theorem OwnS.strs {w : World} {base : Nat} {a : Option Addr} {c : Nat} {v : List ByteArray} (h : OwnS w base a c v) : Strs w a c v := Sl.of_owns h
theorem OwnS.nil (w : World) (base : Nat) : OwnS w base none 0 [] := World.ownsRow_nil _ _ _ _
theorem OwnS.made (w : World) {base : Nat} (h : base ≤ w.heap.size) : OwnS (w.alloc (.cells #[] 9)) base (some ⟨w.heap.size, 0, none⟩) 0 [] := World.ownsRow_made w #[] 0 h (by decide) rfl
theorem OwnS.base {w : World} {base base' : Nat} {a : Option Addr} {c : Nat} {v : List ByteArray} (h : OwnS w base a c v) (hb : base' ≤ base) : OwnS w base' a c v := owns_base h hb
theorem OwnS.below {w w' : World} {base : Nat} {a : Option Addr} {c : Nat} {v : List ByteArray} (h : OwnS w base a c v) (hb : Below w.heap.size w w') : OwnS w' base a c v := owns_chg (F := []) h (Chg.of_below hb) (by simp)
section
variable {w : World} {ops : Array Oper} {rest : List Oper} {o : Oper} {a : Act} {Q : Exit → Act → World → Prop}
theorem wpList_appS (hgd : o.guard = none) (s x : Operand) (ho : o.op = .call { callee := .builtin .append, args := #[s, x], argTypes := #[50, 50] })
    (base : Nat) (va : Option Addr) (vc : Nat) (v : List ByteArray) (hs : a.eval s = .slice va v.length vc) (hown : OwnS w base va vc v)
    (sa : Option Addr) (c : Nat) (u : List ByteArray) (hx : a.eval x = .slice sa u.length c) (hsl : Strs w sa c u) (hn : v.length + u.length ≤ 3000000) (hbase : base ≤ w.heap.size)
    (h : ∀ v' a' c' w', v' = v ++ u → OwnS w' base a' c' v' → Below base w w' → Chg (ob va) w w' → wpList Tryz.prog ops Q rest (a.put o.dst (.slice a' (List.length v') c')) w') : wpList Tryz.prog ops Q (o :: rest) a w := by
  obtain ⟨i0, hi0, hz0, hz1, hz2⟩ := info_parts Tryz.info_str
  refine wpList_append_sl hgd s x 50 ho base 9 i0 (.string ⟨#[]⟩) 1 16 Tryz.underlying50 hi0 hz0 hz1 hz2 rfl (by decide) va v.length vc (scells v) hs hown sa u.length c (scells u) hx hsl (scells_one u) (by unfold maxLen; omega) (by omega) hbase fun a' c' w' h1 h2 h3 => ?_
  have := h (v ++ u) a' c' w' rfl (by unfold OwnS; rw [scells_append, List.length_append]; exact h1) (h2.below hbase fun k hk => (owns_lt hown k hk).1) h2
  rwa [List.length_append] at this
end
set_option maxRecDepth 100000 in
set_option maxHeartbeats 1000000 in
theorem cloneS_any (a : Option Addr) (c : Nat) (l : List ByteArray) (w : World) (hv : Strs w a c l) (hn : l.length ≤ 1100000) :
    Calls Tryz.prog 38 #[.slice a l.length c] w fun e w' => ∃ a' c' v', e = .returned (.slice a' (List.length v') c') ∧ v' = l ∧ OwnS w' w.heap.size a' c' v' ∧ Below w.heap.size w w' := by
  have Hv := Lib.hid hv
  have heq := fun (w : World) (a : Option Addr) (n c : Nat) => Lib.run_eql_slice_nil (P := Tryz.prog) w 50 9 a n c 0 0 Tryz.underlying50
  cases a with
  | none =>
    obtain ⟨h1, h2, h3, ⟨_, h4, h5⟩ | ⟨b, hb, _⟩⟩ := hv
    · subst h5
      obtain rfl : l = [] := List.eq_nil_of_length_eq_zero h4
      clear h1 h2 h3 h4 Hv
      go_enter Tryz.func38, Tryz.ntmps38
      go_wp2_with fail
      go_ret
      exact ⟨none, 0, [], rfl, rfl, OwnS.nil _ _, Below.refl _ _⟩
    · cases hb
  | some ad =>
    clear hv
    go_enter Tryz.func38, Tryz.ntmps38
    go_wp2_with (at_builtin; go_must (refine wpList_appS rfl _ _ rfl w.heap.size (some ⟨w.heap.size, 0, none⟩) 0 [] rfl (OwnS.made w (Nat.le_refl _)) (some ad) c l rfl (Hv.out.below ((Below.refl _ _).alloc (Nat.le_refl _) _)) ?n1 ?b1 ?_))
    case n1 => simp; omega
    case b1 => simp
    intro v' a' c' w2 hv' ho2 hb2 _
    have Hv' := Lib.hid hv'
    have HB2 : Hid (Below w.heap.size w w2) := Lib.hid (((Below.refl _ _).alloc (Nat.le_refl _) _).trans hb2)
    have Ho2 := Lib.hid ho2
    clear hv' ho2 hb2
    go_wp2_with fail
    go_ret
    exact ⟨a', c', v', rfl, by rw [Hv'.out], Ho2.out, HB2.out⟩
end Go.Proofs.YtaandcblndldmaaGreat

/- BatE -/
namespace Go.Proofs.YtaandcblndldmaaGreat
open Go.RowKit
set_option linter.unusedVariables false
set_option linter.unusedSimpArgs false

theorem Chg.put {F : List Nat} {a b : World} (h : Chg F a b) (p : Addr) (v : Value) (hp : p.block ∈ F) : Chg F a (b.setCell p v) := h.trans (Chg.setCell b p v) (fun x hx _ => by
  obtain rfl : x = p.block := by simpa using hx
  exact hp)
end Go.Proofs.YtaandcblndldmaaGreat

/- BatF -/
namespace Go.Proofs.YtaandcblndldmaaGreat
open Go.RowKit
set_option linter.unusedVariables false
set_option linter.unusedSimpArgs false

end Go.Proofs.YtaandcblndldmaaGreat

/- BatG -/
namespace Go.Proofs.YtaandcblndldmaaGreat
open Go.RowKit
set_option linter.unusedVariables false
set_option linter.unusedSimpArgs false

end Go.Proofs.YtaandcblndldmaaGreat

/- BatH -/
namespace Go.Proofs.YtaandcblndldmaaGreat
open Go.RowKit
set_option linter.unusedVariables false
set_option linter.unusedSimpArgs false

end Go.Proofs.YtaandcblndldmaaGreat

/- BatI -/
namespace Go.Proofs.YtaandcblndldmaaGreat
open Go.RowKit
set_option linter.unusedVariables false
set_option linter.unusedSimpArgs false

end Go.Proofs.YtaandcblndldmaaGreat
