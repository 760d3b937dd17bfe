/- fuse.both: the items of two leaves that are no tombs, rising: contract. | fuse.both, whole: contract. | fuse.counter, register, set, log: contracts. | fuse.set, fuse.log: contracts. | The reference's Bury, with a word on an empty row. | varveref04.MayEvent, exact. | What is known in varveref05.Apply. Printed by genapply.py. | The reference's node, Leaf. | Nodes, leaves, rows of leaves in memory of one's own; what is behind a place of a slice. -/
import Derived.Test.YtaandcblndldmaaGreatBatC
import Derived.IntWalk
import Derived.Test.YtaandcblndldmaaGreatRefLA
import Derived.Test.YtaandcblndldmaaGreatMayB
import Derived.Test.YtaandcblndldmaaGreatGraP
import Derived.Test.YtaandcblndldmaaGreatMeanW
/- FuseG -/
/- FuseF -/
namespace Go.Proofs.YtaandcblndldmaaGreat
open Go.RowKit
set_option linter.unusedVariables false
set_option linter.unusedSimpArgs false

end Go.Proofs.YtaandcblndldmaaGreat

/- FuseG -/
namespace Go.Proofs.YtaandcblndldmaaGreat
open Go.RowKit
set_option linter.unusedVariables false
set_option linter.unusedSimpArgs false

end Go.Proofs.YtaandcblndldmaaGreat

/- FuseH -/
namespace Go.Proofs.YtaandcblndldmaaGreat
open Go.RowKit
set_option linter.unusedVariables false
set_option linter.unusedSimpArgs false

end Go.Proofs.YtaandcblndldmaaGreat

/- FuseI -/
namespace Go.Proofs.YtaandcblndldmaaGreat
open Go.RowKit
set_option linter.unusedVariables false
set_option linter.unusedSimpArgs false

theorem ltD_nodup {v : List Dt} (h : v.Pairwise ltD) : v.Nodup := List.Pairwise.imp (S := fun x y => x ≠ y) (fun {x y} (hxy : ltD x y) (e : x = y) => ltD_irrefl x (by rw [← e] at hxy; exact hxy)) h
end Go.Proofs.YtaandcblndldmaaGreat

/- AqA -/
/- AqR -/
namespace Go.Proofs.YtaandcblndldmaaGreat
open Go.RowKit
set_option linter.unusedVariables false
set_option linter.unusedSimpArgs false

end Go.Proofs.YtaandcblndldmaaGreat

/- EvX -/
namespace Go.Proofs.YtaandcblndldmaaGreat
open Go.RowKit
set_option linter.unusedVariables false
set_option linter.unusedSimpArgs false

/-- an event that may be -/
structure MayEvX (v : Ew) : Prop where
  d : may v.e.d = true
  lo : 1 ≤ v.e.t
  hi : v.e.t ≤ 1099511627776
  op : OpP v.e.k v.e.n v.e.x v.pl v.e.ds
set_option maxRecDepth 100000 in
set_option maxHeartbeats 1000000 in
theorem mayEventX_any (v : Ew) (w : World) (h : EwAt w v) :
    Calls Tryz.prog 113 #[.agg #[.int .u8 v.e.d.1.1, .int .u32 v.e.d.1.2, .int .u64 v.e.d.2, .int .u64 v.e.t, .int .u8 v.e.k, .slice v.pa v.pl.length v.pc, .int .i64 v.e.n, .string v.e.x, .slice v.da v.e.ds.length v.dc]] w (IsTo w (MayEvX v)) := by
  have H := Lib.hid h
  clear h
  go_enter Tryz.func113, Tryz.ntmps113
  go_wp2_with fail
  refine (rmay_any v.e.d.1.1 v.e.d.1.2 v.e.d.2 _).mono ?_
  rintro e w1 ⟨rfl, hb1⟩
  have hx0 : EvBlk w1 w.heap.size v := (new1 hb1).1
  have HX := Lib.hid hx0
  have HB := Lib.hid (new1 hb1).2.2
  have d0 := cells_at hx0
  simp only [ecells] at d0
  clear hb1 hx0
  cases hm : may ((v.e.d.1.1, v.e.d.1.2), v.e.d.2) with
  | false =>
    have Hm := Lib.hid (show ¬ MayEvX v from fun hh => by have h1 := hh.d; have h2 : may v.e.d = false := hm; rw [h1] at h2; cases h2)
    clear hm
    go_wp2_with fail
    go_ret
    exact no_name Hm.out HB.out
  | true =>
    have Hm := Lib.hid (show may v.e.d = true from hm)
    clear hm
    by_cases h1 : 1 ≤ v.e.t
    · by_cases h2 : v.e.t ≤ 1099511627776
      · go_wp2_with fail
        refine (mayOpX_any v.e.k v.e.n v.e.x v.pa v.pl v.pc v.da v.e.ds v.dc _ (H.out.below HB.out).pt (H.out.below HB.out).ds).mono ?_
        intro e w2 hto
        obtain ⟨z, rfl, hz, hb⟩ := hto
        have HB2 := Lib.hid (below2 HB.out hb HB.out.size)
        have Hz := Lib.hid hz
        clear hz hb
        go_wp2_with fail
        go_ret
        exact ⟨_, rfl, ⟨fun h => ⟨Hm.out, h1, h2, Hz.out.1 h⟩, fun h => Hz.out.2 h.op⟩, HB2.out⟩
      · have e2 : decide (v.e.t ≤ 1099511627776) = false := by simpa using h2
        have Hn := Lib.hid (show ¬ MayEvX v from fun hh => h2 hh.hi)
        go_wp2_with fail
        all_goals (go_ret; exact ⟨_, rfl, ⟨fun h => (by first | (cases h; done) | (simp at h; done) | (simp at h; omega)), fun h => absurd h Hn.out⟩, HB.out⟩)
    · have e1 : decide (1 ≤ v.e.t) = false := by simpa using h1
      have Hn := Lib.hid (show ¬ MayEvX v from fun hh => h1 hh.lo)
      go_wp2_with fail
      all_goals (go_ret; exact ⟨_, rfl, ⟨fun h => (by first | (cases h; done) | (simp at h; done) | (simp at h; omega)), fun h => absurd h Hn.out⟩, HB.out⟩)
end Go.Proofs.YtaandcblndldmaaGreat

/- AqA -/
namespace Go.Proofs.YtaandcblndldmaaGreat
open Go.RowKit
set_option linter.unusedVariables false
set_option linter.unusedSimpArgs false

end Go.Proofs.YtaandcblndldmaaGreat

/- MeanY -/
/- MeanX -/
namespace Go.Proofs.YtaandcblndldmaaGreat
open Go.RowKit
set_option linter.unusedVariables false
set_option linter.unusedSimpArgs false

end Go.Proofs.YtaandcblndldmaaGreat

/- MeanY -/
namespace Go.Proofs.YtaandcblndldmaaGreat
open Go.RowKit
set_option linter.unusedVariables false
set_option linter.unusedSimpArgs false

theorem Tryz.info_nd : (Tryz.prog.info? 175).map (fun i => (i.zero, i.size, i.bytes)) = some (some (.agg #[.string ⟨#[]⟩, .slice none 0 0, .slice none 0 0]), 3, 64) := by kernel_rfl
theorem Tryz.info_lf : (Tryz.prog.info? 178).map (fun i => (i.zero, i.size, i.bytes)) = some (some (.agg #[.int .u8 0, .int .i64 0, .int .u64 0, .int .u8 0, .int .u32 0, .int .u64 0, .string ⟨#[]⟩, .slice none 0 0, .slice none 0 0]), 9, 104) := by kernel_rfl
theorem ndcells_one (T : List Nd) : ∀ u ∈ T.flatMap ndcell, u.oneCell' = true := by
  intro u hu
  simp only [List.mem_flatMap] at hu
  obtain ⟨x, _, hx⟩ := hu
  simp [ndcell] at hx
  rcases hx with rfl | rfl | rfl <;> rfl
theorem lvcell_one (v : Lv) : ∀ u ∈ lvcell v, u.oneCell' = true := by
  intro u hu
  simp [lvcell, lcells] at hu
  rcases hu with rfl | rfl | rfl | rfl | rfl | rfl | rfl | rfl | rfl <;> rfl
theorem lvcells_one (ls : List Lv) : ∀ u ∈ ls.flatMap lvcell, u.oneCell' = true := by
  intro u hu
  simp only [List.mem_flatMap] at hu
  obtain ⟨x, _, hx⟩ := hu
  exact lvcell_one x u hx
def OwnN (w : World) (base : Nat) (a : Option Addr) (c : Nat) (T : List Nd) : Prop := w.ownsRow base 175 3 (.slice a T.length c) T.length (T.flatMap ndcell)
def OwnF (w : World) (base : Nat) (a : Option Addr) (c : Nat) (ls : List Lv) : Prop := w.ownsRow base 178 9 (.slice a ls.length c) ls.length (ls.flatMap lvcell)
theorem OwnN.nil (w : World) (base : Nat) : OwnN w base none 0 [] := World.ownsRow_nil _ _ _ _
theorem OwnF.nil (w : World) (base : Nat) : OwnF w base none 0 [] := World.ownsRow_nil _ _ _ _
theorem OwnN.sl {w : World} {base : Nat} {a : Option Addr} {c : Nat} {T : List Nd} (h : OwnN w base a c T) : Sl w 3 a T.length c (T.flatMap ndcell) := Sl.of_owns h
theorem OwnF.sl {w : World} {base : Nat} {a : Option Addr} {c : Nat} {T : List Lv} (h : OwnF w base a c T) : Sl w 9 a T.length c (T.flatMap lvcell) := Sl.of_owns h
theorem OwnN.below {w w' : World} {base : Nat} {a : Option Addr} {c : Nat} {T : List Nd} (h : OwnN w base a c T) (hb : Below w.heap.size w w') : OwnN w' base a c T := owns_chg (F := []) h (Chg.of_below hb) (by simp)
theorem OwnF.below {w w' : World} {base : Nat} {a : Option Addr} {c : Nat} {T : List Lv} (h : OwnF w base a c T) (hb : Below w.heap.size w w') : OwnF w' base a c T := owns_chg (F := []) h (Chg.of_below hb) (by simp)
section
variable {w : World} {ops : Array Oper} {rest : List Oper} {o : Oper} {a : Act} {Q : Exit → Act → World → Prop}
theorem wpList_appN (hgd : o.guard = none) (s x : Operand) (ho : o.op = .call { callee := .builtin .append, args := #[s, x], argTypes := #[30, 30] })
    (base : Nat) (va : Option Addr) (vc : Nat) (v : List Nd) (hs : a.eval s = .slice va v.length vc) (hown : OwnN w base va vc v)
    (sa : Option Addr) (c : Nat) (u : List Nd) (hx : a.eval x = .slice sa u.length c) (hsl : Sl w 3 sa u.length c (u.flatMap ndcell)) (hn : v.length + u.length ≤ 3000000) (hbase : base ≤ w.heap.size)
    (h : ∀ v' a' c' w', v' = v ++ u → OwnN w' base a' c' v' → Below base w w' → Chg (ob va) w w' → (∀ k ∈ ob a', k ∈ ob va ∨ w.heap.size ≤ k) → wpList Tryz.prog ops Q rest (a.put o.dst (.slice a' (List.length v') c')) w') : wpList Tryz.prog ops Q (o :: rest) a w := by
  obtain ⟨i0, hi0, hz0, hz1, hz2⟩ := info_parts Tryz.info_nd
  refine wpList_append_sl hgd s x 30 ho base 175 i0 (.agg #[.string ⟨#[]⟩, .slice none 0 0, .slice none 0 0]) 3 64 Tryz.underlying30 hi0 hz0 hz1 hz2 rfl (by decide) va v.length vc (v.flatMap ndcell) hs hown sa u.length c (u.flatMap ndcell) hx hsl (ndcells_one u) (by unfold maxLen; omega) (by omega) hbase fun a' c' w' h1 h2 h3 => ?_
  have := h (v ++ u) a' c' w' rfl (by unfold OwnN; rw [List.flatMap_append, List.length_append]; exact h1) (h2.below hbase fun k hk => (owns_lt hown k hk).1) h2 h3
  rwa [List.length_append] at this
theorem wpList_appF (hgd : o.guard = none) (s x : Operand) (ho : o.op = .call { callee := .builtin .append, args := #[s, x], argTypes := #[173, 173] })
    (base : Nat) (va : Option Addr) (vc : Nat) (v : List Lv) (hs : a.eval s = .slice va v.length vc) (hown : OwnF w base va vc v)
    (sa : Option Addr) (c : Nat) (u : List Lv) (hx : a.eval x = .slice sa u.length c) (hsl : Sl w 9 sa u.length c (u.flatMap lvcell)) (hn : v.length + u.length ≤ 3000000) (hbase : base ≤ w.heap.size)
    (h : ∀ v' a' c' w', v' = v ++ u → OwnF w' base a' c' v' → Below base w w' → Chg (ob va) w w' → (∀ k ∈ ob a', k ∈ ob va ∨ w.heap.size ≤ k) → wpList Tryz.prog ops Q rest (a.put o.dst (.slice a' (List.length v') c')) w') : wpList Tryz.prog ops Q (o :: rest) a w := by
  obtain ⟨i0, hi0, hz0, hz1, hz2⟩ := info_parts Tryz.info_lf
  refine wpList_append_sl hgd s x 173 ho base 178 i0 (.agg #[.int .u8 0, .int .i64 0, .int .u64 0, .int .u8 0, .int .u32 0, .int .u64 0, .string ⟨#[]⟩, .slice none 0 0, .slice none 0 0]) 9 104 Tryz.underlying173 hi0 hz0 hz1 hz2 rfl (by decide) va v.length vc (v.flatMap lvcell) hs hown sa u.length c (u.flatMap lvcell) hx hsl (lvcells_one u) (by unfold maxLen; omega) (by omega) hbase fun a' c' w' h1 h2 h3 => ?_
  have := h (v ++ u) a' c' w' rfl (by unfold OwnF; rw [List.flatMap_append, List.length_append]; exact h1) (h2.below hbase fun k hk => (owns_lt hown k hk).1) h2 h3
  rwa [List.length_append] at this
end
theorem slice_loN (oa : Option Addr) (n oc j : Nat) (hj : j ≤ n) (hn : n ≤ oc) (W : World) : (Instr.sliceAt 30 (.slice oa n oc) (some (.int .i64 (j : Int))) none none).run Tryz.prog W = .ok (.slice (if oc = j then oa else oa.map (·.add (j * 3))) (n - j) (oc - j)) W := by
  simp [go_sem, Instr.sliceAt, Instr.slice, run_underlying Tryz.underlying30]
  intro h; omega
theorem slice_loF (oa : Option Addr) (n oc j : Nat) (hj : j ≤ n) (hn : n ≤ oc) (W : World) : (Instr.sliceAt 173 (.slice oa n oc) (some (.int .i64 (j : Int))) none none).run Tryz.prog W = .ok (.slice (if oc = j then oa else oa.map (·.add (j * 9))) (n - j) (oc - j)) W := by
  simp [go_sem, Instr.sliceAt, Instr.slice, run_underlying Tryz.underlying173]
  intro h; omega
theorem slice_loS (oa : Option Addr) (n oc j : Nat) (hj : j ≤ n) (hn : n ≤ oc) (W : World) : (Instr.sliceAt 50 (.slice oa n oc) (some (.int .i64 (j : Int))) none none).run Tryz.prog W = .ok (.slice (if oc = j then oa else oa.map (·.add (j * 1))) (n - j) (oc - j)) W := by
  simp [go_sem, Instr.sliceAt, Instr.slice, run_underlying Tryz.underlying50]
  intro h; omega
theorem slice_hiS (oa : Option Addr) (n oc j : Nat) (hj : j ≤ oc) (W : World) : (Instr.sliceAt 50 (.slice oa n oc) none (some (.int .i64 (j : Int))) none).run Tryz.prog W = .ok (.slice oa j oc) W := by
  simp [go_sem, Instr.sliceAt, Instr.slice, run_underlying Tryz.underlying50]
  omega
end Go.Proofs.YtaandcblndldmaaGreat
