/- graph.none, Has, Time: contracts. -/
import Derived.Test.YthdmoplclllhjaaGreatGraC
namespace Go.Proofs.YthdmoplclllhjaaGreat
open Go.RowKit
set_option linter.unusedVariables false
set_option linter.unusedSimpArgs false

@[go_sem] theorem eql_map_none (w : World) : (binOp .eql 77 (.map none) (.map none)).run Tryz.prog w = .ok (.bool true) w := by kernel_rfl
@[go_sem] theorem eql_map_some (mb : Nat) (w : World) : (binOp .eql 77 (.map (some mb)) (.map none)).run Tryz.prog w = .ok (.bool false) w := by kernel_rfl
theorem none_nil (w : World) : Calls Tryz.prog 72 #[.pointer none] w fun e w' => e = .returned (.bool true) ∧ w' = w := by
  go_enter Tryz.func72, Tryz.ntmps72
  go_wp2_with fail
  go_ret
  exact ⟨rfl, rfl⟩
set_option maxRecDepth 100000 in
theorem none_zero (pg : Nat) (w : World) (h : w.cell? ⟨pg, 5, none⟩ = some (.map none)) : Calls Tryz.prog 72 #[.pointer (some ⟨pg, 0, none⟩)] w fun e w' => e = .returned (.bool true) ∧ w' = w := by
  go_enter Tryz.func72, Tryz.ntmps72
  go_wp2_with fail
  go_ret
  exact ⟨rfl, rfl⟩
set_option maxRecDepth 100000 in
theorem none_some (pg mb : Nat) (w : World) (h : w.cell? ⟨pg, 5, none⟩ = some (.map (some mb))) : Calls Tryz.prog 72 #[.pointer (some ⟨pg, 0, none⟩)] w fun e w' => e = .returned (.bool false) ∧ w' = w := by
  go_enter Tryz.func72, Tryz.ntmps72
  go_wp2_with fail
  go_ret
  exact ⟨rfl, rfl⟩
/-- a commit that is none -/
def zeroCw : Cw := ⟨zeroC, none, 0, none, 0, none, 0, none, 0⟩
theorem zeroCommit (w : World) : (zeroValue 46).run Tryz.prog w = .ok (.agg #[.int .u8 0, .int .u32 0, .int .u64 0, .slice none 0 0, .slice none 0 0, .int .u64 0, .int .u8 0, .slice none 0 0, .int .i64 0, .string ⟨#[]⟩, .slice none 0 0]) w := by kernel_rfl
theorem GrAt.look2 {w W : World} {pg mb : Nat} {w0 : World} {m : Nat} {b : Bw} {L : List Cw} {va : Option Addr} {vc : Nat} {vv : List Dt} (h : GrAt w pg mb w0 m b L va vc vv) (hb : Below w.heap.size w W) {r i s : Int} (hd : okD ((r, i), s)) :
    (Instr.lookup 77 (.map (some mb)) (.agg #[.int .u8 r, .int .u32 i, .int .u64 s]) true).run Tryz.prog W = .ok (.tuple #[(fvW L ((r, i), s)).getD (cwv zeroCw), .bool (fvW L ((r, i), s)).isSome]) W :=
  (h.below hb).map.look2 Tryz.underlying77 zeroCommit hd
theorem GrAt.no2 {w W : World} {pg mb : Nat} {w0 : World} {m : Nat} {b : Bw} {L : List Cw} {va : Option Addr} {vc : Nat} {vv : List Dt} (h : GrAt w pg mb w0 m b L va vc vv) (hb : Below w.heap.size w W) {r i s : Int} (hd : okD ((r, i), s)) (hf : fdW L ((r, i), s) = none) :
    (Instr.lookup 77 (.map (some mb)) (.agg #[.int .u8 r, .int .u32 i, .int .u64 s]) true).run Tryz.prog W = .ok (.tuple #[.agg (ccells 0 0 0 none 0 0 none 0 0 0 0 none 0 0 0 ⟨#[]⟩ none 0 0), .bool false]) W := by
  rw [h.look2 hb hd, fvW, hf]; rfl
theorem GrAt.yes2 {w W : World} {pg mb : Nat} {w0 : World} {m : Nat} {b : Bw} {L : List Cw} {va : Option Addr} {vc : Nat} {vv : List Dt} (h : GrAt w pg mb w0 m b L va vc vv) (hb : Below w.heap.size w W) {r i s : Int} (hd : okD ((r, i), s)) {v : Cw} (hf : fdW L ((r, i), s) = some v) :
    (Instr.lookup 77 (.map (some mb)) (.agg #[.int .u8 r, .int .u32 i, .int .u64 s]) true).run Tryz.prog W = .ok (.tuple #[.agg (cwcells v), .bool true]) W := by
  rw [h.look2 hb hd, fvW, hf]; rfl
theorem GrAt.c5 {w : World} {pg mb : Nat} {w0 : World} {m : Nat} {b : Bw} {L : List Cw} {va : Option Addr} {vc : Nat} {vv : List Dt} (h : GrAt w pg mb w0 m b L va vc vv) : w.cell? ⟨pg, 5, none⟩ = some (.map (some mb)) := by rw [cells_at h.blk]; rfl
theorem hasG_some {F : List Dt} {L : List Cw} {d : Dt} {v : Cw} (h : fdW L d = some v) : hasG F (findC (cms L)) d = true := by
  unfold hasG
  rw [← fdW_c, h]; rfl
theorem hasG_none {F : List Dt} {L : List Cw} {d : Dt} (h : fdW L d = none) : hasG F (findC (cms L)) d = hasV F d := by
  unfold hasG
  rw [← fdW_c, h]; simp
set_option maxRecDepth 100000 in
set_option maxHeartbeats 4000000 in
theorem has_G (pg mb : Nat) (w0 : World) (m : Nat) (b : Bw) (L : List Cw) (va : Option Addr) (vc : Nat) (vv : List Dt) (r i s : Int) (w : World) (h : GrAt w pg mb w0 m b L va vc vv) (hd : okD ((r, i), s)) :
    Calls Tryz.prog 19 #[.pointer (some ⟨pg, 0, none⟩), .agg #[.int .u8 r, .int .u32 i, .int .u64 s]] w fun e w' => e = .returned (.bool (hasG b.b.f (findC (cms L)) ((r, i), s))) ∧ Below w.heap.size w w' := by
  have H := Lib.hid h
  have g0 := cells_at h.blk
  simp only [gcells] at g0
  have hpg := heap_lt h.blk
  clear h
  have hB1 : Below w.heap.size w (w.alloc (.cells #[.int .u8 r, .int .u32 i, .int .u64 s] 41)).drew := ((Below.refl _ _).alloc (Nat.le_refl _) _).drew
  have HB1 := Lib.hid hB1
  have hB0 : Below w.heap.size w (w.alloc (.cells #[.int .u8 r, .int .u32 i, .int .u64 s] 41)) := (Below.refl _ _).alloc (Nat.le_refl _) _
  have HB0 := Lib.hid hB0
  go_enter Tryz.func19, Tryz.ntmps19
  go_wp2_with fail
  refine (none_some pg mb _ (H.out.below ((Below.refl _ _).alloc (Nat.le_refl _) _)).c5).mono ?_
  rintro e w1 ⟨rfl, rfl⟩
  cases hf : fdW L ((r, i), s) with
  | none =>
    have l1 := H.out.no2 hB1 hd hf
    have l2 := H.out.no2 (hB0.alloc (by simp) (.cells (ccells 0 0 0 none 0 0 none 0 0 0 0 none 0 0 0 ⟨#[]⟩ none 0 0) 46)).drew hd hf
    have Hf := Lib.hid hf
    simp only [ccells] at l1 l2
    clear hB1 hB0 hf
    go_wp2_with fail
    refine region_tree (.seg [0, 1, 2, 3, 4] false (.fork (.seg [5, 6, 7, 8, 9, 10, 11] false .done) (.seg [9, 5, 6, 7, 8, 10, 11] false .done))) mixed (by kernel_rfl) ?_
    simp only [wpSg, List.map_cons, List.map_nil, List.getD_cons_succ, List.getD_cons_zero]
    go_wp2_with fail
    refine And.intro ?_ ?_
    all_goals
      go_wp2_with fail
      refine And.intro (by kernel_rfl) ?_
      go_wp2_with fail
      refine region_text [([0, 1, 2, 3, 4, 5, 6, 7, 8, 9, 10], false)] mixed (by kernel_rfl) ?_
      simp only [wpSegs, List.map_cons, List.map_nil, List.getD_cons_succ, List.getD_cons_zero]
      go_wp2_with fail
      have hB2 : Below w.heap.size w (((w.alloc (.cells #[.int .u8 r, .int .u32 i, .int .u64 s] 41)).alloc (.cells (ccells 0 0 0 none 0 0 none 0 0 0 0 none 0 0 0 ⟨#[]⟩ none 0 0) 46)).drew.drew) := (HB0.out.alloc (by simp) _).drew.drew
      refine (has_any b.fa b.fc b.b.f r i s _ (H.out.fvec.below hB2) (by have := H.out.fmax; omega) H.out.base.okf hd.1).mono ?_
      rintro e w1 ⟨rfl, hb1⟩
      have HB3 := Lib.hid (below2 hB2 hb1 hB2.size)
      clear hB2 hb1 l1 l2
      go_wp2_with fail
      refine And.intro (by kernel_rfl) ?_
      go_wp2_with fail
      all_goals (go_ret; exact ⟨by rw [hasG_none Hf.out]; rfl, HB3.out⟩)
  | some v =>
    obtain ⟨⟨⟨⟨r0, i0⟩, s0⟩, ps, uu, t, ⟨k, n, x, p, ds⟩⟩, qa, qc, ua, uc, pa, pc, da, dc⟩ := v
    have l1 := H.out.yes2 hB1 hd hf
    have l2 := H.out.yes2 (hB0.alloc (by simp) (.cells (ccells 0 0 0 none 0 0 none 0 0 0 0 none 0 0 0 ⟨#[]⟩ none 0 0) 46)).drew hd hf
    have Hf := Lib.hid hf
    simp only [ccells, cwcells] at l1 l2
    clear hB1 hB0 hf
    go_wp2_with fail
    refine region_tree (.seg [0, 1, 2, 3, 4] false (.fork (.seg [5, 6, 7, 8, 9, 10, 11] false .done) (.seg [9, 5, 6, 7, 8, 10, 11] false .done))) mixed (by kernel_rfl) ?_
    simp only [wpSg, List.map_cons, List.map_nil, List.getD_cons_succ, List.getD_cons_zero]
    go_wp2_with fail
    refine And.intro ?_ ?_
    all_goals
      go_wp2_with fail
      refine And.intro (by kernel_rfl) ?_
      go_wp2_with fail
      refine region_text [([0, 1, 2, 3, 4, 5, 6, 7, 8, 9, 10], false)] mixed (by kernel_rfl) ?_
      simp only [wpSegs, List.map_cons, List.map_nil, List.getD_cons_succ, List.getD_cons_zero]
      go_wp2_with fail
      refine And.intro (by kernel_rfl) ?_
      go_wp2_with fail
      all_goals (go_ret; exact ⟨by rw [hasG_some Hf.out]; rfl, ((HB0.out.alloc (by simp) _).drew).drew⟩)
end Go.Proofs.YthdmoplclllhjaaGreat
