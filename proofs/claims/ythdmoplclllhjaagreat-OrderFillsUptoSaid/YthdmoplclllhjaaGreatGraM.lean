/- maps.Keys over a map of commits by dots; slices.AppendSeq, slices.Collect of it. (printed by wip/tools/genkeysd.py) | slices.DeleteFunc of dots in a row of their own, by any function: contract. | graph.Heads: contract. | graph.Heads: contract. | graph.Time; a graph that is not there, or was not made. | graph.New of the baseline of nothing. -/
import Derived.Test.YthdmoplclllhjaaGreatGraC
import Derived.Test.YthdmoplclllhjaaGreatFuseA
/- GraJ -/
namespace Go.Proofs.YthdmoplclllhjaaGreat
open Go.RowKit Go.Shelf
set_option linter.unusedVariables false
set_option linter.unusedSimpArgs false
attribute [local go_sem] Oper.semAt_some

/-- nothing is still to come -/
def NoneLeftD (left : Dt → Bool) : Prop := ∀ a, okD a → left a = false
/-- an entry has come -/
structure NextD (w : World) (b r n : Nat) (f : Dt → Option Value) (left : Dt → Bool) (cnt : Nat) (rr ii qq : Int) (v : Value) (w' : World) (cnt' : Nat) : Prop where
  ok : okD ((rr, ii), qq)
  was : left ((rr, ii), qq) = true
  val : f ((rr, ii), qq) = some v
  rng : RangeF w' Tryz.prog 41 mkD b r n f (fun y => left y && !decide (y = ((rr, ii), qq))) cnt'
  lt : cnt' < cnt
  grown : w.grownBy w' (some r)
  size : w'.heap.size = w.heap.size
section
variable {w : World} {ops : Array Oper} {rest : List Oper} {o : Oper} {a : Act} {Q : Exit → Act → World → Prop} {F : Fence} {nf : Nat}
theorem wpListIn_next_D (hg : o.guard = none) (it : Operand) (hop : o.op = Op.next it false) (b r n : Nat) (f : Dt → Option Value) (left : Dt → Bool) (cnt : Nat)
    (hit : a.eval it = .pointer (some ⟨r, 0, none⟩)) (h : RangeF w Tryz.prog 41 mkD b r n f left cnt)
    (hDone : NoneLeftD left → wpListIn F nf Tryz.prog ops Q rest (a.put o.dst (.tuple #[.bool false])) w)
    (hMore : ∀ rr ii qq v w' cnt', NextD w b r n f left cnt rr ii qq v w' cnt' → (Instr.entry (.pointer (some ⟨r, 0, none⟩))).run Tryz.prog w' = .ok (.tuple #[.agg #[.int .u8 rr, .int .u32 ii, .int .u64 qq], v]) w' →
      wpListIn F nf Tryz.prog ops Q rest (a.put o.dst (.tuple #[.bool true, .agg #[.int .u8 rr, .int .u32 ii, .int .u64 qq], v])) w') : wpListIn F nf Tryz.prog ops Q (o :: rest) a w :=
  wpListIn_next_F keysD hg it hop b r n f left cnt hit h (fun _ h => hDone fun a ha => by obtain ⟨l, hl⟩ := keyD_ok ha; exact h a l hl)
    (fun x v l w' cnt' h1 h2 h3 h4 h5 h6 h7 h8 => hMore x.1.1 x.1.2 x.2 v w' cnt' ⟨keyD_inv h1, h2, h3, h4, h5, h6, h7⟩ h8)
end

end Go.Proofs.YthdmoplclllhjaaGreat

/- GraK -/
namespace Go.Proofs.YthdmoplclllhjaaGreat
open Go.RowKit
set_option linter.unusedVariables false
set_option linter.unusedSimpArgs false

end Go.Proofs.YthdmoplclllhjaaGreat

/- GraL -/
namespace Go.Proofs.YthdmoplclllhjaaGreat
open Go.RowKit
set_option linter.unusedVariables false
set_option linter.unusedSimpArgs false

theorem fvW_mem {L : List Cw} (hn : ((cms L).map (·.d)).Nodup) {v : Cw} (hv : v ∈ L) : fdW L v.c.d = some v := by
  induction L with
  | nil => cases hv
  | cons a L ih =>
    unfold cms at hn
    rw [List.map_cons, List.map_cons, List.nodup_cons] at hn
    unfold fdW
    rw [List.find?_cons]
    by_cases e : a.c.d = v.c.d
    · rw [decide_eq_true e]
      rcases List.mem_cons.1 hv with rfl | h
      · rfl
      · exact absurd (List.mem_map.2 ⟨v.c, List.mem_map.2 ⟨v, h, rfl⟩, e.symm⟩) hn.1
    · rw [decide_eq_false e]
      rcases List.mem_cons.1 hv with rfl | h
      · exact absurd rfl e
      · exact ih hn.2 h
theorem fvW_some {L : List Cw} {d : Dt} {x : Value} (h : fvW L d = some x) : ∃ v ∈ L, v.c.d = d ∧ x = cwv v := by
  unfold fvW at h
  cases hf : fdW L d with
  | none => rw [hf] at h; cases h
  | some v => rw [hf] at h; exact ⟨v, (fdW_some hf).1, (fdW_some hf).2, (Option.some.inj h).symm⟩
theorem same_of_d {L : List Cw} (hn : ((cms L).map (·.d)).Nodup) {u v : Cw} (hu : u ∈ L) (hv : v ∈ L) (h : u.c.d = v.c.d) : u = v := by
  have h1 := fvW_mem hn hu
  rw [h, fvW_mem hn hv] at h1
  exact (Option.some.inj h1).symm
end Go.Proofs.YthdmoplclllhjaaGreat

/- GraM -/
namespace Go.Proofs.YthdmoplclllhjaaGreat
open Go.RowKit
set_option linter.unusedVariables false
set_option linter.unusedSimpArgs false

end Go.Proofs.YthdmoplclllhjaaGreat

/- GraN -/
namespace Go.Proofs.YthdmoplclllhjaaGreat
open Go.RowKit
set_option linter.unusedVariables false
set_option linter.unusedSimpArgs false

end Go.Proofs.YthdmoplclllhjaaGreat

/- GraO -/
namespace Go.Proofs.YthdmoplclllhjaaGreat
open Go.RowKit
set_option linter.unusedVariables false
set_option linter.unusedSimpArgs false

set_option maxRecDepth 100000 in
theorem tmayE (w : World) : Calls Tryz.prog 157 #[.slice none 0 0, .int .i64 0] w fun e w' => e = .returned (.bool true) ∧ w' = w := by
  go_enter Tryz.func157, Tryz.ntmps157
  go_wp2_with fail
  refine wp_loop_rounds 1 ?_
  rw [rounds_succ]
  go_wp2_with fail
  go_ret
  exact ⟨rfl, rfl⟩
theorem treeMayE (w : World) : Calls Tryz.prog 103 #[.slice none 0 0] w fun e w' => e = .returned (.bool true) ∧ w' = w := by
  go_enter Tryz.func103, Tryz.ntmps103
  go_wp2_with fail
  refine (tmayE w).mono ?_
  rintro e w' ⟨rfl, rfl⟩
  go_wp2_with fail
  go_ret
  exact ⟨rfl, rfl⟩
theorem risingE (w : World) : Calls Tryz.prog 102 #[.slice none 0 0] w fun e w' => e = .returned (.bool true) ∧ w' = w := by
  go_enter Tryz.func102, Tryz.ntmps102
  go_wp2_with fail
  refine wp_loop_rounds 1 ?_
  rw [rounds_succ]
  go_wp2_with fail
  go_ret
  exact ⟨rfl, rfl⟩
theorem cloneTE (w : World) : Calls Tryz.prog 170 #[.slice none 0 0] w fun e w' => e = .returned (.slice none 0 0) ∧ w' = w := by
  have heq := fun (w : World) (a : Option Addr) (n c : Nat) => Lib.run_eql_slice_nil (P := Tryz.prog) w 26 154 a n c 0 0 Tryz.underlying26
  go_enter Tryz.func170, Tryz.ntmps170
  go_wp2_with fail
  go_ret
  exact ⟨rfl, rfl⟩
set_option maxRecDepth 100000 in
theorem ownTree1E (x : Value) (w : World) : Calls Tryz.prog 169 #[.slice none 0 0, x] w fun e w' => e = .returned (.slice none 0 0) ∧ w' = w := by
  go_enter Tryz.func169, Tryz.ntmps169
  go_wp2_with fail
  refine (cloneTE w).mono ?_
  rintro e w' ⟨rfl, rfl⟩
  go_wp2_with fail
  refine wp_loop_rounds 1 ?_
  rw [rounds_succ]
  go_wp2_with fail
  go_ret
  exact ⟨rfl, rfl⟩
set_option maxRecDepth 100000 in
theorem ownTreeE (w : World) : Calls Tryz.prog 131 #[.slice none 0 0] w fun e w' => e = .returned (.slice none 0 0) ∧ Below w.heap.size w w' := by
  have he := enters_of Tryz.func169 (by kernel_rfl) rfl
  go_enter Tryz.func131, Tryz.ntmps131
  go_wp2_with fail
  refine (ownTree1E _ _).mono ?_
  rintro e w' ⟨rfl, rfl⟩
  go_wp2_with fail
  go_ret
  exact ⟨rfl, (Below.refl _ _).alloc (Nat.le_refl _) _⟩
abbrev basecells (num : Int) (fa : Option Addr) (fn fc : Nat) (ta : Option Addr) (tn tc : Nat) (t : Int) (ra : Option Addr) (rn rc : Nat) : Array Value :=
  #[.int .u64 num, .slice fa fn fc, .slice ta tn tc, .int .u64 t, .slice ra rn rc]
set_option maxRecDepth 100000 in
set_option maxHeartbeats 4000000 in
theorem mayBaseE (w : World) : Calls Tryz.prog 28 #[.agg (basecells 0 none 0 0 none 0 0 0 none 0 0)] w fun e w' => e = .returned (.bool true) ∧ Below w.heap.size w w' := by
  have he := enters_of Tryz.func99 (by kernel_rfl) rfl
  go_enter Tryz.func28, Tryz.ntmps28
  go_wp2_with fail
  refine region_text [([0, 1, 3, 4], false), ([2], true), ([5, 6, 7, 8, 9, 10, 11, 12, 13, 14, 15, 16, 17, 18, 19, 20, 21, 22, 23, 24], false)] mixed (by kernel_rfl) ?_
  simp only [wpSegs, List.map_cons, List.map_nil, List.getD_cons_succ, List.getD_cons_zero]
  go_wp2_with fail
  refine (canon_any none 0 [] _ (Sl.nil _ _) (fun d hd => by cases hd) (by decide)).mono ?_
  rintro e w1 ⟨a1, c1, rfl, hown, hb⟩
  have E : Hid (BoxE 28 w w1 (basecells 0 none 0 0 none 0 0 0 none 0 0)) := Lib.hid (BoxE.of (((Below.refl _ _).drew).trans hb))
  have Hb := Lib.hid hb
  have d0 := cells_at E.out.blk
  simp only [basecells] at d0
  have Hv := Lib.hid (vec_of hown)
  clear hb hown
  go_wp2_with fail
  refine And.intro (Agree.of_below Hb.out) ?_
  go_wp2_with fail
  refine (equalV_any a1 none c1 0 [] [] _ Hv.out (Sl.nil _ _) (by decide) (by decide)).mono ?_
  rintro e w2 ⟨z, rfl, hz, hb⟩
  obtain rfl : z = true := hz.2 rfl
  replace E := Lib.hid (E.out.step hb)
  clear hb hz d0
  have d0 := cells_at E.out.blk
  simp only [basecells] at d0
  go_wp2_with fail
  refine (risingE _).mono ?_
  rintro e w3 ⟨rfl, rfl⟩
  go_wp2_with fail
  refine (containsD_fn 99 #[.pointer (some ⟨w.heap.size, 0, none⟩)] (fun _ => false) none 0 [] _ (Sl.nil _ _) (by decide) he (fun r i s h => by cases h)).mono ?_
  intro e w4 hto
  obtain ⟨z, rfl, hz, hb⟩ := hto
  obtain rfl : z = false := by
    cases z with
    | false => rfl
    | true => obtain ⟨d, hd, _⟩ := hz.1 rfl; cases hd
  replace E := Lib.hid (E.out.step hb)
  clear hb hz d0
  have d0 := cells_at E.out.blk
  simp only [basecells] at d0
  go_wp2_with fail
  refine And.intro (by kernel_rfl) ?_
  go_wp2_with fail
  refine (treeMayE _).mono ?_
  rintro e w5 ⟨rfl, rfl⟩
  go_wp2_with fail
  go_ret
  exact ⟨rfl, E.out.bel⟩
def OwnBaseE (w : World) (e : Ending) (w' : World) : Prop := ∃ a1 c1 a2 c2, e = .returned (.agg (basecells 0 a1 0 c1 a2 0 c2 0 none 0 0)) ∧ OwnD w' w.heap.size a1 c1 [] ∧ OwnD w' w.heap.size a2 c2 [] ∧ Below w.heap.size w w'
set_option maxRecDepth 100000 in
set_option maxHeartbeats 4000000 in
theorem ownBaseE (w : World) : Calls Tryz.prog 71 #[.agg (basecells 0 none 0 0 none 0 0 0 none 0 0)] w (OwnBaseE w) := by
  go_enter Tryz.func71, Tryz.ntmps71
  go_wp2_with fail
  refine region_text [([0, 1, 3, 4, 6, 7], false), ([2], true), ([9], false), ([5], true), ([8, 10, 11, 12, 13, 14], false)] mixed (by kernel_rfl) ?_
  simp only [wpSegs, List.map_cons, List.map_nil, List.getD_cons_succ, List.getD_cons_zero]
  go_wp2_with fail
  refine (cloneV_any none 0 [] _ (Sl.nil _ _) (by decide)).mono ?_
  rintro e w1 ⟨a1, c1, v1, rfl, hv1, ho1, hb1⟩
  subst hv1
  obtain ⟨x0, y0, hz1, hB1⟩ := new2 (((Below.refl _ _).drew).trans hb1)
  have Ho1 := Lib.hid (OwnD.base (base' := w.heap.size + 2) ho1 (by simp))
  have X1 := Lib.hid x0
  have Y1 := Lib.hid y0
  have HB1 := Lib.hid hB1
  have Hb1 := Lib.hid hb1
  clear hb1 ho1 x0 y0 hB1
  go_wp2_with fail
  refine And.intro (Agree.of_below Hb1.out) ?_
  go_wp2_with fail
  refine (cloneD_any none 0 [] _ (Sl.nil _ _) (by decide)).mono ?_
  rintro e w2 ⟨a2, c2, v2, rfl, hv2, ho2, hb2⟩
  subst hv2
  replace Ho1 := Lib.hid (Ho1.out.below hb2)
  have Ho2 := Lib.hid (OwnD.base (base' := w.heap.size + 2) ho2 hz1)
  have HB2 := Lib.hid (below2 HB1.out hb2 HB1.out.size)
  replace X1 := Lib.hid ((hb2.block _ (heap_lt X1.out)).trans X1.out)
  replace Y1 := Lib.hid ((hb2.block _ (heap_lt Y1.out)).trans Y1.out)
  have hz2 : w.heap.size + 2 ≤ w2.heap.size := by have := hb2.size; omega
  have Hb2 := Lib.hid hb2
  clear ho2 hb2 HB1 Hb1
  go_wp2_with fail
  refine And.intro (Agree.of_below Hb2.out) ?_
  go_wp2_with fail
  refine (ownTreeE _).mono ?_
  rintro e w3 ⟨rfl, hb3⟩
  replace Ho1 := Lib.hid (Ho1.out.below hb3)
  replace Ho2 := Lib.hid (Ho2.out.below hb3)
  replace X1 := Lib.hid ((hb3.block _ (heap_lt X1.out)).trans X1.out)
  replace Y1 := Lib.hid ((hb3.block _ (heap_lt Y1.out)).trans Y1.out)
  have HB3 := Lib.hid (below2 HB2.out hb3 HB2.out.size)
  have hz3 : w.heap.size + 2 ≤ w3.heap.size := by have := hb3.size; omega
  have d0 := cells_at X1.out
  have e0 := cells_at Y1.out
  have f0 := free_at X1.out
  have g0 := free_at Y1.out
  simp only [basecells] at d0
  clear hb3 Hb2 HB2
  go_wp2_with fail
  refine And.intro (by kernel_rfl) ?_
  go_wp2_with fail
  have hC : Chg [w.heap.size, w.heap.size + 1] w3 ((((((((w3.setCell ⟨w.heap.size, 1, none⟩ (.slice a1 0 c1)).setCell ⟨w.heap.size, 2, none⟩ (.slice a2 0 c2)).setCell ⟨w.heap.size, 4, none⟩ (.slice none 0 0)).setCell ⟨w.heap.size + 1, 0, none⟩ (.int .u64 0)).setCell ⟨w.heap.size + 1, 1, none⟩ (.slice a1 0 c1)).setCell ⟨w.heap.size + 1, 2, none⟩ (.slice a2 0 c2)).setCell ⟨w.heap.size + 1, 3, none⟩ (.int .u64 0)).setCell ⟨w.heap.size + 1, 4, none⟩ (.slice none 0 0)) :=
    ((((((((Chg.refl _ _).put _ _ (by simp)).put _ _ (by simp)).put _ _ (by simp)).put _ _ (by simp)).put _ _ (by simp)).put _ _ (by simp)).put _ _ (by simp)).put _ _ (by simp)
  have dis : ∀ k, w.heap.size + 2 ≤ k → k ∉ [w.heap.size, w.heap.size + 1] := fun k hk hm => by simp at hm; omega
  refine bodyPost_ret (v := .agg (basecells 0 a1 0 c1 a2 0 c2 0 none 0 0)) (by simp [results, Tryz.results71, go_sem, d0, e0]; try rfl) rfl ⟨a1, c1, a2, c2, rfl, ?_, ?_, ?_⟩
  · exact OwnD.base (owns_chg Ho1.out hC (fun k hk => dis k (owns_lt Ho1.out k hk).1)) (by omega)
  · exact OwnD.base (owns_chg Ho2.out hC (fun k hk => dis k (owns_lt Ho2.out k hk).1)) (by omega)
  · exact HB3.out.trans (hC.below HB3.out.size (by simp))
def emptyB (a1 : Option Addr) (c1 : Nat) (a2 : Option Addr) (c2 : Nat) : Bw := ⟨⟨0, [], [], 0, []⟩, a1, c1, a2, c2, none, 0⟩
/-- a new graph above nothing -/
def NewETo (w : World) (e : Ending) (w' : World) : Prop := ∃ (pg mb : Nat) (w0 : World) (b : Bw) (va : Option Addr) (vc : Nat), e = .returned (.tuple #[.pointer (some ⟨pg, 0, none⟩), .int .i64 0]) ∧ b.b = ⟨0, [], [], 0, []⟩ ∧ GrAt w' pg mb w0 0 b [] va vc [] ∧ Below w.heap.size w w' ∧ w.heap.size ≤ w0.heap.size
set_option maxRecDepth 100000 in
set_option maxHeartbeats 4000000 in
theorem newE_any (w : World) : Calls Tryz.prog 16 #[.agg (basecells 0 none 0 0 none 0 0 0 none 0 0)] w (NewETo w) := by
  have hmm := @run_makeMap Tryz.prog
  go_enter Tryz.func16, Tryz.ntmps16
  go_wp2_with fail
  refine (mayBaseE _).mono ?_
  rintro e w1 ⟨rfl, hb1⟩
  have E : Hid (BoxE 28 w w1 (basecells 0 none 0 0 none 0 0 0 none 0 0)) := Lib.hid (BoxE.of hb1)
  have d0 := cells_at E.out.blk
  simp only [basecells] at d0
  have hz1 := heap_lt E.out.blk
  clear hb1
  go_wp2_with fail
  refine (ownBaseE _).mono ?_
  intro e w2 hto
  obtain ⟨a1, c1, a2, c2, rfl, ho1, ho2, hb2⟩ := hto
  replace E := Lib.hid (E.out.step hb2)
  have Ho1 := Lib.hid ho1
  have Ho2 := Lib.hid ho2
  have hz := E.out.bel.size
  clear ho1 ho2 hb2 d0
  have d0 := cells_at E.out.blk
  have f0 := free_at E.out.blk
  simp only [basecells] at d0
  have z0 := heap_lt E.out.blk
  go_wp2_with fail
  have hC : Chg [w.heap.size] w2 (((((w2.setCell ⟨w.heap.size, 0, none⟩ (.int .u64 0)).setCell ⟨w.heap.size, 1, none⟩ (.slice a1 0 c1)).setCell ⟨w.heap.size, 2, none⟩ (.slice a2 0 c2)).setCell ⟨w.heap.size, 3, none⟩ (.int .u64 0)).setCell ⟨w.heap.size, 4, none⟩ (.slice none 0 0)) :=
    (((((Chg.refl _ _).put _ _ (by simp)).put _ _ (by simp)).put _ _ (by simp)).put _ _ (by simp)).put _ _ (by simp)
  have hs4 : (((((w2.setCell ⟨w.heap.size, 0, none⟩ (.int .u64 0)).setCell ⟨w.heap.size, 1, none⟩ (.slice a1 0 c1)).setCell ⟨w.heap.size, 2, none⟩ (.slice a2 0 c2)).setCell ⟨w.heap.size, 3, none⟩ (.int .u64 0)).setCell ⟨w.heap.size, 4, none⟩ (.slice none 0 0)).heap.size = w2.heap.size := by simp
  have hs4' := Lib.hid hs4
  clear hs4
  generalize ((((w2.setCell ⟨w.heap.size, 0, none⟩ (.int .u64 0)).setCell ⟨w.heap.size, 1, none⟩ (.slice a1 0 c1)).setCell ⟨w.heap.size, 2, none⟩ (.slice a2 0 c2)).setCell ⟨w.heap.size, 3, none⟩ (.int .u64 0)).setCell ⟨w.heap.size, 4, none⟩ (.slice none 0 0) = w4 at *
  have o1 := owns_chg Ho1.out hC (fun k hk hm => by have := (owns_lt Ho1.out k hk).1; simp at hm; omega)
  have o2 := owns_chg Ho2.out hC (fun k hk hm => by have := (owns_lt Ho2.out k hk).1; simp at hm; omega)
  have hB4 : Below w.heap.size w w4 := E.out.bel.trans (hC.below hz (by simp))
  have hw4 : Below w4.heap.size w4 ((w4.alloc (.map #[] 0)).alloc (.cells (gcells 0 a1 0 c1 a2 0 c2 0 none 0 0 w4.heap.size a1 0 c1) 79)) := ((Below.refl _ _).alloc (Nat.le_refl _) _).alloc (by simp) _
  have hG : GrAt ((w4.alloc (.map #[] 0)).alloc (.cells (gcells 0 a1 0 c1 a2 0 c2 0 none 0 0 w4.heap.size a1 0 c1) 79)) (w4.heap.size + 1) w4.heap.size w4 0 (emptyB a1 c1 a2 c2) [] a1 c1 [] :=
    ⟨heap_new2 _ _ _, (MapN.made w4).below ((Below.refl _ _).alloc (Nat.le_refl _) _), ⟨by omega, by omega⟩, hw4, ⟨vec_of o1, vec_of o2, TrRd.nil _ _, fun d h => (by cases h), fun d h => (by cases h), ⟨by simp [emptyB], by simp [emptyB]⟩, ⟨by simp [emptyB], by simp [emptyB]⟩⟩, fun v hv => (by cases hv), OwnD.base (OwnD.below o1 hw4) (Nat.zero_le _), fun d h => (by cases h), List.nodup_nil, fun v hv => (by cases hv), by decide, by simp [emptyB], by simp [emptyB], by decide, BaseP.empty, fun v hv => (by cases hv)⟩
  have HG := Lib.hid hG
  have HBF := Lib.hid (hB4.trans (hw4.mono hB4.size))
  have hsz4 := hB4.size
  clear hC o1 o2 hB4 hw4 hG
  go_wp2_with fail
  have hG2 := HG.out
  have hB2 := HBF.out
  rw [hs4'.out] at hG2 hB2
  exact bodyPost_ret (v := .tuple #[.pointer (some ⟨w2.heap.size + 1, 0, none⟩), .int .i64 0]) (by simp [results, Tryz.results16, go_sem]; try rfl) rfl ⟨w2.heap.size + 1, w2.heap.size, w4, emptyB a1 c1 a2 c2, a1, c1, rfl, rfl, hG2, hB2, hsz4⟩
end Go.Proofs.YthdmoplclllhjaaGreat
