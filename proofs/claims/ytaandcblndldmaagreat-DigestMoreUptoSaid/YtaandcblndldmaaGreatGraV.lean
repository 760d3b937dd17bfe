/- maps.Keys over a map of commits by dots; slices.AppendSeq, slices.Collect of it. (printed by wip/tools/genkeysd.py) | slices.DeleteFunc of dots in a row of their own, by any function: contract. | graph.Heads: contract. | graph.Heads: contract. | graph.Time; a graph that is not there, or was not made. | graph.New of the baseline of nothing. | varvelaw12.known: the page's examples hold. | A graph that is not there, or was not made: it refuses. | maps.Values over a map of commits by dots; slices.AppendSeq, slices.Collect of it. (printed by wip/tools/genvalues.py) | Sorting commits by times and dots: contracts. (printed by wip/tools/gensortc.py) | graph.Commits: rows of commits, and the contract. | graph.Commits: the contract. | graph.VV, graph.Get: contracts. -/
import Derived.Test.YtaandcblndldmaaGreatGraC
import Derived.Test.YtaandcblndldmaaGreatBatC
import Derived.Deep.MidRow
/- GraM -/
/- GraJ -/
namespace Go.Proofs.YtaandcblndldmaaGreat
open Go.RowKit Go.Shelf
set_option linter.unusedVariables false
set_option linter.unusedSimpArgs false
attribute [local go_sem] Oper.semAt_some

/-- nothing is still to come -/
def NoneLeftD (left : Dt → Bool) : Prop := ∀ a, okD a → left a = false
/-- an entry has come -/
structure NextD (w : World) (b r n : Nat) (f : Dt → Option Value) (left : Dt → Bool) (cnt : Nat) (rr ii qq : Int) (v : Value) (w' : World) (cnt' : Nat) : Prop where
  ok : okD ((rr, ii), qq)
  was : left ((rr, ii), qq) = true
  val : f ((rr, ii), qq) = some v
  rng : RangeF w' Tryz.prog 49 mkD b r n f (fun y => left y && !decide (y = ((rr, ii), qq))) cnt'
  lt : cnt' < cnt
  grown : w.grownBy w' (some r)
  size : w'.heap.size = w.heap.size
section
variable {w : World} {ops : Array Oper} {rest : List Oper} {o : Oper} {a : Act} {Q : Exit → Act → World → Prop} {F : Fence} {nf : Nat}
theorem wpListIn_next_D (hg : o.guard = none) (it : Operand) (hop : o.op = Op.next it false) (b r n : Nat) (f : Dt → Option Value) (left : Dt → Bool) (cnt : Nat)
    (hit : a.eval it = .pointer (some ⟨r, 0, none⟩)) (h : RangeF w Tryz.prog 49 mkD b r n f left cnt)
    (hDone : NoneLeftD left → wpListIn F nf Tryz.prog ops Q rest (a.put o.dst (.tuple #[.bool false])) w)
    (hMore : ∀ rr ii qq v w' cnt', NextD w b r n f left cnt rr ii qq v w' cnt' → (Instr.entry (.pointer (some ⟨r, 0, none⟩))).run Tryz.prog w' = .ok (.tuple #[.agg #[.int .u8 rr, .int .u32 ii, .int .u64 qq], v]) w' →
      wpListIn F nf Tryz.prog ops Q rest (a.put o.dst (.tuple #[.bool true, .agg #[.int .u8 rr, .int .u32 ii, .int .u64 qq], v])) w') : wpListIn F nf Tryz.prog ops Q (o :: rest) a w :=
  wpListIn_next_F keysD hg it hop b r n f left cnt hit h (fun _ h => hDone fun a ha => by obtain ⟨l, hl⟩ := keyD_ok ha; exact h a l hl)
    (fun x v l w' cnt' h1 h2 h3 h4 h5 h6 h7 h8 => hMore x.1.1 x.1.2 x.2 v w' cnt' ⟨keyD_inv h1, h2, h3, h4, h5, h6, h7⟩ h8)
end

end Go.Proofs.YtaandcblndldmaaGreat

/- GraK -/
namespace Go.Proofs.YtaandcblndldmaaGreat
open Go.RowKit
set_option linter.unusedVariables false
set_option linter.unusedSimpArgs false

end Go.Proofs.YtaandcblndldmaaGreat

/- GraL -/
namespace Go.Proofs.YtaandcblndldmaaGreat
open Go.RowKit
set_option linter.unusedVariables false
set_option linter.unusedSimpArgs false

theorem fvW_mem {L : List Cw} (hn : ((cms L).map (·.d)).Nodup) {v : Cw} (hv : v ∈ L) : fdW L v.c.d = some v := by
  induction L with
  | nil => cases hv
  | cons a L ih =>
    unfold cms at hn
    rw [List.map_cons, List.map_cons, List.nodup_cons] at hn
    unfold fdW
    rw [List.find?_cons]
    by_cases e : a.c.d = v.c.d
    · rw [decide_eq_true e]
      rcases List.mem_cons.1 hv with rfl | h
      · rfl
      · exact absurd (List.mem_map.2 ⟨v.c, List.mem_map.2 ⟨v, h, rfl⟩, e.symm⟩) hn.1
    · rw [decide_eq_false e]
      rcases List.mem_cons.1 hv with rfl | h
      · exact absurd rfl e
      · exact ih hn.2 h
theorem fvW_some {L : List Cw} {d : Dt} {x : Value} (h : fvW L d = some x) : ∃ v ∈ L, v.c.d = d ∧ x = cwv v := by
  unfold fvW at h
  cases hf : fdW L d with
  | none => rw [hf] at h; cases h
  | some v => rw [hf] at h; exact ⟨v, (fdW_some hf).1, (fdW_some hf).2, (Option.some.inj h).symm⟩
theorem same_of_d {L : List Cw} (hn : ((cms L).map (·.d)).Nodup) {u v : Cw} (hu : u ∈ L) (hv : v ∈ L) (h : u.c.d = v.c.d) : u = v := by
  have h1 := fvW_mem hn hu
  rw [h, fvW_mem hn hv] at h1
  exact (Option.some.inj h1).symm
end Go.Proofs.YtaandcblndldmaaGreat

/- GraM -/
namespace Go.Proofs.YtaandcblndldmaaGreat
open Go.RowKit
set_option linter.unusedVariables false
set_option linter.unusedSimpArgs false

end Go.Proofs.YtaandcblndldmaaGreat

/- GraN -/
namespace Go.Proofs.YtaandcblndldmaaGreat
open Go.RowKit
set_option linter.unusedVariables false
set_option linter.unusedSimpArgs false

end Go.Proofs.YtaandcblndldmaaGreat

/- GraO -/
namespace Go.Proofs.YtaandcblndldmaaGreat
open Go.RowKit
set_option linter.unusedVariables false
set_option linter.unusedSimpArgs false

set_option maxRecDepth 100000 in
theorem tmayE (w : World) : Calls Tryz.prog 189 #[.slice none 0 0, .int .i64 0] w fun e w' => e = .returned (.bool true) ∧ w' = w := by
  go_enter Tryz.func189, Tryz.ntmps189
  go_wp2_with fail
  refine wp_loop_rounds 1 ?_
  rw [rounds_succ]
  go_wp2_with fail
  go_ret
  exact ⟨rfl, rfl⟩
theorem treeMayE (w : World) : Calls Tryz.prog 143 #[.slice none 0 0] w fun e w' => e = .returned (.bool true) ∧ w' = w := by
  go_enter Tryz.func143, Tryz.ntmps143
  go_wp2_with fail
  refine (tmayE w).mono ?_
  rintro e w' ⟨rfl, rfl⟩
  go_wp2_with fail
  go_ret
  exact ⟨rfl, rfl⟩
theorem risingE (w : World) : Calls Tryz.prog 142 #[.slice none 0 0] w fun e w' => e = .returned (.bool true) ∧ w' = w := by
  go_enter Tryz.func142, Tryz.ntmps142
  go_wp2_with fail
  refine wp_loop_rounds 1 ?_
  rw [rounds_succ]
  go_wp2_with fail
  go_ret
  exact ⟨rfl, rfl⟩
theorem cloneTE (w : World) : Calls Tryz.prog 191 #[.slice none 0 0] w fun e w' => e = .returned (.slice none 0 0) ∧ w' = w := by
  have heq := fun (w : World) (a : Option Addr) (n c : Nat) => Lib.run_eql_slice_nil (P := Tryz.prog) w 30 175 a n c 0 0 Tryz.underlying30
  go_enter Tryz.func191, Tryz.ntmps191
  go_wp2_with fail
  go_ret
  exact ⟨rfl, rfl⟩
set_option maxRecDepth 100000 in
theorem ownTree1E (x : Value) (w : World) : Calls Tryz.prog 190 #[.slice none 0 0, x] w fun e w' => e = .returned (.slice none 0 0) ∧ w' = w := by
  go_enter Tryz.func190, Tryz.ntmps190
  go_wp2_with fail
  refine (cloneTE w).mono ?_
  rintro e w' ⟨rfl, rfl⟩
  go_wp2_with fail
  refine wp_loop_rounds 1 ?_
  rw [rounds_succ]
  go_wp2_with fail
  go_ret
  exact ⟨rfl, rfl⟩
set_option maxRecDepth 100000 in
theorem ownTreeE (w : World) : Calls Tryz.prog 144 #[.slice none 0 0] w fun e w' => e = .returned (.slice none 0 0) ∧ Below w.heap.size w w' := by
  have he := enters_of Tryz.func190 (by kernel_rfl) rfl
  go_enter Tryz.func144, Tryz.ntmps144
  go_wp2_with fail
  refine (ownTree1E _ _).mono ?_
  rintro e w' ⟨rfl, rfl⟩
  go_wp2_with fail
  go_ret
  exact ⟨rfl, (Below.refl _ _).alloc (Nat.le_refl _) _⟩
abbrev basecells (num : Int) (fa : Option Addr) (fn fc : Nat) (ta : Option Addr) (tn tc : Nat) (t : Int) (ra : Option Addr) (rn rc : Nat) : Array Value :=
  #[.int .u64 num, .slice fa fn fc, .slice ta tn tc, .int .u64 t, .slice ra rn rc]
set_option maxRecDepth 100000 in
set_option maxHeartbeats 4000000 in
theorem mayBaseE (w : World) : Calls Tryz.prog 93 #[.agg (basecells 0 none 0 0 none 0 0 0 none 0 0)] w fun e w' => e = .returned (.bool true) ∧ Below w.heap.size w w' := by
  have he := enters_of Tryz.func141 (by kernel_rfl) rfl
  go_enter Tryz.func93, Tryz.ntmps93
  go_wp2_with fail
  refine region_text [([0, 1, 3, 4], false), ([2], true), ([5, 6, 7, 8, 9, 10, 11, 12, 13, 14, 15, 16, 17, 18, 19, 20, 21, 22, 23, 24], false)] mixed (by kernel_rfl) ?_
  simp only [wpSegs, List.map_cons, List.map_nil, List.getD_cons_succ, List.getD_cons_zero]
  go_wp2_with fail
  refine (canon_any none 0 [] _ (Sl.nil _ _) (fun d hd => by cases hd) (by decide)).mono ?_
  rintro e w1 ⟨a1, c1, rfl, hown, hb⟩
  have E : Hid (BoxE 32 w w1 (basecells 0 none 0 0 none 0 0 0 none 0 0)) := Lib.hid (BoxE.of (((Below.refl _ _).drew).trans hb))
  have Hb := Lib.hid hb
  have d0 := cells_at E.out.blk
  simp only [basecells] at d0
  have Hv := Lib.hid (vec_of hown)
  clear hb hown
  go_wp2_with fail
  refine And.intro (Agree.of_below Hb.out) ?_
  go_wp2_with fail
  refine (equalV_any a1 none c1 0 [] [] _ Hv.out (Sl.nil _ _) (by decide) (by decide)).mono ?_
  rintro e w2 ⟨z, rfl, hz, hb⟩
  obtain rfl : z = true := hz.2 rfl
  replace E := Lib.hid (E.out.step hb)
  clear hb hz d0
  have d0 := cells_at E.out.blk
  simp only [basecells] at d0
  go_wp2_with fail
  refine (risingE _).mono ?_
  rintro e w3 ⟨rfl, rfl⟩
  go_wp2_with fail
  refine (containsD_fn 141 #[.pointer (some ⟨w.heap.size, 0, none⟩)] (fun _ => false) none 0 [] _ (Sl.nil _ _) (by decide) he (fun r i s h => by cases h)).mono ?_
  intro e w4 hto
  obtain ⟨z, rfl, hz, hb⟩ := hto
  obtain rfl : z = false := by
    cases z with
    | false => rfl
    | true => obtain ⟨d, hd, _⟩ := hz.1 rfl; cases hd
  replace E := Lib.hid (E.out.step hb)
  clear hb hz d0
  have d0 := cells_at E.out.blk
  simp only [basecells] at d0
  go_wp2_with fail
  refine And.intro (by kernel_rfl) ?_
  go_wp2_with fail
  refine (treeMayE _).mono ?_
  rintro e w5 ⟨rfl, rfl⟩
  go_wp2_with fail
  go_ret
  exact ⟨rfl, E.out.bel⟩
def OwnBaseE (w : World) (e : Ending) (w' : World) : Prop := ∃ a1 c1 a2 c2, e = .returned (.agg (basecells 0 a1 0 c1 a2 0 c2 0 none 0 0)) ∧ OwnD w' w.heap.size a1 c1 [] ∧ OwnD w' w.heap.size a2 c2 [] ∧ Below w.heap.size w w'
set_option maxRecDepth 100000 in
set_option maxHeartbeats 4000000 in
theorem ownBaseE (w : World) : Calls Tryz.prog 95 #[.agg (basecells 0 none 0 0 none 0 0 0 none 0 0)] w (OwnBaseE w) := by
  go_enter Tryz.func95, Tryz.ntmps95
  go_wp2_with fail
  refine region_text [([0, 1, 3, 4, 6, 7], false), ([2], true), ([9], false), ([5], true), ([8, 10, 11, 12, 13, 14], false)] mixed (by kernel_rfl) ?_
  simp only [wpSegs, List.map_cons, List.map_nil, List.getD_cons_succ, List.getD_cons_zero]
  go_wp2_with fail
  refine (cloneV_any none 0 [] _ (Sl.nil _ _) (by decide)).mono ?_
  rintro e w1 ⟨a1, c1, v1, rfl, hv1, ho1, hb1⟩
  subst hv1
  obtain ⟨x0, y0, hz1, hB1⟩ := new2 (((Below.refl _ _).drew).trans hb1)
  have Ho1 := Lib.hid (OwnD.base (base' := w.heap.size + 2) ho1 (by simp))
  have X1 := Lib.hid x0
  have Y1 := Lib.hid y0
  have HB1 := Lib.hid hB1
  have Hb1 := Lib.hid hb1
  clear hb1 ho1 x0 y0 hB1
  go_wp2_with fail
  refine And.intro (Agree.of_below Hb1.out) ?_
  go_wp2_with fail
  refine (cloneD_any none 0 [] _ (Sl.nil _ _) (by decide)).mono ?_
  rintro e w2 ⟨a2, c2, v2, rfl, hv2, ho2, hb2⟩
  subst hv2
  replace Ho1 := Lib.hid (Ho1.out.below hb2)
  have Ho2 := Lib.hid (OwnD.base (base' := w.heap.size + 2) ho2 hz1)
  have HB2 := Lib.hid (below2 HB1.out hb2 HB1.out.size)
  replace X1 := Lib.hid ((hb2.block _ (heap_lt X1.out)).trans X1.out)
  replace Y1 := Lib.hid ((hb2.block _ (heap_lt Y1.out)).trans Y1.out)
  have hz2 : w.heap.size + 2 ≤ w2.heap.size := by have := hb2.size; omega
  have Hb2 := Lib.hid hb2
  clear ho2 hb2 HB1 Hb1
  go_wp2_with fail
  refine And.intro (Agree.of_below Hb2.out) ?_
  go_wp2_with fail
  refine (ownTreeE _).mono ?_
  rintro e w3 ⟨rfl, hb3⟩
  replace Ho1 := Lib.hid (Ho1.out.below hb3)
  replace Ho2 := Lib.hid (Ho2.out.below hb3)
  replace X1 := Lib.hid ((hb3.block _ (heap_lt X1.out)).trans X1.out)
  replace Y1 := Lib.hid ((hb3.block _ (heap_lt Y1.out)).trans Y1.out)
  have HB3 := Lib.hid (below2 HB2.out hb3 HB2.out.size)
  have hz3 : w.heap.size + 2 ≤ w3.heap.size := by have := hb3.size; omega
  have d0 := cells_at X1.out
  have e0 := cells_at Y1.out
  have f0 := free_at X1.out
  have g0 := free_at Y1.out
  simp only [basecells] at d0
  clear hb3 Hb2 HB2
  go_wp2_with fail
  refine And.intro (by kernel_rfl) ?_
  go_wp2_with fail
  have hC : Chg [w.heap.size, w.heap.size + 1] w3 ((((((((w3.setCell ⟨w.heap.size, 1, none⟩ (.slice a1 0 c1)).setCell ⟨w.heap.size, 2, none⟩ (.slice a2 0 c2)).setCell ⟨w.heap.size, 4, none⟩ (.slice none 0 0)).setCell ⟨w.heap.size + 1, 0, none⟩ (.int .u64 0)).setCell ⟨w.heap.size + 1, 1, none⟩ (.slice a1 0 c1)).setCell ⟨w.heap.size + 1, 2, none⟩ (.slice a2 0 c2)).setCell ⟨w.heap.size + 1, 3, none⟩ (.int .u64 0)).setCell ⟨w.heap.size + 1, 4, none⟩ (.slice none 0 0)) :=
    ((((((((Chg.refl _ _).put _ _ (by simp)).put _ _ (by simp)).put _ _ (by simp)).put _ _ (by simp)).put _ _ (by simp)).put _ _ (by simp)).put _ _ (by simp)).put _ _ (by simp)
  have dis : ∀ k, w.heap.size + 2 ≤ k → k ∉ [w.heap.size, w.heap.size + 1] := fun k hk hm => by simp at hm; omega
  refine bodyPost_ret (v := .agg (basecells 0 a1 0 c1 a2 0 c2 0 none 0 0)) (by simp [results, Tryz.results95, go_sem, d0, e0]; try rfl) rfl ⟨a1, c1, a2, c2, rfl, ?_, ?_, ?_⟩
  · exact OwnD.base (owns_chg Ho1.out hC (fun k hk => dis k (owns_lt Ho1.out k hk).1)) (by omega)
  · exact OwnD.base (owns_chg Ho2.out hC (fun k hk => dis k (owns_lt Ho2.out k hk).1)) (by omega)
  · exact HB3.out.trans (hC.below HB3.out.size (by simp))
def emptyB (a1 : Option Addr) (c1 : Nat) (a2 : Option Addr) (c2 : Nat) : Bw := ⟨⟨0, [], [], 0, []⟩, a1, c1, a2, c2, none, 0⟩
/-- a new graph above nothing -/
def NewETo (w : World) (e : Ending) (w' : World) : Prop := ∃ (pg mb : Nat) (w0 : World) (b : Bw) (va : Option Addr) (vc : Nat), e = .returned (.tuple #[.pointer (some ⟨pg, 0, none⟩), .int .i64 0]) ∧ b.b = ⟨0, [], [], 0, []⟩ ∧ GrAt w' pg mb w0 0 b [] va vc [] ∧ Below w.heap.size w w' ∧ w.heap.size ≤ w0.heap.size
set_option maxRecDepth 100000 in
set_option maxHeartbeats 4000000 in
theorem newE_any (w : World) : Calls Tryz.prog 54 #[.agg (basecells 0 none 0 0 none 0 0 0 none 0 0)] w (NewETo w) := by
  have hmm := @run_makeMap Tryz.prog
  go_enter Tryz.func54, Tryz.ntmps54
  go_wp2_with fail
  refine (mayBaseE _).mono ?_
  rintro e w1 ⟨rfl, hb1⟩
  have E : Hid (BoxE 32 w w1 (basecells 0 none 0 0 none 0 0 0 none 0 0)) := Lib.hid (BoxE.of hb1)
  have d0 := cells_at E.out.blk
  simp only [basecells] at d0
  have hz1 := heap_lt E.out.blk
  clear hb1
  go_wp2_with fail
  refine (ownBaseE _).mono ?_
  intro e w2 hto
  obtain ⟨a1, c1, a2, c2, rfl, ho1, ho2, hb2⟩ := hto
  replace E := Lib.hid (E.out.step hb2)
  have Ho1 := Lib.hid ho1
  have Ho2 := Lib.hid ho2
  have hz := E.out.bel.size
  clear ho1 ho2 hb2 d0
  have d0 := cells_at E.out.blk
  have f0 := free_at E.out.blk
  simp only [basecells] at d0
  have z0 := heap_lt E.out.blk
  go_wp2_with fail
  have hC : Chg [w.heap.size] w2 (((((w2.setCell ⟨w.heap.size, 0, none⟩ (.int .u64 0)).setCell ⟨w.heap.size, 1, none⟩ (.slice a1 0 c1)).setCell ⟨w.heap.size, 2, none⟩ (.slice a2 0 c2)).setCell ⟨w.heap.size, 3, none⟩ (.int .u64 0)).setCell ⟨w.heap.size, 4, none⟩ (.slice none 0 0)) :=
    (((((Chg.refl _ _).put _ _ (by simp)).put _ _ (by simp)).put _ _ (by simp)).put _ _ (by simp)).put _ _ (by simp)
  have hs4 : (((((w2.setCell ⟨w.heap.size, 0, none⟩ (.int .u64 0)).setCell ⟨w.heap.size, 1, none⟩ (.slice a1 0 c1)).setCell ⟨w.heap.size, 2, none⟩ (.slice a2 0 c2)).setCell ⟨w.heap.size, 3, none⟩ (.int .u64 0)).setCell ⟨w.heap.size, 4, none⟩ (.slice none 0 0)).heap.size = w2.heap.size := by simp
  have hs4' := Lib.hid hs4
  clear hs4
  generalize ((((w2.setCell ⟨w.heap.size, 0, none⟩ (.int .u64 0)).setCell ⟨w.heap.size, 1, none⟩ (.slice a1 0 c1)).setCell ⟨w.heap.size, 2, none⟩ (.slice a2 0 c2)).setCell ⟨w.heap.size, 3, none⟩ (.int .u64 0)).setCell ⟨w.heap.size, 4, none⟩ (.slice none 0 0) = w4 at *
  have o1 := owns_chg Ho1.out hC (fun k hk hm => by have := (owns_lt Ho1.out k hk).1; simp at hm; omega)
  have o2 := owns_chg Ho2.out hC (fun k hk hm => by have := (owns_lt Ho2.out k hk).1; simp at hm; omega)
  have hB4 : Below w.heap.size w w4 := E.out.bel.trans (hC.below hz (by simp))
  have hw4 : Below w4.heap.size w4 ((w4.alloc (.map #[] 0)).alloc (.cells (gcells 0 a1 0 c1 a2 0 c2 0 none 0 0 w4.heap.size a1 0 c1) 118)) := ((Below.refl _ _).alloc (Nat.le_refl _) _).alloc (by simp) _
  have hG : GrAt ((w4.alloc (.map #[] 0)).alloc (.cells (gcells 0 a1 0 c1 a2 0 c2 0 none 0 0 w4.heap.size a1 0 c1) 118)) (w4.heap.size + 1) w4.heap.size w4 0 (emptyB a1 c1 a2 c2) [] a1 c1 [] :=
    ⟨heap_new2 _ _ _, (MapN.made w4).below ((Below.refl _ _).alloc (Nat.le_refl _) _), ⟨by omega, by omega⟩, hw4, ⟨vec_of o1, vec_of o2, TrRd.nil _ _, fun d h => (by cases h), fun d h => (by cases h), ⟨by simp [emptyB], by simp [emptyB]⟩, ⟨by simp [emptyB], by simp [emptyB]⟩⟩, fun v hv => (by cases hv), OwnD.base (OwnD.below o1 hw4) (Nat.zero_le _), fun d h => (by cases h), List.nodup_nil, fun v hv => (by cases hv), by decide, by simp [emptyB], by simp [emptyB], by decide, BaseP.empty, fun v hv => (by cases hv)⟩
  have HG := Lib.hid hG
  have HBF := Lib.hid (hB4.trans (hw4.mono hB4.size))
  have hsz4 := hB4.size
  clear hC o1 o2 hB4 hw4 hG
  go_wp2_with fail
  have hG2 := HG.out
  have hB2 := HBF.out
  rw [hs4'.out] at hG2 hB2
  exact bodyPost_ret (v := .tuple #[.pointer (some ⟨w2.heap.size + 1, 0, none⟩), .int .i64 0]) (by simp [results, Tryz.results54, go_sem]; try rfl) rfl ⟨w2.heap.size + 1, w2.heap.size, w4, emptyB a1 c1 a2 c2, a1, c1, rfl, rfl, hG2, hB2, hsz4⟩
end Go.Proofs.YtaandcblndldmaaGreat

/- GraQ -/
/- GraQ -/
namespace Go.Proofs.YtaandcblndldmaaGreat
open Go.RowKit
set_option linter.unusedVariables false
set_option linter.unusedSimpArgs false

def kD : Dt := ((0, 1), 1)
def kD1 : Dt := ((1, 1), 1)
def kO : Opn := ⟨1, 5, ⟨#[]⟩, [⟨#[97]⟩], []⟩
def kC : Cm := ⟨kD, [], [kD], 1, kO⟩
def kL : Cm := ⟨kD1, [kD], [kD, kD1], 2, kO⟩
end Go.Proofs.YtaandcblndldmaaGreat

/- GraR -/
namespace Go.Proofs.YtaandcblndldmaaGreat
open Go.RowKit
set_option linter.unusedVariables false
set_option linter.unusedSimpArgs false

end Go.Proofs.YtaandcblndldmaaGreat

/- GraT -/
namespace Go.Proofs.YtaandcblndldmaaGreat
open Go.RowKit Go.Shelf
set_option linter.unusedVariables false
set_option linter.unusedSimpArgs false
attribute [local go_sem] Oper.semAt_some

theorem Tryz.info_commit : (Tryz.prog.info? 54).map (fun i => (i.zero, i.size, i.bytes)) = some (some (.agg (ccells 0 0 0 none 0 0 none 0 0 0 0 none 0 0 0 ⟨#[]⟩ none 0 0)), 11, 152) := by kernel_rfl
def ccel (v : Cw) : List Value := (cwcells v).toList
def ccs (l : List Cw) : List Value := l.flatMap ccel
theorem ccs_snoc (l : List Cw) (a : Cw) : ccs (l ++ [a]) = ccs l ++ ccel a := by simp [ccs]
theorem ccel_len (v : Cw) : (ccel v).length = 11 := rfl
theorem ccel_one (v : Cw) : ∀ u ∈ ccel v, u.oneCell' = true := by
  intro u hu
  simp [ccel] at hu
  rcases hu with rfl | rfl | rfl | rfl | rfl | rfl | rfl | rfl | rfl | rfl | rfl <;> rfl
/-- all commits, in whatever order -/
def ValsIn (L ss : List Cw) : Prop := ss.Perm L
/-- so far -/
structure CameC (L : List Cw) (left : Dt → Bool) (ss : List Cw) : Prop where
  nd : ss.Nodup
  sub : ∀ v ∈ ss, v ∈ L
  ne : ∀ v ∈ ss, left v.c.d = false
  mem : ∀ v ∈ L, left v.c.d = false → v ∈ ss
theorem CameC.start {L : List Cw} (hL : ((cms L).map (·.d)).Nodup) : CameC L (fun a => (fvW L a).isSome) [] := ⟨List.nodup_nil, by simp, by simp, fun v hv h => by
  have : fvW L v.c.d = some (cwv v) := by unfold fvW; rw [fvW_mem hL hv]; rfl
  rw [this] at h; cases h⟩
theorem CameC.step {L : List Cw} {left : Dt → Bool} {ss : List Cw} (hL : ((cms L).map (·.d)).Nodup) (h : CameC L left ss) {v : Cw} {d : Dt} (hv : v ∈ L) (hd : v.c.d = d) (hl : left d = true) : CameC L (fun y => left y && !decide (y = d)) (ss ++ [v]) := by
  have hx : v ∉ ss := fun hx => by have := h.ne v hx; rw [hd, hl] at this; cases this
  refine ⟨List.nodup_append.2 ⟨h.nd, by simp, fun a ha b hb => by simp at hb; subst hb; intro e; subst e; exact hx ha⟩, fun a ha => ?_, fun a ha => ?_, fun a ha hf => ?_⟩
  · rcases List.mem_append.1 ha with ha | ha
    · exact h.sub a ha
    · simp at ha; subst ha; exact hv
  · rcases List.mem_append.1 ha with ha | ha
    · simp [h.ne a ha]
    · simp at ha; subst ha; simp [hd]
  · by_cases e : a.c.d = d
    · have := same_of_d hL ha hv (e.trans hd.symm)
      subst this; simp
    · rw [decide_eq_false e] at hf
      exact List.mem_append_left _ (h.mem a ha (by simpa using hf))
theorem CameC.done {L : List Cw} {left : Dt → Bool} {ss : List Cw} (h : CameC L left ss) (hL : ((cms L).map (·.d)).Nodup) (hl : ∀ v ∈ L, left v.c.d = false) : ValsIn L ss := by
  have hn : L.Nodup := by
    have h1 : (L.map (fun v => v.c.d)).Nodup := by have := hL; unfold cms at this; rwa [List.map_map] at this
    exact (List.pairwise_map.1 h1).imp fun {a b} h e => h (by rw [e])
  exact (List.perm_ext_iff_of_nodup h.nd hn).2 fun v => ⟨h.sub v, fun hv => h.mem v hv (hl v hv)⟩
set_option maxRecDepth 100000 in
set_option maxHeartbeats 1000000 in
theorem valsC1_in (F : Fence) (n : Nat) (h10 : F.fn 137) (hro : F.round = none) (hn : 1 ≤ n) (l Bm b nn : Nat) (L : List Cw) (hL : ((cms L).map (·.d)).Nodup) (hok : ∀ v ∈ L, okD v.c.d) (J Jx : List Cw → World → Prop)
    (hY : ∀ pre x W, J pre W → pre.length < nn → YieldAt F (n - 1) Tryz.prog l #[cwv x] W fun e W' => (e = .returned (.bool true) ∧ J (pre ++ [x]) W' ∧ KeepsWalks W W') ∨ (e = .returned (.bool false) ∧ Jx (pre ++ [x]) W'))
    (W : World) (hJ : AbidesFrom W.heap.size J) (hm : W.cell? ⟨Bm, 0, none⟩ = some (.map (some b))) (hown : MapF W Tryz.prog 49 mkD b nn (fvW L)) (h0 : J [] W) :
    CallsIn F n Tryz.prog 137 #[.func (.yield l) #[] #[], .pointer (some ⟨Bm, 0, none⟩)] W fun e W' => (∃ v, e = .returned v) ∧ ((∃ ss, ValsIn L ss ∧ J ss W') ∨ ∃ pre, Jx pre W') := by
  refine callsIn_of_wp Tryz.func137 rfl h10 ?_ hro
  simp only [Tryz.ntmps137, List.size_toArray, List.length_cons, List.length_nil, Nat.reduceAdd, Nat.reduceSub, Array.replicate_succ, Array.replicate_zero, List.push_toArray, List.append_toArray, List.nil_append, List.cons_append]
  gi_wp2_with (gi_at_range; refine wpListIn_range_F keysD rfl _ _ rfl _ Tryz.underlying116 b nn (fvW L) rfl hown ?_; intro w0 cnt0 hrg0 hcn0 hg0 hs0)
  go_frame
  gi_loopw [4] (fun _ wr => ∃ (left : Dt → Bool) (cnt : Nat) (ss : List Cw), RangeF wr Tryz.prog 49 mkD b W.heap.size nn (fvW L) left cnt ∧ ss.length + cnt ≤ nn ∧ CameC L left ss ∧ J ss wr)
    (fun _ wr => wr.rangeLeft b W.heap.size)
  case atStart =>
    exact ⟨_, _, [], hrg0, by simpa using hcn0, CameC.start hL, hJ [] W w0 none h0 hg0 (fun r e => by cases e)⟩
  case round =>
    obtain ⟨left, cnt, ss, hrg, hcs, hC, hJs⟩ := hrel
    gi_wp2_with (gi_at_next; refine wpListIn_next_D rfl _ rfl b W.heap.size nn (fvW L) left cnt rfl hrg ?_ ?_)
    · intro hl0
      gi_wp2
      go_end0
      exact ⟨⟨_, rfl⟩, .inl ⟨ss, hC.done hL (fun v hv => hl0 _ (hok v hv)), hJs⟩⟩
    · intro rr ii qq xv w2 cnt2 hN hen
      obtain ⟨v, hvL, hvd, rfl⟩ := fvW_some hN.val
      have hJ2 : J ss w2 := hJ ss wr w2 (some W.heap.size) hJs hN.grown (fun r e => by cases e; exact ⟨Nat.le_refl _, hrg.iter_walk⟩)
      have hJ3 : J ss (w2.alloc (.cells (cwcells v) 54)) := hJ ss w2 _ none hJ2 (World.grownBy_alloc _ _ _) (fun r e => by cases e)
      have hlt := hN.lt
      obtain ⟨fn, tmps, assign, body, hy, hR⟩ := hY ss v _ hJ3 (by omega)
      have hrg3 := hN.rng.alloc (.cells (cwcells v) 54)
      have HVL := Lib.hid hvL
      have HVd := Lib.hid hvd
      clear hvL hvd
      obtain ⟨⟨⟨⟨r1, i1⟩, s1⟩, ps1, uu1, t1, ⟨k1, n1, x1, p1, ds1⟩⟩, qa1, qc1, va1, vc1, pa1, pc1, da1, dc1⟩ := v
      simp only [cwv, cwcells] at hen hy ⊢
      gi_wp2
      refine hR.mono ?_
      rintro e W3 (⟨rfl, hJ4, hk3⟩ | ⟨rfl, hJx3⟩)
      · gi_wp2
        have hrg4 := hrg3.of_walks hk3
        go_roundw
        case rel => exact ⟨_, cnt2, ss ++ [(⟨⟨⟨⟨r1, i1⟩, s1⟩, ps1, uu1, t1, ⟨k1, n1, x1, p1, ds1⟩⟩, qa1, qc1, va1, vc1, pa1, pc1, da1, dc1⟩ : Cw)], hrg4, by simp; omega, hC.step hL HVL.out HVd.out hN.was, hJ4⟩
        case measure => rw [hrg4.left_eq, hrg.left_eq]; exact hlt
      · gi_wp2
        refine bodyPost_ret (results_none rfl _ _ _) rfl ?_
        exact ⟨⟨_, rfl⟩, .inr ⟨ss ++ [(⟨⟨⟨⟨r1, i1⟩, s1⟩, ps1, uu1, t1, ⟨k1, n1, x1, p1, ds1⟩⟩, qa1, qc1, va1, vc1, pa1, pc1, da1, dc1⟩ : Cw)], hJx3⟩⟩

/-- maps.Keys(m) hands back an iterator over m's keys -/
theorem valsC_stops (F : Fence) (n : Nat) (h10 : F.fn 137) (hro : F.round = none) (hn : 1 ≤ n) (Bm b nn : Nat) (L : List Cw) (hL : ((cms L).map (·.d)).Nodup) (hok : ∀ v ∈ L, okD v.c.d) (w : World)
    (hm : w.heap[Bm]? = some (.cells #[.map (some b)] 116 (0, 0))) (hown : MapF w Tryz.prog 49 mkD b nn (fvW L)) :
    SeqStopsK F n Tryz.prog 137 #[.pointer (some ⟨Bm, 0, none⟩)] (fun x : Cw => #[cwv x]) KeepsWalks (ValsIn L) (fun _ => True) nn w := fun l J Jx W hW hJ _ hY h0 => by
  have hc : W.cell? ⟨Bm, 0, none⟩ = some (.map (some b)) := by rw [cells_at ((hW.block Bm (heap_lt hm)).trans hm)]; rfl
  refine (valsC1_in F n h10 hro hn l Bm b nn L hL hok J Jx hY W hJ hc (hown.below hW) h0).mono ?_
  rintro e W' ⟨hv, h | ⟨pre, h⟩⟩
  · exact ⟨hv, .inl h⟩
  · exact ⟨hv, .inr ⟨pre, trivial, h⟩⟩

/-- block B holds a commit -/
def BoxC (W : World) (B : Nat) (x : Cw) : Prop := W.heap[B]? = some (.cells (cwcells x) 54 (0, 0))
theorem boxC_own {β : Type} (B : Nat) (x : Cw) : Own (fun (_ : β) W => BoxC W B x) := fun s X Y row hs hg hrow =>
  (hg.block B (heap_lt hs) (fun e' => by obtain ⟨o, ho, hc⟩ := hrow B e'.symm; rw [show X.heap[B]? = _ from hs] at ho; cases ho; cases hc)).trans hs

set_option maxRecDepth 100000 in
set_option maxHeartbeats 2000000 in
/-- slices.AppendSeq(nil, seq) -/
theorem appendSeqC_in (F : Fence) (n : Nat) (h11 : F.fn 187) (hro : F.round = none) (hn : 2 ≤ n) (g : Nat) (lb : Array Value) (hFg : F.fn g) (eg : ∀ args w, (callFunc g args).run Tryz.prog w = .ok (.enter g args) w)
    (S : List Cw → Prop) (N : Nat) (hN : N ≤ 1100000) (w : World) (hseq : SeqStopsK F (n - 1) Tryz.prog g lb (fun x : Cw => #[cwv x]) KeepsWalks S (fun _ => True) N w) :
    CallsIn F n Tryz.prog 187 #[.slice none 0 0, .func (.func g) #[] lb] w fun e w' => ∃ a c ss, e = .returned (.slice a (List.length ss) c) ∧ S ss ∧ w'.ownsRow w.heap.size 54 11 (.slice a ss.length c) ss.length (ccs ss) ∧ Below w.heap.size w w' := by
  have h1 : 1 ≤ n := by omega
  obtain ⟨i0, hi, hz0, hz1, hz2⟩ := info_parts Tryz.info_commit
  refine callsIn_of_wp_marks Tryz.func187 rfl h11 ?_ hro
  simp only [Tryz.ntmps187, List.size_toArray, List.length_cons, List.length_nil, Nat.reduceAdd, Nat.reduceSub, Array.replicate_succ, Array.replicate_zero, List.push_toArray, List.append_toArray, List.nil_append, List.cons_append]
  gi_wp2
  have bO := Boxed.new w 33 (.slice none 0 0)
  have hB0 : Below w.heap.size w (w.alloc (.cells #[.slice none 0 0] 33)) := (Below.refl _ w).alloc (Nat.le_refl _) _
  refine wpIn_rangeFunc_ownH hro h1 (gf := g) (lb := lb) rfl hFg eg hseq walksK_t walksK_b hB0 (fun _ => rfl)
    (fun pre W => (∃ v, Boxed W w.heap.size 33 v ∧ W.ownsRow w.heap.size 54 11 v pre.length (ccs pre) ∧ True) ∧ Below w.heap.size w W)
    (fun _ _ _ => False)
    (OwnFrom.and (Own.from (holdsRow_own w.heap.size w.heap.size 33 54 11 (fun pre => pre.length) (fun pre => ccs pre) (fun _ _ => True)) _) (ownFrom_below (Nat.le_refl _) (by simp)))
    (fun _ _ _ _ _ hs _ _ => hs)
    ⟨⟨_, bO, World.ownsRow_nil _ _ _ _, trivial⟩, hB0⟩
    (fun x a' W => ∃ Bx, BoxC W Bx x ∧ a' = { tmps := #[.slice none 0 0, .func (.func g) #[] lb, .pointer (some ⟨w.heap.size, 0, none⟩), undef, .slice none 0 0, .pointer (some ⟨Bx, 0, none⟩), .func (.func g) #[] lb, cwv x, undef, undef, undef, undef, undef], defers := [] })
    (fun x a' => fun s X Y row hs hg hr => by
      obtain ⟨Bx, hx, ha⟩ := hs
      exact ⟨Bx, Own.from (boxC_own Bx x) _ s X Y row hx hg hr, ha⟩) ?assign ?body ?done ?stop
  case assign =>
    rintro l pre x W K ⟨⟨v, hv, hrow, _⟩, hB⟩ hK
    obtain ⟨⟨⟨⟨r1, i1⟩, s1⟩, ps1, uu1, t1, ⟨k1, n1, x1, p1, ds1⟩⟩, qa1, qc1, va1, vc1, pa1, pc1, da1, dc1⟩ := x
    simp only [cwv, cwcells]
    gi_wp2
    exact hK _ _ ((KeepsOthers.alloc _ _).from _) (KeepsWalks.alloc _ _) ⟨⟨v, hv.alloc _, hrow.alloc _, trivial⟩, hB.alloc hB.size _⟩ ⟨W.heap.size, heap_new _ _, rfl⟩
  case body =>
    rintro l pre x a' W hl hr ⟨⟨v, hv, hrow, _⟩, hB⟩ ⟨Bx, hbx, rfl⟩ hlt
    have hc := hv.cell
    have cx := cells_at hbx
    obtain ⟨⟨⟨⟨r1, i1⟩, s1⟩, ps1, uu1, t1, ⟨k1, n1, x1, p1, ds1⟩⟩, qa1, qc1, va1, vc1, pa1, pc1, da1, dc1⟩ := x
    dsimp only [cwcells] at cx
    gi_wp2_with (gi_at_builtin; refine wpListIn_append_own _ rfl _ _ 33 rfl w.heap.size 54 i0 (.agg (ccells 0 0 0 none 0 0 none 0 0 0 0 none 0 0 0 ⟨#[]⟩ none 0 0)) 11 152 Tryz.underlying33 hi hz0 hz1 hz2 rfl (by decide) _ _ _ rfl (hrow.alloc _) ⟨W.heap.size, 0, none⟩ 1 1 (cwcells (⟨⟨⟨⟨r1, i1⟩, s1⟩, ps1, uu1, t1, ⟨k1, n1, x1, p1, ds1⟩⟩, qa1, qc1, va1, vc1, pa1, pc1, da1, dc1⟩ : Cw)).toList rfl rfl (World.news_of_block (cs := cwcells (⟨⟨⟨⟨r1, i1⟩, s1⟩, ps1, uu1, t1, ⟨k1, n1, x1, p1, ds1⟩⟩, qa1, qc1, va1, vc1, pa1, pc1, da1, dc1⟩ : Cw)) (t := 54) (fr := (0, 0)) (heap_alloc_new W _)) (by simp [Value.oneCell']) (by unfold maxLen; omega) (by omega) (by have := hB.size; simp; omega) ?_; intro v' w1 hown' hgrow _; obtain ⟨g', cap', rfl⟩ := ownsRow_succ hown'; obtain ⟨hv1, hv2, hr2, hk2, hb2⟩ := hv.appended (by decide) hrow hB.size (Nat.le_refl _) hown' hgrow; have hc1 := hv1.cell; have hf1 := hv1.frozen)
    refine ⟨hk2.from _, ?_, ⟨_, hv2, ?_⟩, hB.trans hb2⟩
    · exact ⟨hk2.size, fun k o hk ho => hk2.same k o hk (Obj.not_cells_of_walk ho)⟩
    · rw [ccs_snoc]; simpa [ccel] using hr2
  case done =>
    rintro D ys W hD hS ⟨⟨v, hv, hrow, _⟩, hB⟩ hK
    have hc := hv.cell
    obtain ⟨a, c, rfl⟩ := owns_slice hrow
    gi_wp2
    refine ⟨by simp, .inl ⟨_, _, rfl, run_takeDeferred hK, ?_⟩⟩
    exact ⟨_, results_tmp rfl _ _ _, a, c, ys, rfl, hS, ownsRow_putObj hrow _ hK rfl, hB.trans (belowK_b (w := w) (Nat.le_refl _) W D _ _ (by simp at hD; omega) hK rfl rfl)⟩
  case stop =>
    rintro D c pre W _ _ h _
    exact h.elim
/-- slices.Collect(maps.Keys(m)) -/
theorem collectC_vals (Bm b nn : Nat) (L : List Cw) (hL : ((cms L).map (·.d)).Nodup) (hok : ∀ v ∈ L, okD v.c.d) (w : World) (hm : w.heap[Bm]? = some (.cells #[.map (some b)] 116 (0, 0))) (hown : MapF w Tryz.prog 49 mkD b nn (fvW L)) (hN : nn ≤ 1100000) :
    Calls Tryz.prog 136 #[.func (.func 137) #[] #[.pointer (some ⟨Bm, 0, none⟩)]] w fun e w' =>
      ∃ a c ss, e = .returned (.slice a (List.length ss) c) ∧ ValsIn L ss ∧ w'.ownsRow w.heap.size 54 11 (.slice a ss.length c) ss.length (ccs ss) ∧ Below w.heap.size w w' := by
  have hc := (callsIn_wide (n := 5)).1 (appendSeqC_in Fence.wide 5 trivial rfl (by omega) _ _ trivial (enters_of Tryz.func137 (by kernel_rfl) rfl) (ValsIn L) nn hN w
    (valsC_stops Fence.wide 4 trivial rfl (by omega) Bm b nn L hL hok w hm hown))
  have Hc := Lib.hid hc
  clear hc hm hown
  go_enter Tryz.func136, Tryz.ntmps136
  go_wp2_with fail
  refine Hc.out.mono ?_
  rintro e w' ⟨a, c, ss, rfl, h⟩
  go_wp2_with fail
  go_ret
  exact ⟨a, c, ss, rfl, h⟩

end Go.Proofs.YtaandcblndldmaaGreat

/- GraU -/
namespace Go.Proofs.YtaandcblndldmaaGreat
open Go.RowKit
set_option linter.unusedVariables false
set_option linter.unusedSimpArgs false

/-! sorting nothing -/
theorem insertionC_none (p : Option Addr) (cap : Nat) (fv : Value) (w : World) :
    Calls Tryz.prog 154 #[.slice p 0 cap, .int .i64 0, .int .i64 0, fv] w fun e w' => e = .returned (.tuple #[]) ∧ w' = w := by
  go_enter Tryz.func154, Tryz.ntmps154
  go_wp2
  refine wp_loop_rounds 1 ?_
  rw [rounds_succ]
  go_wp2
  go_end0
  exact ⟨rfl, rfl⟩
theorem pdqC_none (p : Option Addr) (cap : Nat) (lim : Int) (fv : Value) (w : World) :
    Calls Tryz.prog 120 #[.slice p 0 cap, .int .i64 0, .int .i64 0, .int .i64 lim, fv] w fun e w' => e = .returned (.tuple #[]) ∧ w' = w := by
  go_enter Tryz.func120, Tryz.ntmps120
  go_wp2
  refine wp_loop_rounds 1 ?_
  rw [rounds_succ]
  go_wp2_with (go_at_call 154; refine (insertionC_none _ _ _ _).mono ?_; rintro e w' ⟨rfl, rfl⟩)
  (try simp only [Exit.inBlock, Exit.then]); refine bodyPost_ret (results_none rfl _ _ _) rfl ?_
  exact ⟨rfl, rfl⟩
theorem sortC_none (p : Option Addr) (cap : Nat) (fv : Value) (w : World) :
    Calls Tryz.prog 56 #[.slice p 0 cap, fv] w fun e w' => e = .returned (.tuple #[]) ∧ w' = w := by
  go_enter Tryz.func56, Tryz.ntmps56
  go_wp2_with (first | (go_at_call 121; refine (bitsLen_zero _).mono ?_; rintro e w' ⟨rfl, rfl⟩) | (go_at_call 120; refine (pdqC_none _ _ _ _ _).mono ?_; rintro e w' ⟨rfl, rfl⟩))
  go_end0
  exact ⟨rfl, rfl⟩

/-! sorting commits -/
instance : Inhabited Cw := ⟨zeroCw⟩
def ltC (a b : Cm) : Prop := a.t < b.t ∨ a.t = b.t ∧ lessD a.d b.d = true
theorem ltC_irrefl (a : Cm) : ¬ ltC a a := by unfold ltC; rw [lessD_irrefl]; rintro (h | ⟨_, h⟩); omega; cases h
theorem ltC_trans {a b c : Cm} (h : ltC a b) (k : ltC b c) : ltC a c := by
  unfold ltC at *
  rcases h with h | ⟨h1, h2⟩
  · rcases k with k | ⟨k1, k2⟩
    · left; omega
    · left; omega
  · rcases k with k | ⟨k1, k2⟩
    · left; omega
    · right; exact ⟨by omega, lessD_trans h2 k2⟩
theorem ltC_total {a b : Cm} (h : a.d ≠ b.d) : ltC a b ∨ ltC b a := by
  unfold ltC
  rcases Int.lt_trichotomy a.t b.t with h1 | h1 | h1
  · exact .inl (.inl h1)
  · rcases lessD_total h with h2 | h2
    · exact .inl (.inr ⟨h1, h2⟩)
    · exact .inr (.inr ⟨h1.symm, h2⟩)
  · exact .inr (.inl h1)
def cmpC (u v : Cw) : Int := orI [cmpI u.c.t v.c.t, cmpDD u.c.d v.c.d]
theorem cmpC_neg (u v : Cw) : cmpC u v < 0 ↔ ltC u.c v.c := by
  simp only [cmpC, cmpI, orI, ltC, cmpDD_eq]
  rcases Int.lt_trichotomy u.c.t v.c.t with h | h | h
  · simp [h]
  · rw [← cmpD_neg]; by_cases e : cmpD u.c.d v.c.d = 0 <;> simp [h, e]
  · simp [h, show ¬ u.c.t < v.c.t by omega, show ¬ u.c.t = v.c.t by omega]
open Classical in
theorem ltC_of (a b : Cw) : ltOf cmpC a b = decide (ltC a.c b.c) := by
  unfold ltOf
  rw [Bool.eq_iff_iff]
  simp [cmpC_neg]
theorem swoC : Sort.SWO (ltOf cmpC) where
  irrefl x := by rw [ltC_of]; simpa using ltC_irrefl x.c
  trans x y z h1 h2 := by rw [ltC_of] at *; simp at *; exact ltC_trans h1 h2
  ntrans x y z h1 h2 := by
    rw [ltC_of] at *
    simp only [decide_eq_false_iff_not, ltC, lessD_iff] at *
    omega
theorem cmpC_any (u v : Cw) (w : World) : Calls Tryz.prog 86 #[.agg (cwcells u), .agg (cwcells v)] w fun e w' => e = .returned (.int .i64 (cmpC u v)) ∧ Grown w w' := by
  obtain ⟨⟨⟨⟨r, i⟩, s⟩, ps, vv, t, ⟨k, n, x, p, ds⟩⟩, qa, qc, va, vc, pa, pc, da, dc⟩ := u
  obtain ⟨⟨⟨⟨r', i'⟩, s'⟩, ps', vv', t', ⟨k', n', x', p', ds'⟩⟩, qa', qc', va', vc', pa', pc', da', dc'⟩ := v
  simp only [cwcells]
  go_enter Tryz.func86, Tryz.ntmps86
  go_wp2_with fail
  refine region_text [([0, 1, 2, 3, 5, 6, 7, 8], false), ([4], true), ([9, 10, 11, 12], false)] mixed (by kernel_rfl) ?_
  simp only [wpSegs, List.map_cons, List.map_nil, List.getD_cons_succ, List.getD_cons_zero]
  go_wp2_with fail
  refine (cmpu64 _ _ _).mono ?_
  rintro e w' ⟨rfl, rfl⟩
  go_wp2_with fail
  refine And.intro (Agree.refl _) ?_
  go_wp2_with fail
  refine (compareD_any r i s r' i' s' _).mono ?_
  rintro e w1 ⟨rfl, hg⟩
  go_wp2_with fail
  refine (or_any _ [cmpI t t', cmpDD ((r, i), s) ((r', i'), s')] _ (two_at (t := 3) ?hx) (by simp)).mono ?_
  case hx => exact heap_new _ _
  rintro e w' ⟨rfl, rfl⟩
  go_wp2_with fail
  refine And.intro (by kernel_rfl) ?_
  go_wp2_with fail
  go_ret
  exact ⟨rfl, (((((Grown.refl w).alloc _).alloc _).drew).trans hg).alloc _⟩
/-- commits in a row of its own -/
def OwnC (w : World) (base : Nat) (a : Option Addr) (c : Nat) (l : List Cw) : Prop := w.ownsRow base 54 11 (.slice a l.length c) l.length (ccs l)
theorem cmpLaysC (blk off size : Nat) (w : World) : CmpLays Tryz.prog 86 #[] ccel 11 cmpC blk off size w :=
  fun _ _ _ _ x y => cmpC_any x y _
theorem sortC_any (a : Option Addr) (c base : Nat) (l : List Cw) (w : World) (h : OwnC w base a c l) (hl : l.length ≤ 1100000) :
    Calls Tryz.prog 56 #[.slice a l.length c, .func (.func 86) #[] #[]] w fun e w' => e = .returned (.tuple #[]) ∧
      ∃ l', l'.length = l.length ∧ l'.Perm l ∧ l'.Pairwise (fun x y => ¬ ltC y.c x.c) ∧ OwnC w' base a c l' ∧ Chg (ob a) w w' := by
  by_cases h0 : l = []
  · subst h0
    exact (sortC_none a c _ w).mono fun e w' ⟨he, hw⟩ => ⟨he, [], rfl, .refl _, .nil, hw ▸ h, hw ▸ Chg.refl _ _⟩
  obtain ⟨blk, rfl⟩ : ∃ blk, a = some ⟨blk, 0, none⟩ := by
    rcases h.2 with ⟨h1, h2⟩ | ⟨g, cap, cur, h1, _⟩
    · simp at h1; exact absurd h1.2.1 h0
    · simp at h1; exact ⟨g, h1.1⟩
  obtain ⟨hH, hlt⟩ := holdsK_of ccel_len (by omega) h
  have hcon := AnyQ.slices_SortFunc Tryz.sortC 11 Tryz.isAgg54 Tryz.sizeOf54 ccel ccel_len (fun x v hv => ccel_one x v hv) cmpC swoC 86 #[] blk 0 c l.toArray w (enters_of Tryz.func86 (by kernel_rfl) rfl) (cmpLaysC blk 0 _ w) hH hlt (by simp; omega)
  change Calls Tryz.prog 56 _ _ _ at hcon
  have e1 : l.toArray.size = l.length := by simp
  rw [e1] at hcon
  refine hcon.mono ?_
  rintro e w' ⟨rfl, d', n, os, hp, hs, rfl⟩
  have hperm : d'.toList.Perm l := by have := permIn_list (d := l.toArray) (by rw [e1]; exact hp); simpa using this
  have hlen : d'.toList.length = l.length := hperm.length_eq
  obtain ⟨h1, h2⟩ := sorted_owns (n := n) (os := os) ccel_len (by omega) hlen h
  refine ⟨rfl, d'.toList, hlen, hperm, ?_, ?_, by simpa [ob] using h2⟩
  · have := sortedIn_list (lt := ltOf cmpC) (by rw [← hlen]; simp) hs
    refine this.imp fun {x y} hxy => ?_
    rw [ltC_of] at hxy
    simpa using hxy
  · unfold OwnC
    rw [hlen]
    simpa [ccs] using h1
/-- commits in their order -/
def SortedC (S : List Cm) : Prop := S.Pairwise ltC
theorem sortedC_of {l : List Cw} (hn : ((cms l).map (·.d)).Nodup) (h : l.Pairwise fun x y => ¬ ltC y.c x.c) : SortedC (cms l) := by
  unfold SortedC cms
  rw [List.pairwise_map]
  have h2 : l.Pairwise fun x y => x.c.d ≠ y.c.d := by
    have := hn
    unfold cms at this
    rw [List.map_map] at this
    exact List.pairwise_map.1 this
  refine (h.and h2).imp fun {x y} ⟨h1, h3⟩ => ?_
  rcases ltC_total h3 with e | e
  · exact e
  · exact absurd e h1
/-- slices.SortedFunc(maps.Values(m), ..) -/
theorem sortedFunc_vals (Bm b nn : Nat) (L : List Cw) (hL : ((cms L).map (·.d)).Nodup) (hok : ∀ v ∈ L, okD v.c.d) (w : World) (hm : w.heap[Bm]? = some (.cells #[.map (some b)] 116 (0, 0))) (hown : MapF w Tryz.prog 49 mkD b nn (fvW L)) (hN : nn ≤ 1100000) (hLn : L.length ≤ 1100000) :
    Calls Tryz.prog 84 #[.func (.func 137) #[] #[.pointer (some ⟨Bm, 0, none⟩)], .func (.func 86) #[] #[]] w fun e w' =>
      ∃ a c ss, e = .returned (.slice a (List.length ss) c) ∧ ss.Perm L ∧ SortedC (cms ss) ∧ OwnC w' w.heap.size a c ss ∧ Below w.heap.size w w' := by
  have Hc := Lib.hid (collectC_vals Bm b nn L hL hok w hm hown hN)
  clear hm hown
  go_enter Tryz.func84, Tryz.ntmps84
  go_wp2_with fail
  refine Hc.out.mono ?_
  rintro e w1 ⟨a, c, ss, rfl, hK, hrow, hB⟩
  have hK : ss.Perm L := hK
  have HB := Lib.hid hB
  have Hrow := Lib.hid (show OwnC w1 w.heap.size a c ss from hrow)
  have hl0 : ss.length ≤ 1100000 := by rw [hK.length_eq]; exact hLn
  have HK := Lib.hid hK
  clear hrow hB hK Hc
  go_wp2_with fail
  refine (sortC_any a c w.heap.size ss w1 Hrow.out hl0).mono ?_
  rintro e w2 ⟨rfl, l', hl, hp, hs, hrow2, hc2⟩
  have HR := Lib.hid hrow2
  have Hl := Lib.hid hl
  have HP := Lib.hid (hp.trans HK.out)
  have HS := Lib.hid (sortedC_of (l := l') (by
    have h1 : ((cms l').map (·.d)).Perm ((cms L).map (·.d)) := ((hp.trans HK.out).map _).map _
    exact h1.nodup_iff.2 hL) hs)
  have HB2 := Lib.hid (HB.out.trans (hc2.below HB.out.size (fun k hk => (owns_lt Hrow.out k hk).1)))
  clear hl hp hs hrow2 hc2
  go_wp2_with fail
  go_ret
  exact ⟨a, c, l', by rw [Hl.out]; rfl, HP.out, HS.out, HR.out, HB2.out⟩
end Go.Proofs.YtaandcblndldmaaGreat

/- GraV -/
/- GraV -/
namespace Go.Proofs.YtaandcblndldmaaGreat
open Go.RowKit
set_option linter.unusedVariables false
set_option linter.unusedSimpArgs false

theorem ccs_length (l : List Cw) : (ccs l).length = l.length * 11 := by
  induction l with
  | nil => rfl
  | cons v l ih => simp only [ccs, List.flatMap_cons, List.length_append, List.length_cons] at *; rw [ih, ccel_len]; omega
theorem ccs_at {l : List Cw} {i : Nat} {v : Cw} (h : l[i]? = some v) : ∀ j, j < 11 → (ccs l)[i * 11 + j]? = (ccel v)[j]? := fun j hj => flatMap_at (enc := ccel) (k := 11) ccel_len l i j v h hj
theorem ccs_append (a b : List Cw) : ccs (a ++ b) = ccs a ++ ccs b := by simp [ccs]
theorem ccs_take (l : List Cw) (j : Nat) : (ccs l).take (j * 11) = ccs (l.take j) := by
  induction l generalizing j with
  | nil => simp [ccs]
  | cons v l ih =>
    cases j with
    | zero => simp [ccs]
    | succ j =>
      have hl := ccel_len v
      have := ih j
      simp only [ccs, List.flatMap_cons, List.take_succ_cons] at this ⊢
      rw [List.take_append, hl, show (j + 1) * 11 - 11 = j * 11 by omega, this, List.take_of_length_le (by omega)]
theorem ccs_drop (l : List Cw) (j : Nat) : (ccs l).drop (j * 11) = ccs (l.drop j) := by
  induction l generalizing j with
  | nil => simp [ccs]
  | cons v l ih =>
    cases j with
    | zero => simp [ccs]
    | succ j =>
      have hl := ccel_len v
      have := ih j
      simp only [ccs, List.flatMap_cons, List.drop_succ_cons] at this ⊢
      rw [List.drop_append, hl, show (j + 1) * 11 - 11 = j * 11 by omega, this, List.drop_eq_nil_of_le (by omega), List.nil_append]
theorem ccs_set {l : List Cw} {j : Nat} (u : Cw) (hj : j < l.length) : (ccs l).take (j * 11) ++ ccel u ++ (ccs l).drop (j * 11 + 11) = ccs (l.set j u) := by
  rw [show j * 11 + 11 = (j + 1) * 11 by omega, ccs_take, ccs_drop, List.set_eq_take_append_cons_drop, if_pos hj, ccs_append]
  simp [ccs]
/-- many cells stored in a row of one's own -/
theorem owns_setCells {base : Nat} {e : TypeId} {size n g c : Nat} : ∀ (vs : List Value) (o : Nat) (w : World) (xs : List Value), w.ownsRow base e size (.slice (some ⟨g, 0, none⟩) n c) n xs → o + vs.length ≤ xs.length →
    (w.setCells g o vs).ownsRow base e size (.slice (some ⟨g, 0, none⟩) n c) n (xs.take o ++ vs ++ xs.drop (o + vs.length))
  | [], o, w, xs, h, _ => by simpa [World.setCells] using h
  | v :: vs, o, w, xs, h, ho => by
    simp only [List.length_cons] at ho
    have h1 := owns_setCells vs (o + 1) (w.setCell ⟨g, o, none⟩ v) (xs.set o v) (World.ownsRow.stored h o v).1 (by simp; omega)
    have e : (xs.set o v).take (o + 1) ++ vs ++ (xs.set o v).drop (o + 1 + vs.length) = xs.take o ++ (v :: vs) ++ xs.drop (o + (v :: vs).length) := by
      rw [List.take_set, List.drop_set_of_lt (by omega), List.length_cons, show o + (vs.length + 1) = o + 1 + vs.length by omega]
      have : (xs.take (o + 1)).set o v = xs.take o ++ [v] := by
        rw [List.take_add_one, List.set_append]
        simp [show o < xs.length by omega]
        rw [Nat.min_eq_left (by omega), if_neg (by omega), Nat.sub_self]; rfl
      rw [this]; simp
    rw [e] at h1
    exact h1
theorem chg_setCells (b : Nat) : ∀ (vs : List Value) (o : Nat) (w : World), Chg [b] w (w.setCells b o vs)
  | [], o, w => Chg.refl _ _
  | v :: vs, o, w => (Chg.setCell w ⟨b, o, none⟩ v).trans (chg_setCells b vs (o + 1) _) (by simp)
theorem OwnC.put {w : World} {base g c q : Nat} {M : List Cw} (u : Cw) (h : OwnC w base (some ⟨g, 0, none⟩) c M) (hq : q < M.length) :
    OwnC (w.setCells g (q * 11) (ccel u)) base (some ⟨g, 0, none⟩) c (M.set q u) ∧ Chg [g] w (w.setCells g (q * 11) (ccel u)) := by
  refine ⟨?_, chg_setCells _ _ _ _⟩
  have h1 := owns_setCells (ccel u) (q * 11) w (ccs M) h (by rw [ccel_len, ccs_length]; omega)
  rw [ccel_len, ccs_set u hq] at h1
  unfold OwnC
  rw [List.length_set]
  exact h1
theorem OwnC.range {w : World} {base g c q : Nat} {M : List Cw} {v : Cw} (h : OwnC w base (some ⟨g, 0, none⟩) c M) (hv : M[q]? = some v) : w.rangeAt g (q * 11) (ccel v) := fun j x hx => by
  have hq : q < M.length := (List.getElem?_eq_some_iff.1 hv).1
  have hj : j < 11 := by have := (List.getElem?_eq_some_iff.1 hx).1; rwa [ccel_len] at this
  rw [World.ownsRow.cellAt h (q * 11 + j) (by omega), ccs_at hv j hj, hx]
theorem OwnC.there {w : World} {base g c q : Nat} {M : List Cw} {v : Cw} (h : OwnC w base (some ⟨g, 0, none⟩) c M) (hv : M[q]? = some v) : w.there g (q * 11) 11 := fun j hj =>
  ⟨World.rangeAt.isSome (h.range hv) j (by rw [ccel_len]; exact hj), World.ownsRow.frozenAt h _⟩
theorem OwnC.chg {w w' : World} {base : Nat} {a : Option Addr} {c : Nat} {M : List Cw} {F : List Nat} (h : OwnC w base a c M) (hc : Chg F w w') (hF : ∀ k ∈ ob a, k ∉ F) : OwnC w' base a c M := owns_chg h hc hF
theorem OwnC.below {w w' : World} {base : Nat} {a : Option Addr} {c : Nat} {M : List Cw} (h : OwnC w base a c M) (hb : Below w.heap.size w w') : OwnC w' base a c M := owns_chg (F := []) h (Chg.of_below hb) (by simp)

/-- the row while its commits are made one's own -/
structure ComE (w wr : World) (g c : Nat) (S M : List Cw) (q : Nat) : Prop where
  len : M.length = S.length
  same : cms M = cms S
  own : OwnC wr w.heap.size (some ⟨g, 0, none⟩) c M
  done : ∀ v ∈ M.take q, CwOwn wr w.heap.size v
  rest : M.drop q = S.drop q
  bel : Below w.heap.size w wr
theorem ComE.at_ {w wr : World} {g c : Nat} {S M : List Cw} {q : Nat} (h : ComE w wr g c S M q) (hq : q < S.length) : M[q]? = some S[q] := by
  have h1 : (M.drop q)[0]? = (S.drop q)[0]? := by rw [h.rest]
  simpa [List.getElem?_drop, hq] using h1
theorem ComE.step {w wr w2 : World} {g c : Nat} {S M : List Cw} {q : Nat} {u : Cw} (h : ComE w wr g c S M q) (hq : q < S.length) (hb : Below wr.heap.size wr w2) (hu : u.c = S[q].c) (ho : CwOwn w2 w.heap.size u) :
    ComE w (w2.setCells g (q * 11) (ccel u)) g c S (M.set q u) (q + 1) := by
  have hqm : q < M.length := by rw [h.len]; exact hq
  have hgw : w.heap.size ≤ g := (World.ownsRow.lt h.own g rfl).1
  obtain ⟨h1, h2⟩ := (h.own.below hb).put u hqm
  have hn : NoRow w2 [g] := by
    intro k hk C t fr hh
    simp at hk
    subst hk
    obtain ⟨C', fr', hh'⟩ := ob_row (h.own.below hb) k (by simp [ob])
    rw [hh] at hh'
    cases hh'
    exact ⟨by decide, by decide⟩
  refine ⟨by rw [List.length_set]; exact h.len, ?_, h1, fun v hv => ?_, ?_, (below2 h.bel hb h.bel.size).trans (h2.below (Nat.le_trans h.bel.size hb.size) (by simpa using hgw))⟩
  · have e1 : cms (M.set q u) = (cms M).set q u.c := by unfold cms; rw [List.map_set]
    rw [e1, h.same, hu]
    unfold cms
    apply List.ext_getElem?
    intro k
    by_cases e : q = k
    · subst e; simp [hq]
    · simp [List.getElem?_set, e]
  · rw [List.take_set, List.take_add_one, List.set_append] at hv
    have hl : (M.take q).length = q := by rw [List.length_take]; omega
    rw [if_neg (by omega), hl, Nat.sub_self, List.getElem?_eq_getElem hqm] at hv
    simp at hv
    rcases hv with hv | rfl
    · exact ((h.done v hv).below hb).chg h2 hn
    · exact ho.chg h2 hn
  · rw [List.drop_set_of_lt (by omega)]
    have := congrArg (List.drop 1) h.rest
    simpa [List.drop_drop, Nat.add_comm] using this
theorem valsC_any (mb : Nat) (w : World) : Calls Tryz.prog 85 #[.map (some mb)] w fun e w' =>
    e = .returned (.func (.func 137) #[] #[.pointer (some ⟨w.heap.size, 0, none⟩)]) ∧ w' = w.alloc (.cells #[.map (some mb)] 116) := by
  go_enter Tryz.func85, Tryz.ntmps85
  go_wp2_with fail
  go_ret
  exact ⟨rfl, rfl⟩
theorem wpList_load_cw {ops : Array Oper} {rest : List Oper} {op : Oper} {a : Act} {w : World} {Q : Exit → Act → World → Prop} (hgd : op.guard = none) (x : Operand) (ho : op.op = .load 54 x)
    (g o : Nat) (hx : a.eval x = .pointer (some ⟨g, o, none⟩)) (v : Cw) (hc : w.rangeAt g o (ccel v)) (h : wpList Tryz.prog ops Q rest (a.put op.dst (.agg (cwcells v))) w) : wpList Tryz.prog ops Q (op :: rest) a w :=
  wpList_load_mid hgd _ x ho g o hx (ccel v) _ hc Tryz.underlying54 rfl (by rw [ccel_len]; kernel_rfl) (by simpa [ccel] using h)
end Go.Proofs.YtaandcblndldmaaGreat

/- GraX -/
namespace Go.Proofs.YtaandcblndldmaaGreat
open Go.RowKit
set_option linter.unusedVariables false
set_option linter.unusedSimpArgs false

/-- the commits in their order, in rows of one's own -/
def ComsTo (w : World) (L : List Cm) (e : Ending) (w' : World) : Prop :=
  ∃ a c ss, e = .returned (.slice a (List.length ss) c) ∧ (cms ss).Perm L ∧ SortedC (cms ss) ∧ OwnC w' w.heap.size a c ss ∧ (∀ v ∈ ss, CwOwn w' w.heap.size v) ∧ Below w.heap.size w w'
set_option maxRecDepth 100000 in
set_option maxHeartbeats 8000000 in
theorem commits_G (pg mb : Nat) (w0 : World) (m : Nat) (b : Bw) (L : List Cw) (va : Option Addr) (vc : Nat) (vv : List Dt) (w : World) (h : GrAt w pg mb w0 m b L va vc vv) :
    Calls Tryz.prog 29 #[.pointer (some ⟨pg, 0, none⟩)] w (ComsTo w (cms L)) := by
  have H := Lib.hid h
  have hpg := heap_lt h.blk
  have g0 := cells_at h.blk
  simp only [gcells] at g0
  have hlen := fun ty => h.map.len Tryz.underlying116 ty
  have hmax := h.max
  clear h
  go_enter Tryz.func29, Tryz.ntmps29
  go_wp2_with fail
  refine (none_some pg mb _ H.out.c5).mono ?_
  rintro e w1 ⟨rfl, rfl⟩
  by_cases h0 : L = []
  · subst h0
    have hlen0 : ∀ ty, (Builtin.len_ #[116] ty #[.map (some mb)]).run Tryz.prog w1 = .ok (.int .i64 0) w1 := hlen
    clear hlen
    go_wp2_with fail
    go_ret
    exact ⟨none, 0, [], rfl, .refl _, .nil, World.ownsRow_nil _ _ _ _, by simp, Below.refl _ _⟩
  have hL0 : 0 < L.length := List.length_pos_iff.2 h0
  have e0 : decide ((L.length : Int) = 0) = false := by simp; omega
  have e0' : ((L.length : Int) == 0) = false := by simp; omega
  go_wp2_with fail
  refine (valsC_any mb _).mono ?_
  rintro e w2 ⟨rfl, hw2⟩
  have hB2 : Below w1.heap.size w1 w2 := by rw [hw2]; exact (Below.refl _ _).alloc (Nat.le_refl _) _
  have hm2 : w2.heap[w1.heap.size]? = some (.cells #[.map (some mb)] 116 (0, 0)) := by rw [hw2]; exact heap_new _ _
  have HB2 := Lib.hid hB2
  have HM2 := Lib.hid hm2
  clear hB2 hm2 hw2 hlen
  go_wp2_with fail
  refine (sortedFunc_vals w1.heap.size mb L.length L H.out.nodup (fun v hv => (H.out.each v hv).ok.d) w2 HM2.out (H.out.below HB2.out).map.mapF (by omega) (by omega)).mono ?_
  rintro e w3 ⟨a, c, S, rfl, hp, hs, ho, hb3⟩
  have hS0 : 0 < S.length := by have := hp.length_eq; omega
  have hSm : S.length ≤ 200 := by have := hp.length_eq; omega
  obtain ⟨g, rfl⟩ : ∃ g, a = some ⟨g, 0, none⟩ := by
    rcases ho.2 with ⟨h1, h2⟩ | ⟨g, cap, cur, h1, _⟩
    · simp at h1; omega
    · simp at h1; exact ⟨g, h1.1⟩
  have HP := Lib.hid hp
  have HS := Lib.hid hs
  have hE : ComE w1 w3 g c S S 0 := ⟨rfl, rfl, owns_base ho HB2.out.size, by simp, rfl, below2 HB2.out hb3 HB2.out.size⟩
  have HE := Lib.hid hE
  clear hp hs ho hb3 hE HB2 HM2 e0 e0' hL0 h0
  go_wp2_with fail
  go_loopw [24] (fun j wr => ∃ (q : Nat) (M : List Cw), q ≤ S.length ∧ j = .int .i64 q ∧ ComE w1 wr g c S M q) (fun j _ => S.length - (intOf j).toNat)
  case atStart => exact ⟨0, S, Nat.zero_le _, rfl, HE.out⟩
  case round =>
    obtain ⟨q, M, hq, rfl, hE⟩ := hrel
    have E := Lib.hid hE
    clear hE
    by_cases hlt : q < S.length
    · have hx := E.out.at_ hlt
      have hv : S[q] ∈ L := HP.out.subset (List.getElem_mem hlt)
      have hcw : CwAt wr S[q] := (H.out.each _ hv).at_.below E.out.bel
      have hmay := H.out.may _ hv
      have hrg := E.out.own.range hx
      have hth := E.out.own.there hx
      have h1 : S[q].c.ps.length ≤ 1100000 := by have := hmay.few; omega
      have h2 : S[q].c.vv.length ≤ 1100000 := by have := canon_few hmay.canon; omega
      have h3 : S[q].c.o.p.length ≤ 1100000 := by have := hmay.op.path.2.1; omega
      have h4 : S[q].c.o.ds.length ≤ 1100000 := by have := hmay.op.few; omega
      obtain ⟨V, hV⟩ : ∃ V, V = S[q] := ⟨_, rfl⟩
      rw [← hV] at hcw hrg h1 h2 h3 h4
      have HV := Lib.hid hV
      have HC := Lib.hid hcw
      have HX := Lib.hid hx
      have HG := Lib.hid hrg
      clear hx hv hcw hmay hrg hth hV
      obtain ⟨⟨⟨⟨r, i⟩, s⟩, ps, uu, t, ⟨k, n, x, p, ds⟩⟩, qa, qc, ua, uc, pa, pc, da, dc⟩ := V
      go_wp2_with (refine wpList_load_cw rfl _ rfl g (q * 11) (by first | rfl | simp [Addr.add]) ⟨⟨((r, i), s), ps, uu, t, ⟨k, n, x, p, ds⟩⟩, qa, qc, ua, uc, pa, pc, da, dc⟩ HG.out ?_; simp only [cwcells])
      refine (ownC_any ⟨⟨((r, i), s), ps, uu, t, ⟨k, n, x, p, ds⟩⟩, qa, qc, ua, uc, pa, pc, da, dc⟩ _ (HC.out.below ((Below.refl _ _).alloc (Nat.le_refl _) _)) h1 h2 h3 h4).mono ?_
      rintro e w4 ⟨u, rfl, huc, how, hb⟩
      obtain ⟨hx0, hz1, hB1⟩ := new1 hb
      have HB1 := Lib.hid hB1
      have HU := Lib.hid huc
      have HO := Lib.hid how
      have hxv : M[q]? = some ⟨⟨((r, i), s), ps, uu, t, ⟨k, n, x, p, ds⟩⟩, qa, qc, ua, uc, pa, pc, da, dc⟩ := by rw [HX.out, ← HV.out]
      have E4 := E.out.own.below hB1
      have rg := E4.range hxv
      have c0 : w4.cell? ⟨g, q * 11, none⟩ = some (.int .u8 r) := rg 0 _ rfl
      have c1 : w4.cell? ⟨g, q * 11 + 1, none⟩ = some (.int .u32 i) := rg 1 _ rfl
      have c2 : w4.cell? ⟨g, q * 11 + 2, none⟩ = some (.int .u64 s) := rg 2 _ rfl
      have c3 : w4.cell? ⟨g, q * 11 + 3, none⟩ = some (.slice qa ps.length qc) := rg 3 _ rfl
      have c4 : w4.cell? ⟨g, q * 11 + 4, none⟩ = some (.slice ua uu.length uc) := rg 4 _ rfl
      have c5 : w4.cell? ⟨g, q * 11 + 5, none⟩ = some (.int .u64 t) := rg 5 _ rfl
      have c6 : w4.cell? ⟨g, q * 11 + 6, none⟩ = some (.int .u8 k) := rg 6 _ rfl
      have c7 : w4.cell? ⟨g, q * 11 + 7, none⟩ = some (.slice pa p.length pc) := rg 7 _ rfl
      have c8 : w4.cell? ⟨g, q * 11 + 8, none⟩ = some (.int .i64 n) := rg 8 _ rfl
      have c9 : w4.cell? ⟨g, q * 11 + 9, none⟩ = some (.string x) := rg 9 _ rfl
      have c10 : w4.cell? ⟨g, q * 11 + 10, none⟩ = some (.slice da ds.length dc) := rg 10 _ rfl
      have fz : ∀ o, w4.frozen? ⟨g, o, none⟩ = false := fun o => World.ownsRow.frozenAt E4 o
      have ES := Lib.hid (E.out.step hlt hB1 (u := u) (by rw [huc, ← HV.out]) (how.base (by have := E.out.bel.size; simp; omega)))
      clear hb hx0 hB1 huc how hxv E4 rg
      obtain ⟨⟨⟨⟨r9, i9⟩, s9⟩, ps9, uu9, t9, ⟨k9, n9, x9, p9, ds9⟩⟩, qa9, qc9, ua9, uc9, pa9, pc9, da9, dc9⟩ := u
      simp only [cwcells]
      go_wp2_with fail
      go_roundw
      case rel => exact ⟨q + 1, _, by omega, by go_num, ES.out⟩
      case measure => simp [intOf]; omega
    · have hqe : q = S.length := by omega
      subst hqe
      go_wp2_with fail
      go_ret
      refine ⟨some ⟨g, 0, none⟩, c, M, (by rw [E.out.len]; rfl), ?_, ?_, E.out.own, fun v hv => E.out.done v (by rw [← E.out.len, List.take_length]; exact hv), E.out.bel⟩
      · rw [E.out.same]; exact HP.out.map _
      · rw [E.out.same]; exact HS.out

end Go.Proofs.YtaandcblndldmaaGreat

/- GraW -/
namespace Go.Proofs.YtaandcblndldmaaGreat
open Go.RowKit
set_option linter.unusedVariables false
set_option linter.unusedSimpArgs false

end Go.Proofs.YtaandcblndldmaaGreat
