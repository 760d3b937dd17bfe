/- varvelaw12.known: the page's examples hold. | A graph that is not there, or was not made: it refuses. | maps.Values over a map of commits by dots; slices.AppendSeq, slices.Collect of it. (printed by wip/tools/genvalues.py) | Sorting commits by times and dots: contracts. (printed by wip/tools/gensortc.py) -/
import Derived.Test.YtbeblbgbngplhaaGreatGraM
/- GraQ -/
namespace Go.Proofs.YtbeblbgbngplhaaGreat
open Go.RowKit
set_option linter.unusedVariables false
set_option linter.unusedSimpArgs false

def kD : Dt := ((0, 1), 1)
def kD1 : Dt := ((1, 1), 1)
def kO : Opn := ⟨1, 5, ⟨#[]⟩, [⟨#[97]⟩], []⟩
def kC : Cm := ⟨kD, [], [kD], 1, kO⟩
def kL : Cm := ⟨kD1, [kD], [kD, kD1], 2, kO⟩
theorem hasG_nil (d : Dt) : hasG [] (findC []) d = false := by
  unfold hasG hasV
  have : getN [] d.1 = 0 := rfl
  rw [this]
  show (false || (may d && decide (d.2 ≤ 0))) = false
  cases h : may d with
  | false => rfl
  | true => have := ((may_iff d).1 h).2.1; simp; omega
theorem okD_k : okD kD := ⟨⟨by decide, by decide, by decide⟩, by decide, by decide⟩
theorem heap_at (w : World) (o : Obj) {k : Nat} (h : k = w.heap.size) : (w.alloc o).heap[k]? = some o := by subst h; exact heap_new w o
end Go.Proofs.YtbeblbgbngplhaaGreat

/- GraR -/
namespace Go.Proofs.YtbeblbgbngplhaaGreat
open Go.RowKit
set_option linter.unusedVariables false
set_option linter.unusedSimpArgs false

end Go.Proofs.YtbeblbgbngplhaaGreat

/- GraT -/
namespace Go.Proofs.YtbeblbgbngplhaaGreat
open Go.RowKit Go.Shelf
set_option linter.unusedVariables false
set_option linter.unusedSimpArgs false
attribute [local go_sem] Oper.semAt_some

theorem Tryz.info_commit : (Tryz.prog.info? 57).map (fun i => (i.zero, i.size, i.bytes)) = some (some (.agg (ccells 0 0 0 none 0 0 none 0 0 0 0 none 0 0 0 ⟨#[]⟩ none 0 0)), 11, 152) := by kernel_rfl
def ccel (v : Cw) : List Value := (cwcells v).toList
def ccs (l : List Cw) : List Value := l.flatMap ccel
theorem ccs_snoc (l : List Cw) (a : Cw) : ccs (l ++ [a]) = ccs l ++ ccel a := by simp [ccs]
theorem ccel_len (v : Cw) : (ccel v).length = 11 := rfl
theorem ccel_one (v : Cw) : ∀ u ∈ ccel v, u.oneCell' = true := by
  intro u hu
  simp [ccel] at hu
  rcases hu with rfl | rfl | rfl | rfl | rfl | rfl | rfl | rfl | rfl | rfl | rfl <;> rfl
/-- all commits, in whatever order -/
def ValsIn (L ss : List Cw) : Prop := ss.Perm L
/-- so far -/
structure CameC (L : List Cw) (left : Dt → Bool) (ss : List Cw) : Prop where
  nd : ss.Nodup
  sub : ∀ v ∈ ss, v ∈ L
  ne : ∀ v ∈ ss, left v.c.d = false
  mem : ∀ v ∈ L, left v.c.d = false → v ∈ ss
theorem CameC.start {L : List Cw} (hL : ((cms L).map (·.d)).Nodup) : CameC L (fun a => (fvW L a).isSome) [] := ⟨List.nodup_nil, by simp, by simp, fun v hv h => by
  have : fvW L v.c.d = some (cwv v) := by unfold fvW; rw [fvW_mem hL hv]; rfl
  rw [this] at h; cases h⟩
theorem CameC.step {L : List Cw} {left : Dt → Bool} {ss : List Cw} (hL : ((cms L).map (·.d)).Nodup) (h : CameC L left ss) {v : Cw} {d : Dt} (hv : v ∈ L) (hd : v.c.d = d) (hl : left d = true) : CameC L (fun y => left y && !decide (y = d)) (ss ++ [v]) := by
  have hx : v ∉ ss := fun hx => by have := h.ne v hx; rw [hd, hl] at this; cases this
  refine ⟨List.nodup_append.2 ⟨h.nd, by simp, fun a ha b hb => by simp at hb; subst hb; intro e; subst e; exact hx ha⟩, fun a ha => ?_, fun a ha => ?_, fun a ha hf => ?_⟩
  · rcases List.mem_append.1 ha with ha | ha
    · exact h.sub a ha
    · simp at ha; subst ha; exact hv
  · rcases List.mem_append.1 ha with ha | ha
    · simp [h.ne a ha]
    · simp at ha; subst ha; simp [hd]
  · by_cases e : a.c.d = d
    · have := same_of_d hL ha hv (e.trans hd.symm)
      subst this; simp
    · rw [decide_eq_false e] at hf
      exact List.mem_append_left _ (h.mem a ha (by simpa using hf))
theorem CameC.done {L : List Cw} {left : Dt → Bool} {ss : List Cw} (h : CameC L left ss) (hL : ((cms L).map (·.d)).Nodup) (hl : ∀ v ∈ L, left v.c.d = false) : ValsIn L ss := by
  have hn : L.Nodup := by
    have h1 : (L.map (fun v => v.c.d)).Nodup := by have := hL; unfold cms at this; rwa [List.map_map] at this
    exact (List.pairwise_map.1 h1).imp fun {a b} h e => h (by rw [e])
  exact (List.perm_ext_iff_of_nodup h.nd hn).2 fun v => ⟨h.sub v, fun hv => h.mem v hv (hl v hv)⟩
set_option maxRecDepth 100000 in
set_option maxHeartbeats 1000000 in
theorem valsC1_in (F : Fence) (n : Nat) (h10 : F.fn 146) (hro : F.round = none) (hn : 1 ≤ n) (l Bm b nn : Nat) (L : List Cw) (hL : ((cms L).map (·.d)).Nodup) (hok : ∀ v ∈ L, okD v.c.d) (J Jx : List Cw → World → Prop)
    (hY : ∀ pre x W, J pre W → pre.length < nn → YieldAt F (n - 1) Tryz.prog l #[cwv x] W fun e W' => (e = .returned (.bool true) ∧ J (pre ++ [x]) W' ∧ KeepsWalks W W') ∨ (e = .returned (.bool false) ∧ Jx (pre ++ [x]) W'))
    (W : World) (hJ : AbidesFrom W.heap.size J) (hm : W.cell? ⟨Bm, 0, none⟩ = some (.map (some b))) (hown : MapF W Tryz.prog 52 mkD b nn (fvW L)) (h0 : J [] W) :
    CallsIn F n Tryz.prog 146 #[.func (.yield l) #[] #[], .pointer (some ⟨Bm, 0, none⟩)] W fun e W' => (∃ v, e = .returned v) ∧ ((∃ ss, ValsIn L ss ∧ J ss W') ∨ ∃ pre, Jx pre W') := by
  refine callsIn_of_wp Tryz.func146 rfl h10 ?_ hro
  simp only [Tryz.ntmps146, List.size_toArray, List.length_cons, List.length_nil, Nat.reduceAdd, Nat.reduceSub, Array.replicate_succ, Array.replicate_zero, List.push_toArray, List.append_toArray, List.nil_append, List.cons_append]
  gi_wp2_with (gi_at_range; refine wpListIn_range_F keysD rfl _ _ rfl _ Tryz.underlying120 b nn (fvW L) rfl hown ?_; intro w0 cnt0 hrg0 hcn0 hg0 hs0)
  go_frame
  gi_loopw [4] (fun _ wr => ∃ (left : Dt → Bool) (cnt : Nat) (ss : List Cw), RangeF wr Tryz.prog 52 mkD b W.heap.size nn (fvW L) left cnt ∧ ss.length + cnt ≤ nn ∧ CameC L left ss ∧ J ss wr)
    (fun _ wr => wr.rangeLeft b W.heap.size)
  case atStart =>
    exact ⟨_, _, [], hrg0, by simpa using hcn0, CameC.start hL, hJ [] W w0 none h0 hg0 (fun r e => by cases e)⟩
  case round =>
    obtain ⟨left, cnt, ss, hrg, hcs, hC, hJs⟩ := hrel
    gi_wp2_with (gi_at_next; refine wpListIn_next_D rfl _ rfl b W.heap.size nn (fvW L) left cnt rfl hrg ?_ ?_)
    · intro hl0
      gi_wp2
      go_end0
      exact ⟨⟨_, rfl⟩, .inl ⟨ss, hC.done hL (fun v hv => hl0 _ (hok v hv)), hJs⟩⟩
    · intro rr ii qq xv w2 cnt2 hN hen
      obtain ⟨v, hvL, hvd, rfl⟩ := fvW_some hN.val
      have hJ2 : J ss w2 := hJ ss wr w2 (some W.heap.size) hJs hN.grown (fun r e => by cases e; exact ⟨Nat.le_refl _, hrg.iter_walk⟩)
      have hJ3 : J ss (w2.alloc (.cells (cwcells v) 57)) := hJ ss w2 _ none hJ2 (World.grownBy_alloc _ _ _) (fun r e => by cases e)
      have hlt := hN.lt
      obtain ⟨fn, tmps, assign, body, hy, hR⟩ := hY ss v _ hJ3 (by omega)
      have hrg3 := hN.rng.alloc (.cells (cwcells v) 57)
      have HVL := Lib.hid hvL
      have HVd := Lib.hid hvd
      clear hvL hvd
      obtain ⟨⟨⟨⟨r1, i1⟩, s1⟩, ps1, uu1, t1, ⟨k1, n1, x1, p1, ds1⟩⟩, qa1, qc1, va1, vc1, pa1, pc1, da1, dc1⟩ := v
      simp only [cwv, cwcells] at hen hy ⊢
      gi_wp2
      refine hR.mono ?_
      rintro e W3 (⟨rfl, hJ4, hk3⟩ | ⟨rfl, hJx3⟩)
      · gi_wp2
        have hrg4 := hrg3.of_walks hk3
        go_roundw
        case rel => exact ⟨_, cnt2, ss ++ [(⟨⟨⟨⟨r1, i1⟩, s1⟩, ps1, uu1, t1, ⟨k1, n1, x1, p1, ds1⟩⟩, qa1, qc1, va1, vc1, pa1, pc1, da1, dc1⟩ : Cw)], hrg4, by simp; omega, hC.step hL HVL.out HVd.out hN.was, hJ4⟩
        case measure => rw [hrg4.left_eq, hrg.left_eq]; exact hlt
      · gi_wp2
        refine bodyPost_ret (results_none rfl _ _ _) rfl ?_
        exact ⟨⟨_, rfl⟩, .inr ⟨ss ++ [(⟨⟨⟨⟨r1, i1⟩, s1⟩, ps1, uu1, t1, ⟨k1, n1, x1, p1, ds1⟩⟩, qa1, qc1, va1, vc1, pa1, pc1, da1, dc1⟩ : Cw)], hJx3⟩⟩

/-- maps.Keys(m) hands back an iterator over m's keys -/
theorem valsC_stops (F : Fence) (n : Nat) (h10 : F.fn 146) (hro : F.round = none) (hn : 1 ≤ n) (Bm b nn : Nat) (L : List Cw) (hL : ((cms L).map (·.d)).Nodup) (hok : ∀ v ∈ L, okD v.c.d) (w : World)
    (hm : w.heap[Bm]? = some (.cells #[.map (some b)] 120 (0, 0))) (hown : MapF w Tryz.prog 52 mkD b nn (fvW L)) :
    SeqStopsK F n Tryz.prog 146 #[.pointer (some ⟨Bm, 0, none⟩)] (fun x : Cw => #[cwv x]) KeepsWalks (ValsIn L) (fun _ => True) nn w := fun l J Jx W hW hJ _ hY h0 => by
  have hc : W.cell? ⟨Bm, 0, none⟩ = some (.map (some b)) := by rw [cells_at ((hW.block Bm (heap_lt hm)).trans hm)]; rfl
  refine (valsC1_in F n h10 hro hn l Bm b nn L hL hok J Jx hY W hJ hc (hown.below hW) h0).mono ?_
  rintro e W' ⟨hv, h | ⟨pre, h⟩⟩
  · exact ⟨hv, .inl h⟩
  · exact ⟨hv, .inr ⟨pre, trivial, h⟩⟩

/-- block B holds a commit -/
def BoxC (W : World) (B : Nat) (x : Cw) : Prop := W.heap[B]? = some (.cells (cwcells x) 57 (0, 0))
theorem boxC_own {β : Type} (B : Nat) (x : Cw) : Own (fun (_ : β) W => BoxC W B x) := fun s X Y row hs hg hrow =>
  (hg.block B (heap_lt hs) (fun e' => by obtain ⟨o, ho, hc⟩ := hrow B e'.symm; rw [show X.heap[B]? = _ from hs] at ho; cases ho; cases hc)).trans hs

set_option maxRecDepth 100000 in
set_option maxHeartbeats 2000000 in
/-- slices.AppendSeq(nil, seq) -/
theorem appendSeqC_in (F : Fence) (n : Nat) (h11 : F.fn 196) (hro : F.round = none) (hn : 2 ≤ n) (g : Nat) (lb : Array Value) (hFg : F.fn g) (eg : ∀ args w, (callFunc g args).run Tryz.prog w = .ok (.enter g args) w)
    (S : List Cw → Prop) (N : Nat) (hN : N ≤ 1100000) (w : World) (hseq : SeqStopsK F (n - 1) Tryz.prog g lb (fun x : Cw => #[cwv x]) KeepsWalks S (fun _ => True) N w) :
    CallsIn F n Tryz.prog 196 #[.slice none 0 0, .func (.func g) #[] lb] w fun e w' => ∃ a c ss, e = .returned (.slice a (List.length ss) c) ∧ S ss ∧ w'.ownsRow w.heap.size 57 11 (.slice a ss.length c) ss.length (ccs ss) ∧ Below w.heap.size w w' := by
  have h1 : 1 ≤ n := by omega
  obtain ⟨i0, hi, hz0, hz1, hz2⟩ := info_parts Tryz.info_commit
  refine callsIn_of_wp_marks Tryz.func196 rfl h11 ?_ hro
  simp only [Tryz.ntmps196, List.size_toArray, List.length_cons, List.length_nil, Nat.reduceAdd, Nat.reduceSub, Array.replicate_succ, Array.replicate_zero, List.push_toArray, List.append_toArray, List.nil_append, List.cons_append]
  gi_wp2
  have bO := Boxed.new w 33 (.slice none 0 0)
  have hB0 : Below w.heap.size w (w.alloc (.cells #[.slice none 0 0] 33)) := (Below.refl _ w).alloc (Nat.le_refl _) _
  refine wpIn_rangeFunc_ownH hro h1 (gf := g) (lb := lb) rfl hFg eg hseq walksK_t walksK_b hB0 (fun _ => rfl)
    (fun pre W => (∃ v, Boxed W w.heap.size 33 v ∧ W.ownsRow w.heap.size 57 11 v pre.length (ccs pre) ∧ True) ∧ Below w.heap.size w W)
    (fun _ _ _ => False)
    (OwnFrom.and (Own.from (holdsRow_own w.heap.size w.heap.size 33 57 11 (fun pre => pre.length) (fun pre => ccs pre) (fun _ _ => True)) _) (ownFrom_below (Nat.le_refl _) (by simp)))
    (fun _ _ _ _ _ hs _ _ => hs)
    ⟨⟨_, bO, World.ownsRow_nil _ _ _ _, trivial⟩, hB0⟩
    (fun x a' W => ∃ Bx, BoxC W Bx x ∧ a' = { tmps := #[.slice none 0 0, .func (.func g) #[] lb, .pointer (some ⟨w.heap.size, 0, none⟩), undef, .slice none 0 0, .pointer (some ⟨Bx, 0, none⟩), .func (.func g) #[] lb, cwv x, undef, undef, undef, undef, undef], defers := [] })
    (fun x a' => fun s X Y row hs hg hr => by
      obtain ⟨Bx, hx, ha⟩ := hs
      exact ⟨Bx, Own.from (boxC_own Bx x) _ s X Y row hx hg hr, ha⟩) ?assign ?body ?done ?stop
  case assign =>
    rintro l pre x W K ⟨⟨v, hv, hrow, _⟩, hB⟩ hK
    obtain ⟨⟨⟨⟨r1, i1⟩, s1⟩, ps1, uu1, t1, ⟨k1, n1, x1, p1, ds1⟩⟩, qa1, qc1, va1, vc1, pa1, pc1, da1, dc1⟩ := x
    simp only [cwv, cwcells]
    gi_wp2
    exact hK _ _ ((KeepsOthers.alloc _ _).from _) (KeepsWalks.alloc _ _) ⟨⟨v, hv.alloc _, hrow.alloc _, trivial⟩, hB.alloc hB.size _⟩ ⟨W.heap.size, heap_new _ _, rfl⟩
  case body =>
    rintro l pre x a' W hl hr ⟨⟨v, hv, hrow, _⟩, hB⟩ ⟨Bx, hbx, rfl⟩ hlt
    have hc := hv.cell
    have cx := cells_at hbx
    obtain ⟨⟨⟨⟨r1, i1⟩, s1⟩, ps1, uu1, t1, ⟨k1, n1, x1, p1, ds1⟩⟩, qa1, qc1, va1, vc1, pa1, pc1, da1, dc1⟩ := x
    dsimp only [cwcells] at cx
    gi_wp2_with (gi_at_builtin; refine wpListIn_append_own _ rfl _ _ 33 rfl w.heap.size 57 i0 (.agg (ccells 0 0 0 none 0 0 none 0 0 0 0 none 0 0 0 ⟨#[]⟩ none 0 0)) 11 152 Tryz.underlying33 hi hz0 hz1 hz2 rfl (by decide) _ _ _ rfl (hrow.alloc _) ⟨W.heap.size, 0, none⟩ 1 1 (cwcells (⟨⟨⟨⟨r1, i1⟩, s1⟩, ps1, uu1, t1, ⟨k1, n1, x1, p1, ds1⟩⟩, qa1, qc1, va1, vc1, pa1, pc1, da1, dc1⟩ : Cw)).toList rfl rfl (World.news_of_block (cs := cwcells (⟨⟨⟨⟨r1, i1⟩, s1⟩, ps1, uu1, t1, ⟨k1, n1, x1, p1, ds1⟩⟩, qa1, qc1, va1, vc1, pa1, pc1, da1, dc1⟩ : Cw)) (t := 57) (fr := (0, 0)) (heap_alloc_new W _)) (by simp [Value.oneCell']) (by unfold maxLen; omega) (by omega) (by have := hB.size; simp; omega) ?_; intro v' w1 hown' hgrow _; obtain ⟨g', cap', rfl⟩ := ownsRow_succ hown'; obtain ⟨hv1, hv2, hr2, hk2, hb2⟩ := hv.appended (by decide) hrow hB.size (Nat.le_refl _) hown' hgrow; have hc1 := hv1.cell; have hf1 := hv1.frozen)
    refine ⟨hk2.from _, ?_, ⟨_, hv2, ?_⟩, hB.trans hb2⟩
    · exact ⟨hk2.size, fun k o hk ho => hk2.same k o hk (Obj.not_cells_of_walk ho)⟩
    · rw [ccs_snoc]; simpa [ccel] using hr2
  case done =>
    rintro D ys W hD hS ⟨⟨v, hv, hrow, _⟩, hB⟩ hK
    have hc := hv.cell
    obtain ⟨a, c, rfl⟩ := owns_slice hrow
    gi_wp2
    refine ⟨by simp, .inl ⟨_, _, rfl, run_takeDeferred hK, ?_⟩⟩
    exact ⟨_, results_tmp rfl _ _ _, a, c, ys, rfl, hS, ownsRow_putObj hrow _ hK rfl, hB.trans (belowK_b (w := w) (Nat.le_refl _) W D _ _ (by simp at hD; omega) hK rfl rfl)⟩
  case stop =>
    rintro D c pre W _ _ h _
    exact h.elim
/-- slices.Collect(maps.Keys(m)) -/
theorem collectC_vals (Bm b nn : Nat) (L : List Cw) (hL : ((cms L).map (·.d)).Nodup) (hok : ∀ v ∈ L, okD v.c.d) (w : World) (hm : w.heap[Bm]? = some (.cells #[.map (some b)] 120 (0, 0))) (hown : MapF w Tryz.prog 52 mkD b nn (fvW L)) (hN : nn ≤ 1100000) :
    Calls Tryz.prog 145 #[.func (.func 146) #[] #[.pointer (some ⟨Bm, 0, none⟩)]] w fun e w' =>
      ∃ a c ss, e = .returned (.slice a (List.length ss) c) ∧ ValsIn L ss ∧ w'.ownsRow w.heap.size 57 11 (.slice a ss.length c) ss.length (ccs ss) ∧ Below w.heap.size w w' := by
  have hc := (callsIn_wide (n := 5)).1 (appendSeqC_in Fence.wide 5 trivial rfl (by omega) _ _ trivial (enters_of Tryz.func146 (by kernel_rfl) rfl) (ValsIn L) nn hN w
    (valsC_stops Fence.wide 4 trivial rfl (by omega) Bm b nn L hL hok w hm hown))
  have Hc := Lib.hid hc
  clear hc hm hown
  go_enter Tryz.func145, Tryz.ntmps145
  go_wp2_with fail
  refine Hc.out.mono ?_
  rintro e w' ⟨a, c, ss, rfl, h⟩
  go_wp2_with fail
  go_ret
  exact ⟨a, c, ss, rfl, h⟩

end Go.Proofs.YtbeblbgbngplhaaGreat

/- GraU -/
namespace Go.Proofs.YtbeblbgbngplhaaGreat
open Go.RowKit
set_option linter.unusedVariables false
set_option linter.unusedSimpArgs false

/-! sorting nothing -/
theorem insertionC_none (p : Option Addr) (cap : Nat) (fv : Value) (w : World) :
    Calls Tryz.prog 163 #[.slice p 0 cap, .int .i64 0, .int .i64 0, fv] w fun e w' => e = .returned (.tuple #[]) ∧ w' = w := by
  go_enter Tryz.func163, Tryz.ntmps163
  go_wp2
  refine wp_loop_rounds 1 ?_
  rw [rounds_succ]
  go_wp2
  go_end0
  exact ⟨rfl, rfl⟩
theorem pdqC_none (p : Option Addr) (cap : Nat) (lim : Int) (fv : Value) (w : World) :
    Calls Tryz.prog 129 #[.slice p 0 cap, .int .i64 0, .int .i64 0, .int .i64 lim, fv] w fun e w' => e = .returned (.tuple #[]) ∧ w' = w := by
  go_enter Tryz.func129, Tryz.ntmps129
  go_wp2
  refine wp_loop_rounds 1 ?_
  rw [rounds_succ]
  go_wp2_with (go_at_call 163; refine (insertionC_none _ _ _ _).mono ?_; rintro e w' ⟨rfl, rfl⟩)
  (try simp only [Exit.inBlock, Exit.then]); refine bodyPost_ret (results_none rfl _ _ _) rfl ?_
  exact ⟨rfl, rfl⟩
theorem sortC_none (p : Option Addr) (cap : Nat) (fv : Value) (w : World) :
    Calls Tryz.prog 63 #[.slice p 0 cap, fv] w fun e w' => e = .returned (.tuple #[]) ∧ w' = w := by
  go_enter Tryz.func63, Tryz.ntmps63
  go_wp2_with (first | (go_at_call 130; refine (bitsLen_zero _).mono ?_; rintro e w' ⟨rfl, rfl⟩) | (go_at_call 129; refine (pdqC_none _ _ _ _ _).mono ?_; rintro e w' ⟨rfl, rfl⟩))
  go_end0
  exact ⟨rfl, rfl⟩

/-! sorting commits -/
instance : Inhabited Cw := ⟨zeroCw⟩
def ltC (a b : Cm) : Prop := a.t < b.t ∨ a.t = b.t ∧ lessD a.d b.d = true
theorem ltC_irrefl (a : Cm) : ¬ ltC a a := by unfold ltC; rw [lessD_irrefl]; rintro (h | ⟨_, h⟩); omega; cases h
theorem ltC_trans {a b c : Cm} (h : ltC a b) (k : ltC b c) : ltC a c := by
  unfold ltC at *
  rcases h with h | ⟨h1, h2⟩
  · rcases k with k | ⟨k1, k2⟩
    · left; omega
    · left; omega
  · rcases k with k | ⟨k1, k2⟩
    · left; omega
    · right; exact ⟨by omega, lessD_trans h2 k2⟩
theorem ltC_total {a b : Cm} (h : a.d ≠ b.d) : ltC a b ∨ ltC b a := by
  unfold ltC
  rcases Int.lt_trichotomy a.t b.t with h1 | h1 | h1
  · exact .inl (.inl h1)
  · rcases lessD_total h with h2 | h2
    · exact .inl (.inr ⟨h1, h2⟩)
    · exact .inr (.inr ⟨h1.symm, h2⟩)
  · exact .inr (.inl h1)
def cmpC (u v : Cw) : Int := orI [cmpI u.c.t v.c.t, cmpDD u.c.d v.c.d]
theorem cmpC_neg (u v : Cw) : cmpC u v < 0 ↔ ltC u.c v.c := by
  simp only [cmpC, cmpI, orI, ltC, cmpDD_eq]
  rcases Int.lt_trichotomy u.c.t v.c.t with h | h | h
  · simp [h]
  · rw [← cmpD_neg]; by_cases e : cmpD u.c.d v.c.d = 0 <;> simp [h, e]
  · simp [h, show ¬ u.c.t < v.c.t by omega, show ¬ u.c.t = v.c.t by omega]
open Classical in
theorem ltC_of (a b : Cw) : ltOf cmpC a b = decide (ltC a.c b.c) := by
  unfold ltOf
  rw [Bool.eq_iff_iff]
  simp [cmpC_neg]
theorem swoC : Sort.SWO (ltOf cmpC) where
  irrefl x := by rw [ltC_of]; simpa using ltC_irrefl x.c
  trans x y z h1 h2 := by rw [ltC_of] at *; simp at *; exact ltC_trans h1 h2
  ntrans x y z h1 h2 := by
    rw [ltC_of] at *
    simp only [decide_eq_false_iff_not, ltC, lessD_iff] at *
    omega
theorem cmpC_any (u v : Cw) (w : World) : Calls Tryz.prog 93 #[.agg (cwcells u), .agg (cwcells v)] w fun e w' => e = .returned (.int .i64 (cmpC u v)) ∧ Grown w w' := by
  obtain ⟨⟨⟨⟨r, i⟩, s⟩, ps, vv, t, ⟨k, n, x, p, ds⟩⟩, qa, qc, va, vc, pa, pc, da, dc⟩ := u
  obtain ⟨⟨⟨⟨r', i'⟩, s'⟩, ps', vv', t', ⟨k', n', x', p', ds'⟩⟩, qa', qc', va', vc', pa', pc', da', dc'⟩ := v
  simp only [cwcells]
  go_enter Tryz.func93, Tryz.ntmps93
  go_wp2_with fail
  refine region_text [([0, 1, 2, 3, 5, 6, 7, 8], false), ([4], true), ([9, 10, 11, 12], false)] mixed (by kernel_rfl) ?_
  simp only [wpSegs, List.map_cons, List.map_nil, List.getD_cons_succ, List.getD_cons_zero]
  go_wp2_with fail
  refine (cmpu64 _ _ _).mono ?_
  rintro e w' ⟨rfl, rfl⟩
  go_wp2_with fail
  refine And.intro (Agree.refl _) ?_
  go_wp2_with fail
  refine (compareD_any r i s r' i' s' _).mono ?_
  rintro e w1 ⟨rfl, hg⟩
  go_wp2_with fail
  refine (or_any _ [cmpI t t', cmpDD ((r, i), s) ((r', i'), s')] _ (two_at (t := 3) ?hx) (by simp)).mono ?_
  case hx => exact heap_new _ _
  rintro e w' ⟨rfl, rfl⟩
  go_wp2_with fail
  refine And.intro (by kernel_rfl) ?_
  go_wp2_with fail
  go_ret
  exact ⟨rfl, (((((Grown.refl w).alloc _).alloc _).drew).trans hg).alloc _⟩
/-- commits in a row of its own -/
def OwnC (w : World) (base : Nat) (a : Option Addr) (c : Nat) (l : List Cw) : Prop := w.ownsRow base 57 11 (.slice a l.length c) l.length (ccs l)
theorem cmpLaysC (blk off size : Nat) (w : World) : CmpLays Tryz.prog 93 #[] ccel 11 cmpC blk off size w :=
  fun _ _ _ _ x y => cmpC_any x y _
theorem sortC_any (a : Option Addr) (c base : Nat) (l : List Cw) (w : World) (h : OwnC w base a c l) (hl : l.length ≤ 1100000) :
    Calls Tryz.prog 63 #[.slice a l.length c, .func (.func 93) #[] #[]] w fun e w' => e = .returned (.tuple #[]) ∧
      ∃ l', l'.length = l.length ∧ l'.Perm l ∧ l'.Pairwise (fun x y => ¬ ltC y.c x.c) ∧ OwnC w' base a c l' ∧ Chg (ob a) w w' := by
  by_cases h0 : l = []
  · subst h0
    exact (sortC_none a c _ w).mono fun e w' ⟨he, hw⟩ => ⟨he, [], rfl, .refl _, .nil, hw ▸ h, hw ▸ Chg.refl _ _⟩
  obtain ⟨blk, rfl⟩ : ∃ blk, a = some ⟨blk, 0, none⟩ := by
    rcases h.2 with ⟨h1, h2⟩ | ⟨g, cap, cur, h1, _⟩
    · simp at h1; exact absurd h1.2.1 h0
    · simp at h1; exact ⟨g, h1.1⟩
  obtain ⟨hH, hlt⟩ := holdsK_of ccel_len (by omega) h
  have hcon := AnyQ.slices_SortFunc Tryz.sortC 11 Tryz.isAgg57 Tryz.sizeOf57 ccel ccel_len (fun x v hv => ccel_one x v hv) cmpC swoC 93 #[] blk 0 c l.toArray w (enters_of Tryz.func93 (by kernel_rfl) rfl) (cmpLaysC blk 0 _ w) hH hlt (by simp; omega)
  change Calls Tryz.prog 63 _ _ _ at hcon
  have e1 : l.toArray.size = l.length := by simp
  rw [e1] at hcon
  refine hcon.mono ?_
  rintro e w' ⟨rfl, d', n, os, hp, hs, rfl⟩
  have hperm : d'.toList.Perm l := by have := permIn_list (d := l.toArray) (by rw [e1]; exact hp); simpa using this
  have hlen : d'.toList.length = l.length := hperm.length_eq
  obtain ⟨h1, h2⟩ := sorted_owns (n := n) (os := os) ccel_len (by omega) hlen h
  refine ⟨rfl, d'.toList, hlen, hperm, ?_, ?_, by simpa [ob] using h2⟩
  · have := sortedIn_list (lt := ltOf cmpC) (by rw [← hlen]; simp) hs
    refine this.imp fun {x y} hxy => ?_
    rw [ltC_of] at hxy
    simpa using hxy
  · unfold OwnC
    rw [hlen]
    simpa [ccs] using h1
/-- commits in their order -/
def SortedC (S : List Cm) : Prop := S.Pairwise ltC
theorem sortedC_of {l : List Cw} (hn : ((cms l).map (·.d)).Nodup) (h : l.Pairwise fun x y => ¬ ltC y.c x.c) : SortedC (cms l) := by
  unfold SortedC cms
  rw [List.pairwise_map]
  have h2 : l.Pairwise fun x y => x.c.d ≠ y.c.d := by
    have := hn
    unfold cms at this
    rw [List.map_map] at this
    exact List.pairwise_map.1 this
  refine (h.and h2).imp fun {x y} ⟨h1, h3⟩ => ?_
  rcases ltC_total h3 with e | e
  · exact e
  · exact absurd e h1
/-- slices.SortedFunc(maps.Values(m), ..) -/
theorem sortedFunc_vals (Bm b nn : Nat) (L : List Cw) (hL : ((cms L).map (·.d)).Nodup) (hok : ∀ v ∈ L, okD v.c.d) (w : World) (hm : w.heap[Bm]? = some (.cells #[.map (some b)] 120 (0, 0))) (hown : MapF w Tryz.prog 52 mkD b nn (fvW L)) (hN : nn ≤ 1100000) (hLn : L.length ≤ 1100000) :
    Calls Tryz.prog 91 #[.func (.func 146) #[] #[.pointer (some ⟨Bm, 0, none⟩)], .func (.func 93) #[] #[]] w fun e w' =>
      ∃ a c ss, e = .returned (.slice a (List.length ss) c) ∧ ss.Perm L ∧ SortedC (cms ss) ∧ OwnC w' w.heap.size a c ss ∧ Below w.heap.size w w' := by
  have Hc := Lib.hid (collectC_vals Bm b nn L hL hok w hm hown hN)
  clear hm hown
  go_enter Tryz.func91, Tryz.ntmps91
  go_wp2_with fail
  refine Hc.out.mono ?_
  rintro e w1 ⟨a, c, ss, rfl, hK, hrow, hB⟩
  have hK : ss.Perm L := hK
  have HB := Lib.hid hB
  have Hrow := Lib.hid (show OwnC w1 w.heap.size a c ss from hrow)
  have hl0 : ss.length ≤ 1100000 := by rw [hK.length_eq]; exact hLn
  have HK := Lib.hid hK
  clear hrow hB hK Hc
  go_wp2_with fail
  refine (sortC_any a c w.heap.size ss w1 Hrow.out hl0).mono ?_
  rintro e w2 ⟨rfl, l', hl, hp, hs, hrow2, hc2⟩
  have HR := Lib.hid hrow2
  have Hl := Lib.hid hl
  have HP := Lib.hid (hp.trans HK.out)
  have HS := Lib.hid (sortedC_of (l := l') (by
    have h1 : ((cms l').map (·.d)).Perm ((cms L).map (·.d)) := ((hp.trans HK.out).map _).map _
    exact h1.nodup_iff.2 hL) hs)
  have HB2 := Lib.hid (HB.out.trans (hc2.below HB.out.size (fun k hk => (owns_lt Hrow.out k hk).1)))
  clear hl hp hs hrow2 hc2
  go_wp2_with fail
  go_ret
  exact ⟨a, c, l', by rw [Hl.out]; rfl, HP.out, HS.out, HR.out, HB2.out⟩
end Go.Proofs.YtbeblbgbngplhaaGreat
