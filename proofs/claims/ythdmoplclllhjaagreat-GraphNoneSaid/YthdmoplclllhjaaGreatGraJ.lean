/- maps.Keys over a map of commits by dots; slices.AppendSeq, slices.Collect of it. (printed by wip/tools/genkeysd.py) -/
import Derived.Test.YthdmoplclllhjaaGreatGraI
namespace Go.Proofs.YthdmoplclllhjaaGreat
open Go.RowKit Go.Shelf
set_option linter.unusedVariables false
set_option linter.unusedSimpArgs false
attribute [local go_sem] Oper.semAt_some

/-- nothing is still to come -/
def NoneLeftD (left : Dt → Bool) : Prop := ∀ a, okD a → left a = false
/-- an entry has come -/
structure NextD (w : World) (b r n : Nat) (f : Dt → Option Value) (left : Dt → Bool) (cnt : Nat) (rr ii qq : Int) (v : Value) (w' : World) (cnt' : Nat) : Prop where
  ok : okD ((rr, ii), qq)
  was : left ((rr, ii), qq) = true
  val : f ((rr, ii), qq) = some v
  rng : RangeF w' Tryz.prog 41 mkD b r n f (fun y => left y && !decide (y = ((rr, ii), qq))) cnt'
  lt : cnt' < cnt
  grown : w.grownBy w' (some r)
  size : w'.heap.size = w.heap.size
section
variable {w : World} {ops : Array Oper} {rest : List Oper} {o : Oper} {a : Act} {Q : Exit → Act → World → Prop} {F : Fence} {nf : Nat}
theorem wpList_next_D (hg : o.guard = none) (it : Operand) (hop : o.op = Op.next it false) (b r n : Nat) (f : Dt → Option Value) (left : Dt → Bool) (cnt : Nat)
    (hit : a.eval it = .pointer (some ⟨r, 0, none⟩)) (h : RangeF w Tryz.prog 41 mkD b r n f left cnt)
    (hDone : NoneLeftD left → wpList Tryz.prog ops Q rest (a.put o.dst (.tuple #[.bool false])) w)
    (hMore : ∀ rr ii qq v w' cnt', NextD w b r n f left cnt rr ii qq v w' cnt' → (Instr.entry (.pointer (some ⟨r, 0, none⟩))).run Tryz.prog w' = .ok (.tuple #[.agg #[.int .u8 rr, .int .u32 ii, .int .u64 qq], v]) w' →
      wpList Tryz.prog ops Q rest (a.put o.dst (.tuple #[.bool true, .agg #[.int .u8 rr, .int .u32 ii, .int .u64 qq], v])) w') : wpList Tryz.prog ops Q (o :: rest) a w :=
  wpList_next_F keysD hg it hop b r n f left cnt hit h (fun _ h => hDone fun a ha => by obtain ⟨l, hl⟩ := keyD_ok ha; exact h a l hl)
    (fun x v l w' cnt' h1 h2 h3 h4 h5 h6 h7 h8 => hMore x.1.1 x.1.2 x.2 v w' cnt' ⟨keyD_inv h1, h2, h3, h4, h5, h6, h7⟩ h8)
theorem wpListIn_next_D (hg : o.guard = none) (it : Operand) (hop : o.op = Op.next it false) (b r n : Nat) (f : Dt → Option Value) (left : Dt → Bool) (cnt : Nat)
    (hit : a.eval it = .pointer (some ⟨r, 0, none⟩)) (h : RangeF w Tryz.prog 41 mkD b r n f left cnt)
    (hDone : NoneLeftD left → wpListIn F nf Tryz.prog ops Q rest (a.put o.dst (.tuple #[.bool false])) w)
    (hMore : ∀ rr ii qq v w' cnt', NextD w b r n f left cnt rr ii qq v w' cnt' → (Instr.entry (.pointer (some ⟨r, 0, none⟩))).run Tryz.prog w' = .ok (.tuple #[.agg #[.int .u8 rr, .int .u32 ii, .int .u64 qq], v]) w' →
      wpListIn F nf Tryz.prog ops Q rest (a.put o.dst (.tuple #[.bool true, .agg #[.int .u8 rr, .int .u32 ii, .int .u64 qq], v])) w') : wpListIn F nf Tryz.prog ops Q (o :: rest) a w :=
  wpListIn_next_F keysD hg it hop b r n f left cnt hit h (fun _ h => hDone fun a ha => by obtain ⟨l, hl⟩ := keyD_ok ha; exact h a l hl)
    (fun x v l w' cnt' h1 h2 h3 h4 h5 h6 h7 h8 => hMore x.1.1 x.1.2 x.2 v w' cnt' ⟨keyD_inv h1, h2, h3, h4, h5, h6, h7⟩ h8)
end

/-- the keys of f, each once -/
def KeysInD (f : Dt → Option Value) (n : Nat) (ss : List Dt) : Prop := ss.length ≤ n ∧ ss.Nodup ∧ (∀ a ∈ ss, okD a) ∧ ∀ a, okD a → (a ∈ ss ↔ (f a).isSome = true)
/-- so far -/
structure CameD (f : Dt → Option Value) (left : Dt → Bool) (ss : List Dt) : Prop where
  nd : ss.Nodup
  ok : ∀ a ∈ ss, okD a
  ne : ∀ a ∈ ss, left a = false
  mem : ∀ a, okD a → (a ∈ ss ↔ (f a).isSome = true ∧ left a = false)
theorem CameD.start (f : Dt → Option Value) : CameD f (fun a => (f a).isSome) [] := ⟨List.nodup_nil, by simp, by simp, fun a _ => by cases h : f a <;> simp [h]⟩
theorem CameD.step {f : Dt → Option Value} {left : Dt → Bool} {ss : List Dt} (h : CameD f left ss) {x : Dt} {v : Value} (hok : okD x) (hl : left x = true) (hf : f x = some v) : CameD f (fun y => left y && !decide (y = x)) (ss ++ [x]) := by
  have hx : x ∉ ss := fun hx => by have := h.ne x hx; rw [hl] at this; cases this
  refine ⟨List.nodup_append.2 ⟨h.nd, by simp, fun a ha b hb => by simp at hb; subst hb; intro e; subst e; exact hx ha⟩, fun a ha => ?_, fun a ha => ?_, fun a hoka => ?_⟩
  · rcases List.mem_append.1 ha with ha | ha
    · exact h.ok a ha
    · simp at ha; subst ha; exact hok
  · rcases List.mem_append.1 ha with ha | ha
    · simp [h.ne a ha]
    · simp at ha; subst ha; simp
  · rw [List.mem_append, List.mem_singleton, h.mem a hoka]
    by_cases e : a = x
    · subst e; simp [hf, hl]
    · simp [e]
theorem CameD.done {f : Dt → Option Value} {left : Dt → Bool} {ss : List Dt} (h : CameD f left ss) (hl : NoneLeftD left) {n : Nat} (hn : ss.length ≤ n) : KeysInD f n ss :=
  ⟨hn, h.nd, h.ok, fun a ha => by rw [h.mem a ha, hl a ha]; simp⟩

set_option maxRecDepth 100000 in
set_option maxHeartbeats 1000000 in
theorem keysD1_in (F : Fence) (n : Nat) (h10 : F.fn 152) (hro : F.round = none) (hn : 1 ≤ n) (l Bm b nn : Nat) (f : Dt → Option Value) (J Jx : List Dt → World → Prop)
    (hY : ∀ pre x W, J pre W → pre.length < nn → YieldAt F (n - 1) Tryz.prog l #[mkD x] W fun e W' => (e = .returned (.bool true) ∧ J (pre ++ [x]) W' ∧ KeepsWalks W W') ∨ (e = .returned (.bool false) ∧ Jx (pre ++ [x]) W'))
    (W : World) (hJ : AbidesFrom W.heap.size J) (hm : W.cell? ⟨Bm, 0, none⟩ = some (.map (some b))) (hown : MapF W Tryz.prog 41 mkD b nn f) (h0 : J [] W) :
    CallsIn F n Tryz.prog 152 #[.func (.yield l) #[] #[], .pointer (some ⟨Bm, 0, none⟩)] W fun e W' => (∃ v, e = .returned v) ∧ ((∃ ss, KeysInD f nn ss ∧ J ss W') ∨ ∃ pre, Jx pre W') := by
  refine callsIn_of_wp Tryz.func152 rfl h10 ?_ hro
  simp only [Tryz.ntmps152, List.size_toArray, List.length_cons, List.length_nil, Nat.reduceAdd, Nat.reduceSub, Array.replicate_succ, Array.replicate_zero, List.push_toArray, List.append_toArray, List.nil_append, List.cons_append]
  gi_wp2_with (gi_at_range; refine wpListIn_range_F keysD rfl _ _ rfl _ Tryz.underlying77 b nn f rfl hown ?_; intro w0 cnt0 hrg0 hcn0 hg0 hs0)
  go_frame
  gi_loopw [3] (fun _ wr => ∃ (left : Dt → Bool) (cnt : Nat) (ss : List Dt), RangeF wr Tryz.prog 41 mkD b W.heap.size nn f left cnt ∧ ss.length + cnt ≤ nn ∧ CameD f left ss ∧ J ss wr)
    (fun _ wr => wr.rangeLeft b W.heap.size)
  case atStart =>
    exact ⟨_, _, [], hrg0, by simpa using hcn0, CameD.start f, hJ [] W w0 none h0 hg0 (fun r e => by cases e)⟩
  case round =>
    obtain ⟨left, cnt, ss, hrg, hcs, hC, hJs⟩ := hrel
    gi_wp2_with (gi_at_next; refine wpListIn_next_D rfl _ rfl b W.heap.size nn f left cnt rfl hrg ?_ ?_)
    · intro hl0
      gi_wp2
      go_end0
      exact ⟨⟨_, rfl⟩, .inl ⟨ss, hC.done hl0 (by omega), hJs⟩⟩
    · intro rr ii qq v w2 cnt2 hN hen
      have hJ2 : J ss w2 := hJ ss wr w2 (some W.heap.size) hJs hN.grown (fun r e => by cases e; exact ⟨Nat.le_refl _, hrg.iter_walk⟩)
      have hJ3 : J ss (w2.alloc (.cells #[.int .u8 rr, .int .u32 ii, .int .u64 qq] 41)) := hJ ss w2 _ none hJ2 (World.grownBy_alloc _ _ _) (fun r e => by cases e)
      have hlt := hN.lt
      obtain ⟨fn, tmps, assign, body, hy, hR⟩ := hY ss ((rr, ii), qq) _ hJ3 (by omega)
      have hrg3 := hN.rng.alloc (.cells #[.int .u8 rr, .int .u32 ii, .int .u64 qq] 41)
      simp only [mkD] at hy
      gi_wp2
      refine hR.mono ?_
      rintro e W3 (⟨rfl, hJ4, hk3⟩ | ⟨rfl, hJx3⟩)
      · gi_wp2
        have hrg4 := hrg3.of_walks hk3
        go_roundw
        case rel => exact ⟨_, cnt2, ss ++ [((rr, ii), qq)], hrg4, by simp; omega, hC.step hN.ok hN.was hN.val, hJ4⟩
        case measure => rw [hrg4.left_eq, hrg.left_eq]; exact hlt
      · gi_wp2
        refine bodyPost_ret (results_none rfl _ _ _) rfl ?_
        exact ⟨⟨_, rfl⟩, .inr ⟨ss ++ [((rr, ii), qq)], hJx3⟩⟩

/-- maps.Keys(m) hands back an iterator over m's keys -/
theorem keysD_stops (F : Fence) (n : Nat) (h10 : F.fn 152) (hro : F.round = none) (hn : 1 ≤ n) (Bm b nn : Nat) (f : Dt → Option Value) (w : World)
    (hm : w.heap[Bm]? = some (.cells #[.map (some b)] 77 (0, 0))) (hown : MapF w Tryz.prog 41 mkD b nn f) :
    SeqStopsK F n Tryz.prog 152 #[.pointer (some ⟨Bm, 0, none⟩)] (fun x : Dt => #[mkD x]) KeepsWalks (KeysInD f nn) (fun _ => True) nn w := fun l J Jx W hW hJ _ hY h0 => by
  have hc : W.cell? ⟨Bm, 0, none⟩ = some (.map (some b)) := by rw [cells_at ((hW.block Bm (heap_lt hm)).trans hm)]; rfl
  refine (keysD1_in F n h10 hro hn l Bm b nn f J Jx hY W hJ hc (hown.below hW) h0).mono ?_
  rintro e W' ⟨hv, h | ⟨pre, h⟩⟩
  · exact ⟨hv, .inl h⟩
  · exact ⟨hv, .inr ⟨pre, trivial, h⟩⟩

/-- block B holds an actor -/
def BoxD (W : World) (B : Nat) (x : Dt) : Prop := W.heap[B]? = some (.cells #[.int .u8 x.1.1, .int .u32 x.1.2, .int .u64 x.2] 41 (0, 0))
theorem boxD_own {β : Type} (B : Nat) (x : Dt) : Own (fun (_ : β) W => BoxD W B x) := fun s X Y row hs hg hrow =>
  (hg.block B (heap_lt hs) (fun e' => by obtain ⟨o, ho, hc⟩ := hrow B e'.symm; rw [show X.heap[B]? = _ from hs] at ho; cases ho; cases hc)).trans hs

set_option maxRecDepth 100000 in
set_option maxHeartbeats 2000000 in
/-- slices.AppendSeq(nil, seq) -/
theorem appendSeqD_in (F : Fence) (n : Nat) (h11 : F.fn 151) (hro : F.round = none) (hn : 2 ≤ n) (g : Nat) (lb : Array Value) (hFg : F.fn g) (eg : ∀ args w, (callFunc g args).run Tryz.prog w = .ok (.enter g args) w)
    (S : List Dt → Prop) (N : Nat) (hN : N ≤ 1000000) (w : World) (hseq : SeqStopsK F (n - 1) Tryz.prog g lb (fun x : Dt => #[mkD x]) KeepsWalks S (fun _ => True) N w) :
    CallsIn F n Tryz.prog 151 #[.slice none 0 0, .func (.func g) #[] lb] w fun e w' => ∃ a c ss, e = .returned (.slice a (List.length ss) c) ∧ S ss ∧ w'.ownsRow w.heap.size 41 3 (.slice a ss.length c) ss.length (dcells ss) ∧ Below w.heap.size w w' := by
  have h1 : 1 ≤ n := by omega
  obtain ⟨i0, hi, hz0, hz1, hz2⟩ := info_parts Tryz.info_dot
  refine callsIn_of_wp_marks Tryz.func151 rfl h11 ?_ hro
  simp only [Tryz.ntmps151, List.size_toArray, List.length_cons, List.length_nil, Nat.reduceAdd, Nat.reduceSub, Array.replicate_succ, Array.replicate_zero, List.push_toArray, List.append_toArray, List.nil_append, List.cons_append]
  gi_wp2
  have bO := Boxed.new w 23 (.slice none 0 0)
  have hB0 : Below w.heap.size w (w.alloc (.cells #[.slice none 0 0] 23)) := (Below.refl _ w).alloc (Nat.le_refl _) _
  refine wpIn_rangeFunc_ownH hro h1 (gf := g) (lb := lb) rfl hFg eg hseq walksK_t walksK_b hB0 (fun _ => rfl)
    (fun pre W => (∃ v, Boxed W w.heap.size 23 v ∧ W.ownsRow w.heap.size 41 3 v pre.length (dcells pre) ∧ True) ∧ Below w.heap.size w W)
    (fun _ _ _ => False)
    (OwnFrom.and (Own.from (holdsRow_own w.heap.size w.heap.size 23 41 3 (fun pre => pre.length) (fun pre => dcells pre) (fun _ _ => True)) _) (ownFrom_below (Nat.le_refl _) (by simp)))
    (fun _ _ _ _ _ hs _ _ => hs)
    ⟨⟨_, bO, World.ownsRow_nil _ _ _ _, trivial⟩, hB0⟩
    (fun x a' W => ∃ Bx, BoxD W Bx x ∧ a' = { tmps := #[.slice none 0 0, .func (.func g) #[] lb, .pointer (some ⟨w.heap.size, 0, none⟩), undef, .slice none 0 0, .pointer (some ⟨Bx, 0, none⟩), .func (.func g) #[] lb, mkD x, undef, undef, undef, undef, undef], defers := [] })
    (fun x a' => fun s X Y row hs hg hr => by
      obtain ⟨Bx, hx, ha⟩ := hs
      exact ⟨Bx, Own.from (boxD_own Bx x) _ s X Y row hx hg hr, ha⟩) ?assign ?body ?done ?stop
  case assign =>
    rintro l pre x W K ⟨⟨v, hv, hrow, _⟩, hB⟩ hK
    obtain ⟨⟨r, i⟩, sq⟩ := x
    simp only [mkD]
    gi_wp2
    exact hK _ _ ((KeepsOthers.alloc _ _).from _) (KeepsWalks.alloc _ _) ⟨⟨v, hv.alloc _, hrow.alloc _, trivial⟩, hB.alloc hB.size _⟩ ⟨W.heap.size, heap_new _ _, rfl⟩
  case body =>
    rintro l pre x a' W hl hr ⟨⟨v, hv, hrow, _⟩, hB⟩ ⟨Bx, hbx, rfl⟩ hlt
    have hc := hv.cell
    have cx := cells_at hbx
    obtain ⟨⟨r, i⟩, sq⟩ := x
    dsimp only at cx
    gi_wp2_with (gi_at_builtin; refine wpListIn_append_own _ rfl _ _ 23 rfl w.heap.size 41 i0 (.agg #[.int .u8 0, .int .u32 0, .int .u64 0]  ) 3 16 Tryz.underlying23 hi hz0 hz1 hz2 rfl (by decide) _ _ _ rfl (hrow.alloc _) ⟨W.heap.size, 0, none⟩ 1 1 [.int .u8 r, .int .u32 i, .int .u64 sq] rfl rfl (World.news_of_block (cs := #[.int .u8 r, .int .u32 i, .int .u64 sq]) (t := 41) (fr := (0, 0)) (heap_alloc_new W _)) (by simp [Value.oneCell']) (by unfold maxLen; omega) (by omega) (by have := hB.size; simp; omega) ?_; intro v' w1 hown' hgrow _; obtain ⟨g', cap', rfl⟩ := ownsRow_succ hown'; obtain ⟨hv1, hv2, hr2, hk2, hb2⟩ := hv.appended (by decide) hrow hB.size (Nat.le_refl _) hown' hgrow; have hc1 := hv1.cell; have hf1 := hv1.frozen)
    refine ⟨hk2.from _, ?_, ⟨_, hv2, ?_, trivial⟩, hB.trans hb2⟩
    · exact ⟨hk2.size, fun k o hk ho => hk2.same k o hk (Obj.not_cells_of_walk ho)⟩
    · rw [dcells_snoc]; simpa [dcell] using hr2
  case done =>
    rintro D ys W hD hS ⟨⟨v, hv, hrow, _⟩, hB⟩ hK
    have hc := hv.cell
    obtain ⟨a, c, rfl⟩ := owns_slice hrow
    gi_wp2
    refine ⟨by simp, .inl ⟨_, _, rfl, run_takeDeferred hK, ?_⟩⟩
    exact ⟨_, results_tmp rfl _ _ _, a, c, ys, rfl, hS, ownsRow_putObj hrow _ hK rfl, hB.trans (belowK_b (w := w) (Nat.le_refl _) W D _ _ (by simp at hD; omega) hK rfl rfl)⟩
  case stop =>
    rintro D c pre W _ _ h _
    exact h.elim
/-- slices.Collect(maps.Keys(m)) -/
theorem collectD_keys (Bm b nn : Nat) (f : Dt → Option Value) (w : World) (hm : w.heap[Bm]? = some (.cells #[.map (some b)] 77 (0, 0))) (hown : MapF w Tryz.prog 41 mkD b nn f) (hN : nn ≤ 1000000) :
    Calls Tryz.prog 93 #[.func (.func 152) #[] #[.pointer (some ⟨Bm, 0, none⟩)]] w fun e w' =>
      ∃ a c ss, e = .returned (.slice a (List.length ss) c) ∧ KeysInD f nn ss ∧ w'.ownsRow w.heap.size 41 3 (.slice a ss.length c) ss.length (dcells ss) ∧ Below w.heap.size w w' := by
  have hc := (callsIn_wide (n := 5)).1 (appendSeqD_in Fence.wide 5 trivial rfl (by omega) _ _ trivial (enters_of Tryz.func152 (by kernel_rfl) rfl) (KeysInD f nn) nn hN w
    (keysD_stops Fence.wide 4 trivial rfl (by omega) Bm b nn f w hm hown))
  have Hc := Lib.hid hc
  clear hc hm hown
  go_enter Tryz.func93, Tryz.ntmps93
  go_wp2_with fail
  refine Hc.out.mono ?_
  rintro e w' ⟨a, c, ss, rfl, h⟩
  go_wp2_with fail
  go_ret
  exact ⟨a, c, ss, rfl, h⟩

end Go.Proofs.YthdmoplclllhjaaGreat
