/- maps.Keys over a map of commits by dots; slices.AppendSeq, slices.Collect of it. (printed by wip/tools/genkeysd.py) | slices.DeleteFunc of dots in a row of their own, by any function: contract. | graph.Heads: contract. | graph.Heads: contract. | graph.Time; a graph that is not there, or was not made. | graph.New of the baseline of nothing. -/
import Derived.Test.YthdmoplclllhjaaGreatGraC
import Derived.Test.YthdmoplclllhjaaGreatFuseA
/- GraJ -/
namespace Go.Proofs.YthdmoplclllhjaaGreat
open Go.RowKit Go.Shelf
set_option linter.unusedVariables false
set_option linter.unusedSimpArgs false
attribute [local go_sem] Oper.semAt_some

/-- nothing is still to come -/
def NoneLeftD (left : Dt → Bool) : Prop := ∀ a, okD a → left a = false
/-- an entry has come -/
structure NextD (w : World) (b r n : Nat) (f : Dt → Option Value) (left : Dt → Bool) (cnt : Nat) (rr ii qq : Int) (v : Value) (w' : World) (cnt' : Nat) : Prop where
  ok : okD ((rr, ii), qq)
  was : left ((rr, ii), qq) = true
  val : f ((rr, ii), qq) = some v
  rng : RangeF w' Tryz.prog 41 mkD b r n f (fun y => left y && !decide (y = ((rr, ii), qq))) cnt'
  lt : cnt' < cnt
  grown : w.grownBy w' (some r)
  size : w'.heap.size = w.heap.size
section
variable {w : World} {ops : Array Oper} {rest : List Oper} {o : Oper} {a : Act} {Q : Exit → Act → World → Prop} {F : Fence} {nf : Nat}
theorem wpList_next_D (hg : o.guard = none) (it : Operand) (hop : o.op = Op.next it false) (b r n : Nat) (f : Dt → Option Value) (left : Dt → Bool) (cnt : Nat)
    (hit : a.eval it = .pointer (some ⟨r, 0, none⟩)) (h : RangeF w Tryz.prog 41 mkD b r n f left cnt)
    (hDone : NoneLeftD left → wpList Tryz.prog ops Q rest (a.put o.dst (.tuple #[.bool false])) w)
    (hMore : ∀ rr ii qq v w' cnt', NextD w b r n f left cnt rr ii qq v w' cnt' → (Instr.entry (.pointer (some ⟨r, 0, none⟩))).run Tryz.prog w' = .ok (.tuple #[.agg #[.int .u8 rr, .int .u32 ii, .int .u64 qq], v]) w' →
      wpList Tryz.prog ops Q rest (a.put o.dst (.tuple #[.bool true, .agg #[.int .u8 rr, .int .u32 ii, .int .u64 qq], v])) w') : wpList Tryz.prog ops Q (o :: rest) a w :=
  wpList_next_F keysD hg it hop b r n f left cnt hit h (fun _ h => hDone fun a ha => by obtain ⟨l, hl⟩ := keyD_ok ha; exact h a l hl)
    (fun x v l w' cnt' h1 h2 h3 h4 h5 h6 h7 h8 => hMore x.1.1 x.1.2 x.2 v w' cnt' ⟨keyD_inv h1, h2, h3, h4, h5, h6, h7⟩ h8)
theorem wpListIn_next_D (hg : o.guard = none) (it : Operand) (hop : o.op = Op.next it false) (b r n : Nat) (f : Dt → Option Value) (left : Dt → Bool) (cnt : Nat)
    (hit : a.eval it = .pointer (some ⟨r, 0, none⟩)) (h : RangeF w Tryz.prog 41 mkD b r n f left cnt)
    (hDone : NoneLeftD left → wpListIn F nf Tryz.prog ops Q rest (a.put o.dst (.tuple #[.bool false])) w)
    (hMore : ∀ rr ii qq v w' cnt', NextD w b r n f left cnt rr ii qq v w' cnt' → (Instr.entry (.pointer (some ⟨r, 0, none⟩))).run Tryz.prog w' = .ok (.tuple #[.agg #[.int .u8 rr, .int .u32 ii, .int .u64 qq], v]) w' →
      wpListIn F nf Tryz.prog ops Q rest (a.put o.dst (.tuple #[.bool true, .agg #[.int .u8 rr, .int .u32 ii, .int .u64 qq], v])) w') : wpListIn F nf Tryz.prog ops Q (o :: rest) a w :=
  wpListIn_next_F keysD hg it hop b r n f left cnt hit h (fun _ h => hDone fun a ha => by obtain ⟨l, hl⟩ := keyD_ok ha; exact h a l hl)
    (fun x v l w' cnt' h1 h2 h3 h4 h5 h6 h7 h8 => hMore x.1.1 x.1.2 x.2 v w' cnt' ⟨keyD_inv h1, h2, h3, h4, h5, h6, h7⟩ h8)
end

/-- the keys of f, each once -/
def KeysInD (f : Dt → Option Value) (n : Nat) (ss : List Dt) : Prop := ss.length ≤ n ∧ ss.Nodup ∧ (∀ a ∈ ss, okD a) ∧ ∀ a, okD a → (a ∈ ss ↔ (f a).isSome = true)
/-- so far -/
structure CameD (f : Dt → Option Value) (left : Dt → Bool) (ss : List Dt) : Prop where
  nd : ss.Nodup
  ok : ∀ a ∈ ss, okD a
  ne : ∀ a ∈ ss, left a = false
  mem : ∀ a, okD a → (a ∈ ss ↔ (f a).isSome = true ∧ left a = false)
theorem CameD.start (f : Dt → Option Value) : CameD f (fun a => (f a).isSome) [] := ⟨List.nodup_nil, by simp, by simp, fun a _ => by cases h : f a <;> simp [h]⟩
theorem CameD.step {f : Dt → Option Value} {left : Dt → Bool} {ss : List Dt} (h : CameD f left ss) {x : Dt} {v : Value} (hok : okD x) (hl : left x = true) (hf : f x = some v) : CameD f (fun y => left y && !decide (y = x)) (ss ++ [x]) := by
  have hx : x ∉ ss := fun hx => by have := h.ne x hx; rw [hl] at this; cases this
  refine ⟨List.nodup_append.2 ⟨h.nd, by simp, fun a ha b hb => by simp at hb; subst hb; intro e; subst e; exact hx ha⟩, fun a ha => ?_, fun a ha => ?_, fun a hoka => ?_⟩
  · rcases List.mem_append.1 ha with ha | ha
    · exact h.ok a ha
    · simp at ha; subst ha; exact hok
  · rcases List.mem_append.1 ha with ha | ha
    · simp [h.ne a ha]
    · simp at ha; subst ha; simp
  · rw [List.mem_append, List.mem_singleton, h.mem a hoka]
    by_cases e : a = x
    · subst e; simp [hf, hl]
    · simp [e]
theorem CameD.done {f : Dt → Option Value} {left : Dt → Bool} {ss : List Dt} (h : CameD f left ss) (hl : NoneLeftD left) {n : Nat} (hn : ss.length ≤ n) : KeysInD f n ss :=
  ⟨hn, h.nd, h.ok, fun a ha => by rw [h.mem a ha, hl a ha]; simp⟩

set_option maxRecDepth 100000 in
set_option maxHeartbeats 1000000 in
theorem keysD1_in (F : Fence) (n : Nat) (h10 : F.fn 152) (hro : F.round = none) (hn : 1 ≤ n) (l Bm b nn : Nat) (f : Dt → Option Value) (J Jx : List Dt → World → Prop)
    (hY : ∀ pre x W, J pre W → pre.length < nn → YieldAt F (n - 1) Tryz.prog l #[mkD x] W fun e W' => (e = .returned (.bool true) ∧ J (pre ++ [x]) W' ∧ KeepsWalks W W') ∨ (e = .returned (.bool false) ∧ Jx (pre ++ [x]) W'))
    (W : World) (hJ : AbidesFrom W.heap.size J) (hm : W.cell? ⟨Bm, 0, none⟩ = some (.map (some b))) (hown : MapF W Tryz.prog 41 mkD b nn f) (h0 : J [] W) :
    CallsIn F n Tryz.prog 152 #[.func (.yield l) #[] #[], .pointer (some ⟨Bm, 0, none⟩)] W fun e W' => (∃ v, e = .returned v) ∧ ((∃ ss, KeysInD f nn ss ∧ J ss W') ∨ ∃ pre, Jx pre W') := by
  refine callsIn_of_wp Tryz.func152 rfl h10 ?_ hro
  simp only [Tryz.ntmps152, List.size_toArray, List.length_cons, List.length_nil, Nat.reduceAdd, Nat.reduceSub, Array.replicate_succ, Array.replicate_zero, List.push_toArray, List.append_toArray, List.nil_append, List.cons_append]
  gi_wp2_with (gi_at_range; refine wpListIn_range_F keysD rfl _ _ rfl _ Tryz.underlying77 b nn f rfl hown ?_; intro w0 cnt0 hrg0 hcn0 hg0 hs0)
  go_frame
  gi_loopw [3] (fun _ wr => ∃ (left : Dt → Bool) (cnt : Nat) (ss : List Dt), RangeF wr Tryz.prog 41 mkD b W.heap.size nn f left cnt ∧ ss.length + cnt ≤ nn ∧ CameD f left ss ∧ J ss wr)
    (fun _ wr => wr.rangeLeft b W.heap.size)
  case atStart =>
    exact ⟨_, _, [], hrg0, by simpa using hcn0, CameD.start f, hJ [] W w0 none h0 hg0 (fun r e => by cases e)⟩
  case round =>
    obtain ⟨left, cnt, ss, hrg, hcs, hC, hJs⟩ := hrel
    gi_wp2_with (gi_at_next; refine wpListIn_next_D rfl _ rfl b W.heap.size nn f left cnt rfl hrg ?_ ?_)
    · intro hl0
      gi_wp2
      go_end0
      exact ⟨⟨_, rfl⟩, .inl ⟨ss, hC.done hl0 (by omega), hJs⟩⟩
    · intro rr ii qq v w2 cnt2 hN hen
      have hJ2 : J ss w2 := hJ ss wr w2 (some W.heap.size) hJs hN.grown (fun r e => by cases e; exact ⟨Nat.le_refl _, hrg.iter_walk⟩)
      have hJ3 : J ss (w2.alloc (.cells #[.int .u8 rr, .int .u32 ii, .int .u64 qq] 41)) := hJ ss w2 _ none hJ2 (World.grownBy_alloc _ _ _) (fun r e => by cases e)
      have hlt := hN.lt
      obtain ⟨fn, tmps, assign, body, hy, hR⟩ := hY ss ((rr, ii), qq) _ hJ3 (by omega)
      have hrg3 := hN.rng.alloc (.cells #[.int .u8 rr, .int .u32 ii, .int .u64 qq] 41)
      simp only [mkD] at hy
      gi_wp2
      refine hR.mono ?_
      rintro e W3 (⟨rfl, hJ4, hk3⟩ | ⟨rfl, hJx3⟩)
      · gi_wp2
        have hrg4 := hrg3.of_walks hk3
        go_roundw
        case rel => exact ⟨_, cnt2, ss ++ [((rr, ii), qq)], hrg4, by simp; omega, hC.step hN.ok hN.was hN.val, hJ4⟩
        case measure => rw [hrg4.left_eq, hrg.left_eq]; exact hlt
      · gi_wp2
        refine bodyPost_ret (results_none rfl _ _ _) rfl ?_
        exact ⟨⟨_, rfl⟩, .inr ⟨ss ++ [((rr, ii), qq)], hJx3⟩⟩

/-- maps.Keys(m) hands back an iterator over m's keys -/
theorem keysD_stops (F : Fence) (n : Nat) (h10 : F.fn 152) (hro : F.round = none) (hn : 1 ≤ n) (Bm b nn : Nat) (f : Dt → Option Value) (w : World)
    (hm : w.heap[Bm]? = some (.cells #[.map (some b)] 77 (0, 0))) (hown : MapF w Tryz.prog 41 mkD b nn f) :
    SeqStopsK F n Tryz.prog 152 #[.pointer (some ⟨Bm, 0, none⟩)] (fun x : Dt => #[mkD x]) KeepsWalks (KeysInD f nn) (fun _ => True) nn w := fun l J Jx W hW hJ _ hY h0 => by
  have hc : W.cell? ⟨Bm, 0, none⟩ = some (.map (some b)) := by rw [cells_at ((hW.block Bm (heap_lt hm)).trans hm)]; rfl
  refine (keysD1_in F n h10 hro hn l Bm b nn f J Jx hY W hJ hc (hown.below hW) h0).mono ?_
  rintro e W' ⟨hv, h | ⟨pre, h⟩⟩
  · exact ⟨hv, .inl h⟩
  · exact ⟨hv, .inr ⟨pre, trivial, h⟩⟩

/-- block B holds an actor -/
def BoxD (W : World) (B : Nat) (x : Dt) : Prop := W.heap[B]? = some (.cells #[.int .u8 x.1.1, .int .u32 x.1.2, .int .u64 x.2] 41 (0, 0))
theorem boxD_own {β : Type} (B : Nat) (x : Dt) : Own (fun (_ : β) W => BoxD W B x) := fun s X Y row hs hg hrow =>
  (hg.block B (heap_lt hs) (fun e' => by obtain ⟨o, ho, hc⟩ := hrow B e'.symm; rw [show X.heap[B]? = _ from hs] at ho; cases ho; cases hc)).trans hs

set_option maxRecDepth 100000 in
set_option maxHeartbeats 2000000 in
/-- slices.AppendSeq(nil, seq) -/
theorem appendSeqD_in (F : Fence) (n : Nat) (h11 : F.fn 151) (hro : F.round = none) (hn : 2 ≤ n) (g : Nat) (lb : Array Value) (hFg : F.fn g) (eg : ∀ args w, (callFunc g args).run Tryz.prog w = .ok (.enter g args) w)
    (S : List Dt → Prop) (N : Nat) (hN : N ≤ 1100000) (w : World) (hseq : SeqStopsK F (n - 1) Tryz.prog g lb (fun x : Dt => #[mkD x]) KeepsWalks S (fun _ => True) N w) :
    CallsIn F n Tryz.prog 151 #[.slice none 0 0, .func (.func g) #[] lb] w fun e w' => ∃ a c ss, e = .returned (.slice a (List.length ss) c) ∧ S ss ∧ w'.ownsRow w.heap.size 41 3 (.slice a ss.length c) ss.length (dcells ss) ∧ Below w.heap.size w w' := by
  have h1 : 1 ≤ n := by omega
  obtain ⟨i0, hi, hz0, hz1, hz2⟩ := info_parts Tryz.info_dot
  refine callsIn_of_wp_marks Tryz.func151 rfl h11 ?_ hro
  simp only [Tryz.ntmps151, List.size_toArray, List.length_cons, List.length_nil, Nat.reduceAdd, Nat.reduceSub, Array.replicate_succ, Array.replicate_zero, List.push_toArray, List.append_toArray, List.nil_append, List.cons_append]
  gi_wp2
  have bO := Boxed.new w 23 (.slice none 0 0)
  have hB0 : Below w.heap.size w (w.alloc (.cells #[.slice none 0 0] 23)) := (Below.refl _ w).alloc (Nat.le_refl _) _
  refine wpIn_rangeFunc_ownH hro h1 (gf := g) (lb := lb) rfl hFg eg hseq walksK_t walksK_b hB0 (fun _ => rfl)
    (fun pre W => (∃ v, Boxed W w.heap.size 23 v ∧ W.ownsRow w.heap.size 41 3 v pre.length (dcells pre) ∧ True) ∧ Below w.heap.size w W)
    (fun _ _ _ => False)
    (OwnFrom.and (Own.from (holdsRow_own w.heap.size w.heap.size 23 41 3 (fun pre => pre.length) (fun pre => dcells pre) (fun _ _ => True)) _) (ownFrom_below (Nat.le_refl _) (by simp)))
    (fun _ _ _ _ _ hs _ _ => hs)
    ⟨⟨_, bO, World.ownsRow_nil _ _ _ _, trivial⟩, hB0⟩
    (fun x a' W => ∃ Bx, BoxD W Bx x ∧ a' = { tmps := #[.slice none 0 0, .func (.func g) #[] lb, .pointer (some ⟨w.heap.size, 0, none⟩), undef, .slice none 0 0, .pointer (some ⟨Bx, 0, none⟩), .func (.func g) #[] lb, mkD x, undef, undef, undef, undef, undef], defers := [] })
    (fun x a' => fun s X Y row hs hg hr => by
      obtain ⟨Bx, hx, ha⟩ := hs
      exact ⟨Bx, Own.from (boxD_own Bx x) _ s X Y row hx hg hr, ha⟩) ?assign ?body ?done ?stop
  case assign =>
    rintro l pre x W K ⟨⟨v, hv, hrow, _⟩, hB⟩ hK
    obtain ⟨⟨r, i⟩, sq⟩ := x
    simp only [mkD]
    gi_wp2
    exact hK _ _ ((KeepsOthers.alloc _ _).from _) (KeepsWalks.alloc _ _) ⟨⟨v, hv.alloc _, hrow.alloc _, trivial⟩, hB.alloc hB.size _⟩ ⟨W.heap.size, heap_new _ _, rfl⟩
  case body =>
    rintro l pre x a' W hl hr ⟨⟨v, hv, hrow, _⟩, hB⟩ ⟨Bx, hbx, rfl⟩ hlt
    have hc := hv.cell
    have cx := cells_at hbx
    obtain ⟨⟨r, i⟩, sq⟩ := x
    dsimp only at cx
    gi_wp2_with (gi_at_builtin; refine wpListIn_append_own _ rfl _ _ 23 rfl w.heap.size 41 i0 (.agg #[.int .u8 0, .int .u32 0, .int .u64 0]  ) 3 16 Tryz.underlying23 hi hz0 hz1 hz2 rfl (by decide) _ _ _ rfl (hrow.alloc _) ⟨W.heap.size, 0, none⟩ 1 1 [.int .u8 r, .int .u32 i, .int .u64 sq] rfl rfl (World.news_of_block (cs := #[.int .u8 r, .int .u32 i, .int .u64 sq]) (t := 41) (fr := (0, 0)) (heap_alloc_new W _)) (by simp [Value.oneCell']) (by unfold maxLen; omega) (by omega) (by have := hB.size; simp; omega) ?_; intro v' w1 hown' hgrow _; obtain ⟨g', cap', rfl⟩ := ownsRow_succ hown'; obtain ⟨hv1, hv2, hr2, hk2, hb2⟩ := hv.appended (by decide) hrow hB.size (Nat.le_refl _) hown' hgrow; have hc1 := hv1.cell; have hf1 := hv1.frozen)
    refine ⟨hk2.from _, ?_, ⟨_, hv2, ?_, trivial⟩, hB.trans hb2⟩
    · exact ⟨hk2.size, fun k o hk ho => hk2.same k o hk (Obj.not_cells_of_walk ho)⟩
    · rw [dcells_snoc]; simpa [dcell] using hr2
  case done =>
    rintro D ys W hD hS ⟨⟨v, hv, hrow, _⟩, hB⟩ hK
    have hc := hv.cell
    obtain ⟨a, c, rfl⟩ := owns_slice hrow
    gi_wp2
    refine ⟨by simp, .inl ⟨_, _, rfl, run_takeDeferred hK, ?_⟩⟩
    exact ⟨_, results_tmp rfl _ _ _, a, c, ys, rfl, hS, ownsRow_putObj hrow _ hK rfl, hB.trans (belowK_b (w := w) (Nat.le_refl _) W D _ _ (by simp at hD; omega) hK rfl rfl)⟩
  case stop =>
    rintro D c pre W _ _ h _
    exact h.elim
/-- slices.Collect(maps.Keys(m)) -/
theorem collectD_keys (Bm b nn : Nat) (f : Dt → Option Value) (w : World) (hm : w.heap[Bm]? = some (.cells #[.map (some b)] 77 (0, 0))) (hown : MapF w Tryz.prog 41 mkD b nn f) (hN : nn ≤ 1100000) :
    Calls Tryz.prog 93 #[.func (.func 152) #[] #[.pointer (some ⟨Bm, 0, none⟩)]] w fun e w' =>
      ∃ a c ss, e = .returned (.slice a (List.length ss) c) ∧ KeysInD f nn ss ∧ w'.ownsRow w.heap.size 41 3 (.slice a ss.length c) ss.length (dcells ss) ∧ Below w.heap.size w w' := by
  have hc := (callsIn_wide (n := 5)).1 (appendSeqD_in Fence.wide 5 trivial rfl (by omega) _ _ trivial (enters_of Tryz.func152 (by kernel_rfl) rfl) (KeysInD f nn) nn hN w
    (keysD_stops Fence.wide 4 trivial rfl (by omega) Bm b nn f w hm hown))
  have Hc := Lib.hid hc
  clear hc hm hown
  go_enter Tryz.func93, Tryz.ntmps93
  go_wp2_with fail
  refine Hc.out.mono ?_
  rintro e w' ⟨a, c, ss, rfl, h⟩
  go_wp2_with fail
  go_ret
  exact ⟨a, c, ss, rfl, h⟩

end Go.Proofs.YthdmoplclllhjaaGreat

/- GraK -/
namespace Go.Proofs.YthdmoplclllhjaaGreat
open Go.RowKit
set_option linter.unusedVariables false
set_option linter.unusedSimpArgs false

def keepP (p : Dt → Bool) (l : List Dt) : List Dt := l.filter fun d => !p d
theorem keepP_none {p : Dt → Bool} {l : List Dt} (h : ∀ d ∈ l, p d = false) : keepP p l = l := List.filter_eq_self.2 fun d hd => by rw [h d hd]; rfl
theorem keepP_snoc {p : Dt → Bool} {l : List Dt} {q : Nat} {d : Dt} (hd : l[q]? = some d) : keepP p (l.take (q + 1)) = if p d = true then keepP p (l.take q) else keepP p (l.take q) ++ [d] := by
  unfold keepP
  rw [take_snoc' hd, List.filter_append]
  cases hp : p d <;> simp [hp]
/-- the first jj of l are gone through, kk are kept at the start of cur -/
structure DelI (p : Dt → Bool) (l cur : List Dt) (kk jj : Nat) : Prop where
  len : cur.length = l.length
  lt : kk < jj ∧ jj ≤ l.length
  kept : cur.take kk = keepP p (l.take jj)
  rest : ∀ i, jj ≤ i → cur[i]? = l[i]?
theorem DelI.start {p : Dt → Bool} {l : List Dt} {q : Nat} {d : Dt} (hd : l[q]? = some d) (hp : p d = true) (h : ∀ s ∈ l.take q, p s = false) : DelI p l l q (q + 1) :=
  ⟨rfl, ⟨Nat.lt_succ_self _, (List.getElem?_eq_some_iff.1 hd).1⟩, by rw [keepP_snoc hd, if_pos hp, keepP_none h], fun _ _ => rfl⟩
theorem DelI.skip {p : Dt → Bool} {l cur : List Dt} {kk jj : Nat} {d : Dt} (h : DelI p l cur kk jj) (hd : l[jj]? = some d) (hp : p d = true) : DelI p l cur kk (jj + 1) :=
  ⟨h.len, ⟨by have := h.lt; omega, (List.getElem?_eq_some_iff.1 hd).1⟩, by rw [keepP_snoc hd, if_pos hp, h.kept], fun i hi => h.rest i (by omega)⟩
theorem DelI.keep {p : Dt → Bool} {l cur : List Dt} {kk jj : Nat} {d : Dt} (h : DelI p l cur kk jj) (hd : l[jj]? = some d) (hp : p d = false) : DelI p l (cur.set kk d) (kk + 1) (jj + 1) := by
  have hjl := (List.getElem?_eq_some_iff.1 hd).1
  have hkl : kk < cur.length := by have := h.lt; have := h.len; omega
  refine ⟨by rw [List.length_set, h.len], ⟨by have := h.lt; omega, hjl⟩, ?_, fun i hi => ?_⟩
  · rw [keepP_snoc hd, if_neg (by rw [hp]; simp), ← h.kept]
    have hs : (cur.set kk d)[kk]? = some d := by rw [List.getElem?_set_self hkl]
    rw [take_snoc' hs, List.take_set_of_le (Nat.le_refl _)]
  · rw [List.getElem?_set_ne (by have := h.lt; omega)]
    exact h.rest i (by omega)
theorem DelI.done {p : Dt → Bool} {l cur : List Dt} {kk : Nat} (h : DelI p l cur kk l.length) : cur.take kk = keepP p l := by have := h.kept; rwa [List.take_length] at this
set_option maxRecDepth 100000 in
set_option maxHeartbeats 8000000 in
theorem deleteD_fn (fn : FuncId) (cap : Array Value) (p : Dt → Bool) (a : Option Addr) (c base : Nat) (l : List Dt) (w : World) (h : OwnD w base a c l) (hn : l.length ≤ 1100000)
    (he : ∀ args w, (callFunc fn args).run Tryz.prog w = .ok (.enter fn args) w)
    (hp : ∀ r i s, ((r, i), s) ∈ l → ∀ W, Chg (ob a) w W → Calls Tryz.prog fn (#[.agg #[.int .u8 r, .int .u32 i, .int .u64 s]] ++ cap) W (fun e W' => e = .returned (.bool (p ((r, i), s))) ∧ Below W.heap.size W W')) :
    Calls Tryz.prog 92 #[.slice a l.length c, .func (.func fn) #[] cap] w fun e w' => ∃ v', e = .returned (.slice a (List.length v') c) ∧ v' = keepP p l ∧ OwnD w' base a c v' ∧ Chg (ob a) w w' := by
  have H := Lib.hid h
  have HP := Lib.hid hp
  clear h hp
  go_enter Tryz.func92, Tryz.ntmps92
  go_wp2_with fail
  refine (indexD_fn fn cap p a c l _ H.out.vec hn he (fun r i s hd W hW => HP.out r i s hd W (Chg.of_below hW))).mono ?_
  intro e w1 hto
  obtain ⟨k, rfl, hk, hb⟩ := hto
  have HB := Lib.hid hb
  clear hb
  obtain ⟨rfl, hnone⟩ | ⟨q, d, rfl, hqd, hpd, hall⟩ := hk
  · have Hn := Lib.hid hnone
    clear hnone
    go_wp2_with fail
    go_ret
    exact ⟨l, rfl, (keepP_none Hn.out).symm, H.out.below HB.out, Chg.of_below HB.out⟩
  · obtain ⟨g, rfl, hbg, hgl⟩ := H.out.form (fun e => by subst e; simp at hqd)
    have hcap := H.out.cap
    have Hst := Lib.hid (DelI.start hqd hpd hall)
    have hql : q < l.length := (List.getElem?_eq_some_iff.1 hqd).1
    clear hqd hpd hall
    have e1 : ((q : Int) == -1) = false := by rw [beq_eq_false_iff_ne]; omega
    go_wp2_with fail
    go_loopw [5, 6] (fun kv jv wx => ∃ (kk jj : Nat) (cur : List Dt), kv = .int .i64 kk ∧ jv = .int .i64 jj ∧ Hid (DelI p l cur kk jj) ∧ Hid (OwnD wx base (some ⟨g, 0, none⟩) c cur) ∧ Hid (Chg [g] w wx)) (fun _ jv _ => l.length - (intOf jv).toNat)
    case atStart => exact ⟨q, q + 1, l, rfl, by go_num, Hst, Lib.hid (H.out.below HB.out), Lib.hid (Chg.of_below HB.out)⟩
    case round =>
      rename_i wx _
      clear e1
      obtain ⟨kk, jj, cur, rfl, rfl, hD, hO, hC⟩ := hrel
      have hcap2 := hO.out.cap
      have Hcl := Lib.hid hD.out.len
      have hkj : kk < jj := hD.out.lt.1
      have hjl : jj ≤ l.length := hD.out.lt.2
      by_cases hlt : jj < l.length
      · obtain ⟨⟨⟨r, i⟩, s⟩, hx⟩ : ∃ x, l[jj]? = some x := ⟨l[jj], by simp [hlt]⟩
        have hx' := (hD.out.rest jj (Nat.le_refl _)).trans hx
        obtain ⟨c0, c1, c2⟩ := hO.out.at hx'
        dsimp only at c0 c1 c2
        have Hx := Lib.hid hx
        have hA : Below wr.heap.size wr (wr.alloc (.cells #[.int .u8 r, .int .u32 i, .int .u64 s] 41)) := (Below.refl _ _).alloc (Nat.le_refl _) _
        have HA := Lib.hid hA
        have HPx := Lib.hid (HP.out r i s (List.mem_of_getElem? hx))
        clear hx hx' hA
        go_wp2_with fail
        refine (HPx.out _ ((hC.out.trans (Chg.of_below (F := []) HA.out) (by simp)))).mono ?_
        rintro e w3 ⟨rfl, hb3⟩
        have X3 := Lib.hid (new1 hb3).1
        have O3 := Lib.hid ((hO.out.below HA.out).below hb3)
        have C3 := Lib.hid ((hC.out.trans (Chg.of_below (F := []) HA.out) (by simp)).trans (Chg.of_below (F := []) hb3) (by simp))
        have x3 := cells_at X3.out
        clear hb3 c0 c1 c2
        cases hz : p ((r, i), s) with
        | true =>
          have Hz := Lib.hid hz
          go_wp2_with fail
          go_roundw
          case rel => exact ⟨kk, jj + 1, cur, rfl, by go_num, Lib.hid (hD.out.skip Hx.out Hz.out), O3, C3⟩
          case measure => simp [intOf]; omega
        | false =>
          have Hz := Lib.hid hz
          have hkl : kk < cur.length := by have := Hcl.out; omega
          obtain ⟨⟨⟨vr, vi⟩, vs⟩, hv⟩ : ∃ x, cur[kk]? = some x := ⟨cur[kk], by simp [hkl]⟩
          obtain ⟨p0, p1, p2⟩ := O3.out.at hv
          have hf := O3.out.free
          dsimp only at p0 p1 p2
          clear hv
          go_wp2_with fail
          have q1 := O3.out.put hkl ((r, i), s)
          have q2 := chg_set3 C3.out (kk * 3) (kk * 3 + 1) (kk * 3 + 2) (.int .u8 r) (.int .u32 i) (.int .u64 s)
          exact ⟨⟨kk + 1, jj + 1, cur.set kk ((r, i), s), by go_num, by go_num, Lib.hid (hD.out.keep Hx.out Hz.out), Lib.hid q1, Lib.hid q2⟩, by simp [intOf]; omega⟩
      · have hjj : jj = l.length := by omega
        have Hd := Lib.hid (show cur.take kk = keepP p l from by have := hD.out; rw [hjj] at this; exact this.done)
        have hkl : kk ≤ cur.length := by have := Hcl.out; omega
        have hck : c ≠ kk := by have := Hcl.out; omega
        have hadd : (⟨g, 0, none⟩ : Addr).add (kk * 3) = ⟨g, kk * 3, none⟩ := by unfold Addr.add; split <;> simp_all
        have hs3 := fun W => slice_loD (some ⟨g, 0, none⟩) cur.length c kk hkl hcap2 W
        have hs4 := fun W => slice_hiD (some ⟨g, 0, none⟩) cur.length c kk (by omega) W
        obtain ⟨w5, hr5, ho5, hC5⟩ := run_clearD (n := 0) hO.out 0 kk hkl
        rw [if_neg hck] at hs3 hr5
        simp only [Option.map_some, hadd] at hs3
        rw [Hcl.out] at hs3 hs4 hr5
        have Ho5 := Lib.hid ho5
        have HC5 := Lib.hid (hC.out.trans hC5 (by simp))
        have hl5 : (cur.take kk).length = kk := by rw [List.length_take]; omega
        have Hl5 := Lib.hid hl5
        clear ho5 hC5 hl5 hadd hjj
        go_wp2_with (at_builtin; go_must (refine wpList_clear_run rfl _ _ rfl _ hr5 ?_))
        go_wp2_with fail
        go_ret
        exact ⟨cur.take kk, by rw [Hl5.out]; rfl, Hd.out, Ho5.out, HC5.out⟩
end Go.Proofs.YthdmoplclllhjaaGreat

/- GraL -/
namespace Go.Proofs.YthdmoplclllhjaaGreat
open Go.RowKit
set_option linter.unusedVariables false
set_option linter.unusedSimpArgs false

/-- within another commit's history -/
def behind1 (c : Cm) (d : Dt) : Bool := !eqD c.d d && hasV c.vv d
def behindB (L : List Cm) (d : Dt) : Bool := L.any fun c => behind1 c d
theorem behind_no {L : List Cw} {d : Dt} (h : ∀ v ∈ L, behind1 v.c d = false) : behindB (cms L) d = false := by
  unfold behindB cms
  rw [List.any_map, List.any_eq_false]
  intro v hv
  show ¬ behind1 v.c d = true
  rw [h v hv]; simp
theorem behind_yes {L : List Cw} {d : Dt} {v : Cw} (hv : v ∈ L) (h : behind1 v.c d = true) : behindB (cms L) d = true := by
  unfold behindB cms
  rw [List.any_map, List.any_eq_true]
  exact ⟨v, hv, h⟩
theorem fvW_mem {L : List Cw} (hn : ((cms L).map (·.d)).Nodup) {v : Cw} (hv : v ∈ L) : fdW L v.c.d = some v := by
  induction L with
  | nil => cases hv
  | cons a L ih =>
    unfold cms at hn
    rw [List.map_cons, List.map_cons, List.nodup_cons] at hn
    unfold fdW
    rw [List.find?_cons]
    by_cases e : a.c.d = v.c.d
    · rw [decide_eq_true e]
      rcases List.mem_cons.1 hv with rfl | h
      · rfl
      · exact absurd (List.mem_map.2 ⟨v.c, List.mem_map.2 ⟨v, h, rfl⟩, e.symm⟩) hn.1
    · rw [decide_eq_false e]
      rcases List.mem_cons.1 hv with rfl | h
      · exact absurd rfl e
      · exact ih hn.2 h
theorem fvW_some {L : List Cw} {d : Dt} {x : Value} (h : fvW L d = some x) : ∃ v ∈ L, v.c.d = d ∧ x = cwv v := by
  unfold fvW at h
  cases hf : fdW L d with
  | none => rw [hf] at h; cases h
  | some v => rw [hf] at h; exact ⟨v, (fdW_some hf).1, (fdW_some hf).2, (Option.some.inj h).symm⟩
theorem same_of_d {L : List Cw} (hn : ((cms L).map (·.d)).Nodup) {u v : Cw} (hu : u ∈ L) (hv : v ∈ L) (h : u.c.d = v.c.d) : u = v := by
  have h1 := fvW_mem hn hu
  rw [h, fvW_mem hn hv] at h1
  exact (Option.some.inj h1).symm
theorem next_left {L : List Cw} (hn : ((cms L).map (·.d)).Nodup) {left : Dt → Bool} {P : Cw → Prop} (h : ∀ v ∈ L, left v.c.d = false → P v) {v : Cw} (hv : v ∈ L) {d : Dt} (hd : v.c.d = d) (hp : P v) : ∀ u ∈ L, (left u.c.d && !decide (u.c.d = d)) = false → P u := fun u hu hl => by
  by_cases e : u.c.d = d
  · rw [same_of_d hn hu hv (e.trans hd.symm)]; exact hp
  · rw [decide_eq_false e] at hl; exact h u hu (by simpa using hl)
set_option maxRecDepth 100000 in
set_option maxHeartbeats 8000000 in
theorem behind_any (pg mb : Nat) (w0 : World) (m : Nat) (b : Bw) (L : List Cw) (va : Option Addr) (vc : Nat) (vv : List Dt) (gb : Nat) (r i s : Int) (w : World) (h : GrAt w pg mb w0 m b L va vc vv) (hg : w.cell? ⟨gb, 0, none⟩ = some (.pointer (some ⟨pg, 0, none⟩))) (hd : okD ((r, i), s)) :
    Calls Tryz.prog 91 #[.agg #[.int .u8 r, .int .u32 i, .int .u64 s], .pointer (some ⟨gb, 0, none⟩)] w fun e w' => e = .returned (.bool (behindB (cms L) ((r, i), s))) ∧ Below w.heap.size w w' := by
  have H := Lib.hid h
  have g0 := cells_at h.blk
  simp only [gcells] at g0
  have hpg := heap_lt h.blk
  clear h
  have z0 : gb < w.heap.size := World.block_lt_of_cell? w _ hg
  have hB : Below w.heap.size w (w.alloc (.cells #[.int .u8 r, .int .u32 i, .int .u64 s] 41)) := (Below.refl _ _).alloc (Nat.le_refl _) _
  have HB := Lib.hid hB
  have HM := Lib.hid ((H.out.below hB).map.mapF)
  clear hB
  go_enter Tryz.func91, Tryz.ntmps91
  go_wp2_with (at_range; go_must (refine wpList_range_F keysD rfl _ _ rfl _ Tryz.underlying77 mb L.length (fvW L) rfl HM.out ?_))
  intro wa cnt0 hrg0 hcn0 hg0 hs0
  have hb0 : Below (w.alloc (.cells #[.int .u8 r, .int .u32 i, .int .u64 s] 41)).heap.size (w.alloc (.cells #[.int .u8 r, .int .u32 i, .int .u64 s] 41)) wa := (Below.refl _ _).grown hg0 (Nat.le_refl _) (by simp)
  have E0 := Lib.hid (BoxE.of hb0)
  have Hrg0 : Hid (RangeF wa Tryz.prog 41 mkD mb (w.heap.size + 1) L.length (fvW L) (fun a => (fvW L a).isSome) cnt0) := Lib.hid (by simpa using hrg0)
  clear hg0 hs0 hb0 hrg0 g0 hpg z0 hg HB
  go_wp2_with fail
  go_loopw [5] (fun _ wr => ∃ (left : Dt → Bool) (cnt : Nat), RangeF wr Tryz.prog 41 mkD mb (w.heap.size + 1) L.length (fvW L) left cnt ∧ (∀ v ∈ L, left v.c.d = false → behind1 v.c ((r, i), s) = false) ∧ BoxE 41 w wr #[.int .u8 r, .int .u32 i, .int .u64 s]) (fun _ wr => wr.rangeLeft mb (w.heap.size + 1))
  case atStart =>
    refine ⟨_, cnt0, Hrg0.out, fun v hv hl => ?_, E0.out⟩
    have : fvW L v.c.d = some (cwv v) := by unfold fvW; rw [fvW_mem H.out.nodup hv]; rfl
    rw [this] at hl; cases hl
  case round =>
    obtain ⟨left, cnt, hrg, hle, hb⟩ := hrel
    have Hrg := Lib.hid hrg
    have Hle := Lib.hid hle
    have E := Lib.hid hb
    have hsz := hb.bel.size
    clear hle hb E0 Hrg0 hcn0
    go_wp2_with (at_next; go_must (refine wpList_next_D rfl _ rfl _ _ _ _ _ _ rfl hrg ?_ ?_))
    · intro hl
      clear hrg
      have Hw := Lib.hid (show behindB (cms L) ((r, i), s) = false from behind_no fun v hv => Hle.out v hv (hl _ (H.out.each v hv).ok.d))
      clear hl
      go_wp2_with fail
      go_ret
      exact ⟨by rw [Hw.out]; rfl, E.out.bel⟩
    · intro rr ii qq xv w3 cnt1 hX hen
      clear hrg
      have hlt1 := hX.lt
      obtain ⟨v, hvL, hvd, rfl⟩ := fvW_some hX.val
      have hc1 := Chg.grown hX.grown
      simp only [Option.toList_some] at hc1
      have hb1 : Below w.heap.size w w3 := E.out.bel.trans (hc1.below hsz (by simp))
      have x3 := heap_chg E.out.blk hc1 (by simp)
      have Hv := Lib.hid (((H.out.each v hvL).at_).below hb1)
      have Hrg1 := Lib.hid hX.rng
      have Hb1 := Lib.hid hb1
      have HvL := Lib.hid hvL
      have hlen := canon_few (H.out.may v hvL).canon
      have Hvd := Lib.hid hvd
      have z3 := heap_lt x3
      clear hX hc1 hb1 hvL hvd
      have X3 := Lib.hid x3
      have d3 := cells_at x3
      clear x3
      obtain ⟨⟨⟨⟨r1, i1⟩, s1⟩, ps1, uu1, t1, ⟨k1, n1, x1, p1, ds1⟩⟩, qa1, qc1, ua1, uc1, pa1, pc1, da1, dc1⟩ := v
      simp only [cwv, cwcells] at hen ⊢
      have hA : Below w3.heap.size w3 (w3.alloc (.cells (ccells r1 i1 s1 qa1 ps1.length qc1 ua1 uu1.length uc1 t1 k1 pa1 p1.length pc1 n1 x1 da1 ds1.length dc1) 46)) := (Below.refl _ _).alloc (Nat.le_refl _) _
      have HA := Lib.hid hA
      have EA := Lib.hid (show BoxE 41 w (w3.alloc (.cells (ccells r1 i1 s1 qa1 ps1.length qc1 ua1 uu1.length uc1 t1 k1 pa1 p1.length pc1 n1 x1 da1 ds1.length dc1) 46)) #[.int .u8 r, .int .u32 i, .int .u64 s] from BoxE.step ⟨X3.out, Hb1.out⟩ hA)
      dsimp only at hlen
      clear hA
      cases hq : eqD ((r1, i1), s1) ((r, i), s) with
      | true =>
        have Hno := Lib.hid (show behind1 ⟨((r1, i1), s1), ps1, uu1, t1, ⟨k1, n1, x1, p1, ds1⟩⟩ ((r, i), s) = false by simp [behind1, hq])
        have Hrg2 := Lib.hid (Hrg1.out.alloc (.cells (ccells r1 i1 s1 qa1 ps1.length qc1 ua1 uu1.length uc1 t1 k1 pa1 p1.length pc1 n1 x1 da1 ds1.length dc1) 46))
        go_wp2_with fail
        go_roundw
        case rel => exact ⟨_, cnt1, Hrg2.out, next_left H.out.nodup Hle.out HvL.out Hvd.out Hno.out, EA.out⟩
        case measure => rw [Hrg2.out.left_eq, Hrg.out.left_eq]; exact hlt1
      | false =>
        have He := Lib.hid (show behind1 ⟨((r1, i1), s1), ps1, uu1, t1, ⟨k1, n1, x1, p1, ds1⟩⟩ ((r, i), s) = hasV uu1 ((r, i), s) by simp [behind1, hq])
        go_wp2_with fail
        refine (has_any ua1 uc1 uu1 r i s _ (Hv.out.vv.below HA.out) (by omega) Hv.out.ok.vv hd.1).mono ?_
        rintro e w4 ⟨rfl, hb4⟩
        have E4 := Lib.hid (EA.out.step hb4)
        have Hrg2 := Lib.hid ((Hrg1.out.alloc (.cells (ccells r1 i1 s1 qa1 ps1.length qc1 ua1 uu1.length uc1 t1 k1 pa1 p1.length pc1 n1 x1 da1 ds1.length dc1) 46)).chg (F := []) (Chg.of_below hb4) (by simp) (by simp))
        clear hb4 d3
        cases hh : hasV uu1 ((r, i), s) with
        | true =>
          have Hy := Lib.hid (show behindB (cms L) ((r, i), s) = true from behind_yes HvL.out (by rw [He.out, hh]))
          go_wp2_with fail
          go_ret
          exact ⟨by rw [Hy.out]; rfl, E4.out.bel⟩
        | false =>
          have Hno := Lib.hid (show behind1 ⟨((r1, i1), s1), ps1, uu1, t1, ⟨k1, n1, x1, p1, ds1⟩⟩ ((r, i), s) = false by rw [He.out, hh])
          go_wp2_with fail
          go_roundw
          case rel => exact ⟨_, cnt1, Hrg2.out, next_left H.out.nodup Hle.out HvL.out Hvd.out Hno.out, E4.out⟩
          case measure => rw [Hrg2.out.left_eq, Hrg.out.left_eq]; exact hlt1
end Go.Proofs.YthdmoplclllhjaaGreat

/- GraM -/
namespace Go.Proofs.YthdmoplclllhjaaGreat
open Go.RowKit
set_option linter.unusedVariables false
set_option linter.unusedSimpArgs false

theorem keysD_any (mb : Nat) (w : World) : Calls Tryz.prog 94 #[.map (some mb)] w fun e w' =>
    e = .returned (.func (.func 152) #[] #[.pointer (some ⟨w.heap.size, 0, none⟩)]) ∧ w' = w.alloc (.cells #[.map (some mb)] 77) := by
  go_enter Tryz.func94, Tryz.ntmps94
  go_wp2_with fail
  go_ret
  exact ⟨rfl, rfl⟩
/-- the heads of commits above some tips -/
def HeadsP (tips : List Dt) (L : List Cm) (Hl : List Dt) : Prop := Hl.Pairwise ltD ∧ ∀ d, d ∈ Hl ↔ (d ∈ tips ∨ ∃ c ∈ L, c.d = d) ∧ behindB L d = false
def HeadsTo (w : World) (tips : List Dt) (L : List Cm) (e : Ending) (w' : World) : Prop :=
  ∃ a c Hl, e = .returned (.slice a (List.length Hl) c) ∧ HeadsP tips L Hl ∧ okV Hl ∧ Hl.length ≤ 100200 ∧ OwnD w' w.heap.size a c Hl ∧ Below w.heap.size w w'
theorem strict_of {l : List Dt} (h : l.Pairwise fun x y => lessD y x = false) (hn : l.Nodup) : l.Pairwise ltD := by
  refine (h.and hn).imp ?_
  rintro a b ⟨h1, h2⟩
  rcases lessD_total h2 with h3 | h3
  · exact h3
  · rw [h3] at h1; cases h1
theorem heads_of {tips : List Dt} {L : List Cw} {F : List Dt} {ss l : List Dt} (hk : KeysInD (fvW L) L.length ss) (ht : tips.Pairwise ltD) (hw : ∀ d ∈ tips, hasV F d = true) (ho : ∀ v ∈ L, hasV F v.c.d = false) (hd : ∀ v ∈ L, okD v.c.d)
    (hp : l.Perm (keepP (behindB (cms L)) (ss ++ tips))) (hs : l.Pairwise fun x y => lessD y x = false) (hn : ((cms L).map (·.d)).Nodup) : HeadsP tips (cms L) l := by
  obtain ⟨k1, k2, k3, k4⟩ := hk
  have hmem : ∀ d, d ∈ ss ↔ ∃ c ∈ cms L, c.d = d := fun d => by
    constructor
    · intro h
      have h2 := (k4 d (k3 d h)).1 h
      cases hf : fvW L d with
      | none => rw [hf] at h2; cases h2
      | some x =>
        obtain ⟨v, hv, hvd, _⟩ := fvW_some hf
        exact ⟨v.c, List.mem_map.2 ⟨v, hv, rfl⟩, hvd⟩
    · rintro ⟨c, hc, rfl⟩
      obtain ⟨v, hv, rfl⟩ := List.mem_map.1 hc
      refine (k4 _ (hd v hv)).2 ?_
      unfold fvW
      rw [fvW_mem hn hv]; rfl
  have hnd : (ss ++ tips).Nodup := by
    refine List.nodup_append.2 ⟨k2, ht.imp (fun {a b} h e => by subst e; exact ltD_irrefl _ h), fun a ha b hb e => ?_⟩
    subst e
    obtain ⟨c, hc, hcd⟩ := (hmem a).1 ha
    obtain ⟨v, hv, rfl⟩ := List.mem_map.1 hc
    have h1 := ho v hv
    rw [hcd, hw a hb] at h1
    cases h1
  refine ⟨strict_of hs (hp.nodup_iff.2 (hnd.filter _)), fun d => ?_⟩
  rw [hp.mem_iff]
  unfold keepP
  rw [List.mem_filter, List.mem_append, hmem]
  simp only [Bool.not_eq_true', or_comm]
set_option maxRecDepth 100000 in
set_option maxHeartbeats 8000000 in
theorem heads_G (pg mb : Nat) (w0 : World) (m : Nat) (b : Bw) (L : List Cw) (va : Option Addr) (vc : Nat) (vv : List Dt) (w : World) (h : GrAt w pg mb w0 m b L va vc vv) :
    Calls Tryz.prog 23 #[.pointer (some ⟨pg, 0, none⟩)] w (HeadsTo w b.b.tips (cms L)) := by
  have H := Lib.hid h
  have hpg := heap_lt h.blk
  have g0 := cells_at h.blk
  simp only [gcells] at g0
  have hB : Below w.heap.size w (w.alloc (.cells #[.pointer (some ⟨pg, 0, none⟩)] 33)) := (Below.refl _ _).alloc (Nat.le_refl _) _
  have HB := Lib.hid hB
  have hemb := enters_of Tryz.func91 (by kernel_rfl) rfl
  clear h hB
  go_enter Tryz.func23, Tryz.ntmps23
  go_wp2_with fail
  refine (none_some pg mb _ (H.out.below HB.out).c5).mono ?_
  rintro e w1 ⟨rfl, rfl⟩
  go_wp2_with fail
  refine region_text [([0, 1, 2, 3, 6, 7, 8, 9, 10, 12], false), ([4], true), ([5], true), ([11, 13, 14], false)] mixed (by kernel_rfl) ?_
  simp only [wpSegs, List.map_cons, List.map_nil, List.getD_cons_succ, List.getD_cons_zero]
  go_wp2_with fail
  refine (keysD_any mb _).mono ?_
  rintro e w2 ⟨rfl, hw2⟩
  have hX2 : Below (w.alloc (.cells #[.pointer (some ⟨pg, 0, none⟩)] 33)).drew.heap.size (w.alloc (.cells #[.pointer (some ⟨pg, 0, none⟩)] 33)).drew w2 := by rw [hw2]; exact (Below.refl _ _).alloc (Nat.le_refl _) _
  have hm2 : w2.heap[w.heap.size + 1]? = some (.cells #[.map (some mb)] 77 (0, 0)) := by rw [hw2]; exact heap_new2 _ _ _
  have b2 := (new1 (((Below.refl _ _).drew).trans hX2))
  have HX2 := Lib.hid hX2
  have HM2 := Lib.hid hm2
  have HG2 := Lib.hid b2.1
  have HB2 := Lib.hid b2.2.2
  have hz2 := b2.2.1
  clear hX2 hm2 b2 hw2
  go_wp2_with fail
  refine And.intro (Agree.of_below HX2.out) ?_
  go_wp2_with fail
  refine (collectD_keys (w.heap.size + 1) mb L.length (fvW L) w2 HM2.out ((H.out.below HB2.out).map.mapF) (by have := H.out.max; omega)).mono ?_
  rintro e w3 ⟨a3, c3, ss, rfl, hks, hown3, hb3⟩
  have HK := Lib.hid hks
  have hk1 := hks.1
  have O3 := Lib.hid (show OwnD w3 (w.heap.size + 1) a3 c3 ss from owns_base hown3 hz2)
  have Hb3 := Lib.hid hb3
  have HB3 := Lib.hid (below2 HB2.out hb3 HB2.out.size)
  have hz3 : w.heap.size + 1 ≤ w3.heap.size := by have := hb3.size; omega
  have HG3 := Lib.hid ((hb3.block _ (heap_lt HG2.out)).trans HG2.out)
  have hmax := H.out.max
  have htm := H.out.tmax
  clear hks hown3 hb3 HX2 HM2 HG2
  go_wp2_with fail
  refine And.intro (Agree.of_below Hb3.out) ?_
  go_wp2_with (at_builtin; go_must (refine wpList_appD rfl _ _ rfl (w.heap.size + 1) a3 c3 ss rfl O3.out b.ta b.tc b.b.tips rfl (((H.out.base.tips).below H.out.bel).below HB3.out) ?n1 ?b1 ?_))
  case n1 => omega
  case b1 => exact hz3
  intro v4 a4 c4 w4 hv4 ho4 hb4 hch4
  have HB4 := Lib.hid (HB3.out.trans (hb4.mono (Nat.le_succ _)))
  have HG4 := Lib.hid ((hb4.block w.heap.size (Nat.lt_succ_self _)).trans HG3.out)
  have O4 := Lib.hid ho4
  have Hv4 := Lib.hid hv4
  have hl4 : v4.length ≤ 100200 := by rw [hv4, List.length_append]; omega
  have hok4 : ∀ d ∈ v4, okD d := by
    intro d hd
    rw [hv4] at hd
    rcases List.mem_append.1 hd with hd | hd
    · exact HK.out.2.2.1 d hd
    · exact H.out.base.okt d hd
  have Hok4 := Lib.hid hok4
  clear hv4 ho4 hb4 hch4 hok4 Hb3 HG3
  have key : ∀ r i s, ((r, i), s) ∈ v4 → ∀ W, Chg (ob a4) w4 W → Calls Tryz.prog 91 (#[.agg #[.int .u8 r, .int .u32 i, .int .u64 s]] ++ #[.pointer (some ⟨w.heap.size, 0, none⟩)]) W (fun e W' => e = .returned (.bool (behindB (cms L) ((r, i), s))) ∧ Below W.heap.size W W') := by
    intro r i s hd W hW
    have hge := fun k hk => (owns_lt O4.out k hk).1
    have hW1 : Below (w.heap.size + 1) w4 W := hW.below (heap_lt HG4.out |> fun h => by omega) hge
    exact behind_any pg mb w0 m b L va vc vv w.heap.size r i s W (H.out.below (HB4.out.trans (hW1.mono (Nat.le_succ _)))) (by rw [cells_at ((hW1.block _ (Nat.lt_succ_self _)).trans HG4.out)]; rfl) (Hok4.out _ hd)
  have Key := Lib.hid key
  clear key
  go_wp2_with fail
  refine (deleteD_fn 91 #[.pointer (some ⟨w.heap.size, 0, none⟩)] (behindB (cms L)) a4 c4 (w.heap.size + 1) v4 _ O4.out (by omega) hemb Key.out).mono ?_
  rintro e w5 ⟨v5, rfl, hv5, ho5, hc5⟩
  have O5 := Lib.hid ho5
  have Hv5 := Lib.hid hv5
  have hl5 : v5.length ≤ 100200 := by rw [hv5]; exact Nat.le_trans (List.length_filter_le _ _) hl4
  have HB5 := Lib.hid (HB4.out.trans ((hc5.below (by have := heap_lt HG4.out; omega) (fun k hk => (owns_lt O4.out k hk).1)).mono (Nat.le_succ _)))
  have hz5 : w.heap.size + 1 ≤ w5.heap.size := by have := heap_lt HG4.out; have := hc5.size; omega
  clear hv5 ho5 hc5 Key
  go_wp2_with fail
  refine And.intro (by kernel_rfl) ?_
  go_wp2_with fail
  refine (sortD_any a4 c4 (w.heap.size + 1) v5 _ O5.out (by omega)).mono ?_
  rintro e w6 ⟨rfl, v6, hl6, hp6, hs6, ho6, hc6⟩
  have O6 := Lib.hid ho6
  have HP6 := Lib.hid (show HeadsP b.b.tips (cms L) v6 from heads_of HK.out H.out.bp.rise H.out.bp.within H.out.out (fun v hv => (H.out.each v hv).ok.d) (by rw [← Hv4.out, ← Hv5.out]; exact hp6) hs6 H.out.nodup)
  have HB6 := Lib.hid (HB5.out.trans ((hc6.below (hz5) (fun k hk => (owns_lt O5.out k hk).1)).mono (Nat.le_succ _)))
  have Hok6 := Lib.hid (show okV v6 from fun d hd => Hok4.out d (by have h1 := hp6.mem_iff.1 hd; rw [Hv5.out] at h1; exact (List.mem_filter.1 h1).1))
  have Hl6 := Lib.hid hl6
  clear ho6 hc6 hp6 hs6
  go_wp2_with fail
  go_ret
  exact ⟨a4, c4, v6, by rw [Hl6.out]; rfl, HP6.out, Hok6.out, by rw [Hl6.out]; exact hl5, O6.out.base (Nat.le_succ _), HB6.out⟩
end Go.Proofs.YthdmoplclllhjaaGreat

/- GraN -/
namespace Go.Proofs.YthdmoplclllhjaaGreat
open Go.RowKit
set_option linter.unusedVariables false
set_option linter.unusedSimpArgs false

/-- the greatest time -/
def TimeP (t0 : Int) (L : List Cm) (n : Int) : Prop := t0 ≤ n ∧ (∀ c ∈ L, c.t ≤ n) ∧ (n = t0 ∨ ∃ c ∈ L, c.t = n)
theorem TimeP.uniq {t0 : Int} {L : List Cm} {n k : Int} (h : TimeP t0 L n) (h' : TimeP t0 L k) : n = k := by
  obtain ⟨a1, a2, a3⟩ := h
  obtain ⟨b1, b2, b3⟩ := h'
  rcases a3 with rfl | ⟨c, hc, rfl⟩
  · rcases b3 with rfl | ⟨d, hd, rfl⟩
    · rfl
    · have := a2 d hd; omega
  · have h1 := b2 c hc
    rcases b3 with rfl | ⟨d, hd, rfl⟩
    · omega
    · have := a2 d hd; omega
set_option maxRecDepth 100000 in
set_option maxHeartbeats 8000000 in
theorem time_G (pg mb : Nat) (w0 : World) (m : Nat) (b : Bw) (L : List Cw) (va : Option Addr) (vc : Nat) (vv : List Dt) (w : World) (h : GrAt w pg mb w0 m b L va vc vv) :
    Calls Tryz.prog 36 #[.pointer (some ⟨pg, 0, none⟩)] w fun e w' => ∃ n, e = .returned (.int .u64 n) ∧ TimeP b.b.t (cms L) n ∧ Below w.heap.size w w' := by
  have H := Lib.hid h
  have g0 := cells_at h.blk
  simp only [gcells] at g0
  have HM := Lib.hid (h.map.mapF)
  have hc5 := h.c5
  clear h
  go_enter Tryz.func36, Tryz.ntmps36
  go_wp2_with fail
  refine (none_some pg mb _ hc5).mono ?_
  rintro e w1 ⟨rfl, rfl⟩
  go_wp2_with (at_range; go_must (refine wpList_range_F keysD rfl _ _ rfl _ Tryz.underlying77 mb L.length (fvW L) rfl HM.out ?_))
  intro wa cnt0 hrg0 hcn0 hg0 hs0
  have hb0 : Below w1.heap.size w1 wa := (Below.refl _ _).grown hg0 (Nat.le_refl _) (by simp)
  have B0 := Lib.hid hb0
  have Hrg0 := Lib.hid hrg0
  clear hg0 hs0 hb0 hrg0 g0 hc5
  go_wp2_with fail
  go_loopw [3, 5] (fun tv _ wr => ∃ (n : Int) (left : Dt → Bool) (cnt : Nat), tv = .int .u64 n ∧ RangeF wr Tryz.prog 41 mkD mb w1.heap.size L.length (fvW L) left cnt ∧ (∀ v ∈ L, left v.c.d = false → v.c.t ≤ n) ∧ b.b.t ≤ n ∧ (n = b.b.t ∨ ∃ c ∈ cms L, c.t = n) ∧ Below w1.heap.size w1 wr) (fun _ _ wr => wr.rangeLeft mb w1.heap.size)
  case atStart =>
    refine ⟨_, _, cnt0, rfl, Hrg0.out, fun v hv hl => ?_, Int.le_refl _, .inl rfl, B0.out⟩
    have : fvW L v.c.d = some (cwv v) := by unfold fvW; rw [fvW_mem H.out.nodup hv]; rfl
    rw [this] at hl; cases hl
  case round =>
    obtain ⟨n, left, cnt, rfl, hrg, hle, hn1, hn2, hb⟩ := hrel
    have Hrg := Lib.hid hrg
    have Hle := Lib.hid hle
    have B := Lib.hid hb
    have hsz := hb.size
    have Hn2 := Lib.hid hn2
    have Hn1 := Lib.hid hn1
    clear hle hb B0 Hrg0 hcn0 hn2 hn1
    go_wp2_with (at_next; go_must (refine wpList_next_D rfl _ rfl _ _ _ _ _ _ rfl hrg ?_ ?_))
    · intro hl
      clear hrg
      have HT := Lib.hid (show TimeP b.b.t (cms L) n from ⟨Hn1.out, fun c hc => by obtain ⟨v, hv, rfl⟩ := List.mem_map.1 hc; exact Hle.out v hv (hl _ (H.out.each v hv).ok.d), Hn2.out⟩)
      clear hl
      go_wp2_with fail
      go_ret
      exact ⟨n, rfl, HT.out, B.out⟩
    · intro rr ii qq xv w3 cnt1 hX hen
      clear hrg
      have hlt1 := hX.lt
      obtain ⟨v, hvL, hvd, rfl⟩ := fvW_some hX.val
      have hc1 := Chg.grown hX.grown
      simp only [Option.toList_some] at hc1
      have hb1 : Below w1.heap.size w1 w3 := B.out.trans (hc1.below hsz (by simp))
      have Hrg1 := Lib.hid hX.rng
      have Hb1 := Lib.hid hb1
      have HvL := Lib.hid hvL
      have Hvd := Lib.hid hvd
      clear hX hc1 hb1 hvL hvd
      obtain ⟨⟨⟨⟨r1, i1⟩, s1⟩, ps1, uu1, t1, ⟨k1, n1, x1, p1, ds1⟩⟩, qa1, qc1, ua1, uc1, pa1, pc1, da1, dc1⟩ := v
      simp only [cwv, cwcells] at hen ⊢
      have Hrg2 := Lib.hid (Hrg1.out.alloc (.cells (ccells r1 i1 s1 qa1 ps1.length qc1 ua1 uu1.length uc1 t1 k1 pa1 p1.length pc1 n1 x1 da1 ds1.length dc1) 46))
      have B2 := Lib.hid (Hb1.out.alloc Hb1.out.size (.cells (ccells r1 i1 s1 qa1 ps1.length qc1 ua1 uu1.length uc1 t1 k1 pa1 p1.length pc1 n1 x1 da1 ds1.length dc1) 46))
      have hT1 := next_left H.out.nodup (P := fun u => u.c.t ≤ max n t1) (fun u hu hl => by have := Hle.out u hu hl; omega) HvL.out Hvd.out (by dsimp only; omega)
      have HT1 := Lib.hid hT1
      have HT2 := Lib.hid (show max n t1 = b.b.t ∨ ∃ c ∈ cms L, c.t = max n t1 from by
        rcases Int.le_total n t1 with h | h
        · right; exact ⟨_, List.mem_map.2 ⟨_, HvL.out, rfl⟩, by dsimp only; omega⟩
        · rcases Hn2.out with h2 | ⟨c, hc, h2⟩
          · left; omega
          · right; exact ⟨c, hc, by omega⟩)
      clear hT1
      go_wp2_with fail
      exact ⟨⟨max n t1, _, cnt1, rfl, Hrg2.out, HT1.out, by have := Hn1.out; omega, HT2.out, B2.out⟩, by rw [Hrg2.out.left_eq, Hrg.out.left_eq]; exact hlt1⟩
end Go.Proofs.YthdmoplclllhjaaGreat

/- GraO -/
namespace Go.Proofs.YthdmoplclllhjaaGreat
open Go.RowKit
set_option linter.unusedVariables false
set_option linter.unusedSimpArgs false

set_option maxRecDepth 100000 in
theorem tmayE (w : World) : Calls Tryz.prog 157 #[.slice none 0 0, .int .i64 0] w fun e w' => e = .returned (.bool true) ∧ w' = w := by
  go_enter Tryz.func157, Tryz.ntmps157
  go_wp2_with fail
  refine wp_loop_rounds 1 ?_
  rw [rounds_succ]
  go_wp2_with fail
  go_ret
  exact ⟨rfl, rfl⟩
theorem treeMayE (w : World) : Calls Tryz.prog 103 #[.slice none 0 0] w fun e w' => e = .returned (.bool true) ∧ w' = w := by
  go_enter Tryz.func103, Tryz.ntmps103
  go_wp2_with fail
  refine (tmayE w).mono ?_
  rintro e w' ⟨rfl, rfl⟩
  go_wp2_with fail
  go_ret
  exact ⟨rfl, rfl⟩
theorem risingE (w : World) : Calls Tryz.prog 102 #[.slice none 0 0] w fun e w' => e = .returned (.bool true) ∧ w' = w := by
  go_enter Tryz.func102, Tryz.ntmps102
  go_wp2_with fail
  refine wp_loop_rounds 1 ?_
  rw [rounds_succ]
  go_wp2_with fail
  go_ret
  exact ⟨rfl, rfl⟩
theorem cloneTE (w : World) : Calls Tryz.prog 170 #[.slice none 0 0] w fun e w' => e = .returned (.slice none 0 0) ∧ w' = w := by
  have heq := fun (w : World) (a : Option Addr) (n c : Nat) => Lib.run_eql_slice_nil (P := Tryz.prog) w 26 154 a n c 0 0 Tryz.underlying26
  go_enter Tryz.func170, Tryz.ntmps170
  go_wp2_with fail
  go_ret
  exact ⟨rfl, rfl⟩
set_option maxRecDepth 100000 in
theorem ownTree1E (x : Value) (w : World) : Calls Tryz.prog 169 #[.slice none 0 0, x] w fun e w' => e = .returned (.slice none 0 0) ∧ w' = w := by
  go_enter Tryz.func169, Tryz.ntmps169
  go_wp2_with fail
  refine (cloneTE w).mono ?_
  rintro e w' ⟨rfl, rfl⟩
  go_wp2_with fail
  refine wp_loop_rounds 1 ?_
  rw [rounds_succ]
  go_wp2_with fail
  go_ret
  exact ⟨rfl, rfl⟩
set_option maxRecDepth 100000 in
theorem ownTreeE (w : World) : Calls Tryz.prog 131 #[.slice none 0 0] w fun e w' => e = .returned (.slice none 0 0) ∧ Below w.heap.size w w' := by
  have he := enters_of Tryz.func169 (by kernel_rfl) rfl
  go_enter Tryz.func131, Tryz.ntmps131
  go_wp2_with fail
  refine (ownTree1E _ _).mono ?_
  rintro e w' ⟨rfl, rfl⟩
  go_wp2_with fail
  go_ret
  exact ⟨rfl, (Below.refl _ _).alloc (Nat.le_refl _) _⟩
abbrev basecells (num : Int) (fa : Option Addr) (fn fc : Nat) (ta : Option Addr) (tn tc : Nat) (t : Int) (ra : Option Addr) (rn rc : Nat) : Array Value :=
  #[.int .u64 num, .slice fa fn fc, .slice ta tn tc, .int .u64 t, .slice ra rn rc]
set_option maxRecDepth 100000 in
set_option maxHeartbeats 4000000 in
theorem mayBaseE (w : World) : Calls Tryz.prog 28 #[.agg (basecells 0 none 0 0 none 0 0 0 none 0 0)] w fun e w' => e = .returned (.bool true) ∧ Below w.heap.size w w' := by
  have he := enters_of Tryz.func99 (by kernel_rfl) rfl
  go_enter Tryz.func28, Tryz.ntmps28
  go_wp2_with fail
  refine region_text [([0, 1, 3, 4], false), ([2], true), ([5, 6, 7, 8, 9, 10, 11, 12, 13, 14, 15, 16, 17, 18, 19, 20, 21, 22, 23, 24], false)] mixed (by kernel_rfl) ?_
  simp only [wpSegs, List.map_cons, List.map_nil, List.getD_cons_succ, List.getD_cons_zero]
  go_wp2_with fail
  refine (canon_any none 0 [] _ (Sl.nil _ _) (fun d hd => by cases hd) (by decide)).mono ?_
  rintro e w1 ⟨a1, c1, rfl, hown, hb⟩
  have E : Hid (BoxE 28 w w1 (basecells 0 none 0 0 none 0 0 0 none 0 0)) := Lib.hid (BoxE.of (((Below.refl _ _).drew).trans hb))
  have Hb := Lib.hid hb
  have d0 := cells_at E.out.blk
  simp only [basecells] at d0
  have Hv := Lib.hid (vec_of hown)
  clear hb hown
  go_wp2_with fail
  refine And.intro (Agree.of_below Hb.out) ?_
  go_wp2_with fail
  refine (equalV_any a1 none c1 0 [] [] _ Hv.out (Sl.nil _ _) (by decide) (by decide)).mono ?_
  rintro e w2 ⟨z, rfl, hz, hb⟩
  obtain rfl : z = true := hz.2 rfl
  replace E := Lib.hid (E.out.step hb)
  clear hb hz d0
  have d0 := cells_at E.out.blk
  simp only [basecells] at d0
  go_wp2_with fail
  refine (risingE _).mono ?_
  rintro e w3 ⟨rfl, rfl⟩
  go_wp2_with fail
  refine (containsD_fn 99 #[.pointer (some ⟨w.heap.size, 0, none⟩)] (fun _ => false) none 0 [] _ (Sl.nil _ _) (by decide) he (fun r i s h => by cases h)).mono ?_
  intro e w4 hto
  obtain ⟨z, rfl, hz, hb⟩ := hto
  obtain rfl : z = false := by
    cases z with
    | false => rfl
    | true => obtain ⟨d, hd, _⟩ := hz.1 rfl; cases hd
  replace E := Lib.hid (E.out.step hb)
  clear hb hz d0
  have d0 := cells_at E.out.blk
  simp only [basecells] at d0
  go_wp2_with fail
  refine And.intro (by kernel_rfl) ?_
  go_wp2_with fail
  refine (treeMayE _).mono ?_
  rintro e w5 ⟨rfl, rfl⟩
  go_wp2_with fail
  go_ret
  exact ⟨rfl, E.out.bel⟩
def OwnBaseE (w : World) (e : Ending) (w' : World) : Prop := ∃ a1 c1 a2 c2, e = .returned (.agg (basecells 0 a1 0 c1 a2 0 c2 0 none 0 0)) ∧ OwnD w' w.heap.size a1 c1 [] ∧ OwnD w' w.heap.size a2 c2 [] ∧ Below w.heap.size w w'
set_option maxRecDepth 100000 in
set_option maxHeartbeats 4000000 in
theorem ownBaseE (w : World) : Calls Tryz.prog 71 #[.agg (basecells 0 none 0 0 none 0 0 0 none 0 0)] w (OwnBaseE w) := by
  go_enter Tryz.func71, Tryz.ntmps71
  go_wp2_with fail
  refine region_text [([0, 1, 3, 4, 6, 7], false), ([2], true), ([9], false), ([5], true), ([8, 10, 11, 12, 13, 14], false)] mixed (by kernel_rfl) ?_
  simp only [wpSegs, List.map_cons, List.map_nil, List.getD_cons_succ, List.getD_cons_zero]
  go_wp2_with fail
  refine (cloneV_any none 0 [] _ (Sl.nil _ _) (by decide)).mono ?_
  rintro e w1 ⟨a1, c1, v1, rfl, hv1, ho1, hb1⟩
  subst hv1
  obtain ⟨x0, y0, hz1, hB1⟩ := new2 (((Below.refl _ _).drew).trans hb1)
  have Ho1 := Lib.hid (OwnD.base (base' := w.heap.size + 2) ho1 (by simp))
  have X1 := Lib.hid x0
  have Y1 := Lib.hid y0
  have HB1 := Lib.hid hB1
  have Hb1 := Lib.hid hb1
  clear hb1 ho1 x0 y0 hB1
  go_wp2_with fail
  refine And.intro (Agree.of_below Hb1.out) ?_
  go_wp2_with fail
  refine (cloneD_any none 0 [] _ (Sl.nil _ _) (by decide)).mono ?_
  rintro e w2 ⟨a2, c2, v2, rfl, hv2, ho2, hb2⟩
  subst hv2
  replace Ho1 := Lib.hid (Ho1.out.below hb2)
  have Ho2 := Lib.hid (OwnD.base (base' := w.heap.size + 2) ho2 hz1)
  have HB2 := Lib.hid (below2 HB1.out hb2 HB1.out.size)
  replace X1 := Lib.hid ((hb2.block _ (heap_lt X1.out)).trans X1.out)
  replace Y1 := Lib.hid ((hb2.block _ (heap_lt Y1.out)).trans Y1.out)
  have hz2 : w.heap.size + 2 ≤ w2.heap.size := by have := hb2.size; omega
  have Hb2 := Lib.hid hb2
  clear ho2 hb2 HB1 Hb1
  go_wp2_with fail
  refine And.intro (Agree.of_below Hb2.out) ?_
  go_wp2_with fail
  refine (ownTreeE _).mono ?_
  rintro e w3 ⟨rfl, hb3⟩
  replace Ho1 := Lib.hid (Ho1.out.below hb3)
  replace Ho2 := Lib.hid (Ho2.out.below hb3)
  replace X1 := Lib.hid ((hb3.block _ (heap_lt X1.out)).trans X1.out)
  replace Y1 := Lib.hid ((hb3.block _ (heap_lt Y1.out)).trans Y1.out)
  have HB3 := Lib.hid (below2 HB2.out hb3 HB2.out.size)
  have hz3 : w.heap.size + 2 ≤ w3.heap.size := by have := hb3.size; omega
  have d0 := cells_at X1.out
  have e0 := cells_at Y1.out
  have f0 := free_at X1.out
  have g0 := free_at Y1.out
  simp only [basecells] at d0
  clear hb3 Hb2 HB2
  go_wp2_with fail
  refine And.intro (by kernel_rfl) ?_
  go_wp2_with fail
  have hC : Chg [w.heap.size, w.heap.size + 1] w3 ((((((((w3.setCell ⟨w.heap.size, 1, none⟩ (.slice a1 0 c1)).setCell ⟨w.heap.size, 2, none⟩ (.slice a2 0 c2)).setCell ⟨w.heap.size, 4, none⟩ (.slice none 0 0)).setCell ⟨w.heap.size + 1, 0, none⟩ (.int .u64 0)).setCell ⟨w.heap.size + 1, 1, none⟩ (.slice a1 0 c1)).setCell ⟨w.heap.size + 1, 2, none⟩ (.slice a2 0 c2)).setCell ⟨w.heap.size + 1, 3, none⟩ (.int .u64 0)).setCell ⟨w.heap.size + 1, 4, none⟩ (.slice none 0 0)) :=
    ((((((((Chg.refl _ _).put _ _ (by simp)).put _ _ (by simp)).put _ _ (by simp)).put _ _ (by simp)).put _ _ (by simp)).put _ _ (by simp)).put _ _ (by simp)).put _ _ (by simp)
  have dis : ∀ k, w.heap.size + 2 ≤ k → k ∉ [w.heap.size, w.heap.size + 1] := fun k hk hm => by simp at hm; omega
  refine bodyPost_ret (v := .agg (basecells 0 a1 0 c1 a2 0 c2 0 none 0 0)) (by simp [results, Tryz.results71, go_sem, d0, e0]; try rfl) rfl ⟨a1, c1, a2, c2, rfl, ?_, ?_, ?_⟩
  · exact OwnD.base (owns_chg Ho1.out hC (fun k hk => dis k (owns_lt Ho1.out k hk).1)) (by omega)
  · exact OwnD.base (owns_chg Ho2.out hC (fun k hk => dis k (owns_lt Ho2.out k hk).1)) (by omega)
  · exact HB3.out.trans (hC.below HB3.out.size (by simp))
def emptyB (a1 : Option Addr) (c1 : Nat) (a2 : Option Addr) (c2 : Nat) : Bw := ⟨⟨0, [], [], 0, []⟩, a1, c1, a2, c2, none, 0⟩
/-- a new graph above nothing -/
def NewETo (w : World) (e : Ending) (w' : World) : Prop := ∃ (pg mb : Nat) (w0 : World) (b : Bw) (va : Option Addr) (vc : Nat), e = .returned (.tuple #[.pointer (some ⟨pg, 0, none⟩), .int .i64 0]) ∧ b.b = ⟨0, [], [], 0, []⟩ ∧ GrAt w' pg mb w0 0 b [] va vc [] ∧ Below w.heap.size w w' ∧ w.heap.size ≤ w0.heap.size
set_option maxRecDepth 100000 in
set_option maxHeartbeats 4000000 in
theorem newE_any (w : World) : Calls Tryz.prog 16 #[.agg (basecells 0 none 0 0 none 0 0 0 none 0 0)] w (NewETo w) := by
  have hmm := @run_makeMap Tryz.prog
  go_enter Tryz.func16, Tryz.ntmps16
  go_wp2_with fail
  refine (mayBaseE _).mono ?_
  rintro e w1 ⟨rfl, hb1⟩
  have E : Hid (BoxE 28 w w1 (basecells 0 none 0 0 none 0 0 0 none 0 0)) := Lib.hid (BoxE.of hb1)
  have d0 := cells_at E.out.blk
  simp only [basecells] at d0
  have hz1 := heap_lt E.out.blk
  clear hb1
  go_wp2_with fail
  refine (ownBaseE _).mono ?_
  intro e w2 hto
  obtain ⟨a1, c1, a2, c2, rfl, ho1, ho2, hb2⟩ := hto
  replace E := Lib.hid (E.out.step hb2)
  have Ho1 := Lib.hid ho1
  have Ho2 := Lib.hid ho2
  have hz := E.out.bel.size
  clear ho1 ho2 hb2 d0
  have d0 := cells_at E.out.blk
  have f0 := free_at E.out.blk
  simp only [basecells] at d0
  have z0 := heap_lt E.out.blk
  go_wp2_with fail
  have hC : Chg [w.heap.size] w2 (((((w2.setCell ⟨w.heap.size, 0, none⟩ (.int .u64 0)).setCell ⟨w.heap.size, 1, none⟩ (.slice a1 0 c1)).setCell ⟨w.heap.size, 2, none⟩ (.slice a2 0 c2)).setCell ⟨w.heap.size, 3, none⟩ (.int .u64 0)).setCell ⟨w.heap.size, 4, none⟩ (.slice none 0 0)) :=
    (((((Chg.refl _ _).put _ _ (by simp)).put _ _ (by simp)).put _ _ (by simp)).put _ _ (by simp)).put _ _ (by simp)
  have hs4 : (((((w2.setCell ⟨w.heap.size, 0, none⟩ (.int .u64 0)).setCell ⟨w.heap.size, 1, none⟩ (.slice a1 0 c1)).setCell ⟨w.heap.size, 2, none⟩ (.slice a2 0 c2)).setCell ⟨w.heap.size, 3, none⟩ (.int .u64 0)).setCell ⟨w.heap.size, 4, none⟩ (.slice none 0 0)).heap.size = w2.heap.size := by simp
  have hs4' := Lib.hid hs4
  clear hs4
  generalize ((((w2.setCell ⟨w.heap.size, 0, none⟩ (.int .u64 0)).setCell ⟨w.heap.size, 1, none⟩ (.slice a1 0 c1)).setCell ⟨w.heap.size, 2, none⟩ (.slice a2 0 c2)).setCell ⟨w.heap.size, 3, none⟩ (.int .u64 0)).setCell ⟨w.heap.size, 4, none⟩ (.slice none 0 0) = w4 at *
  have o1 := owns_chg Ho1.out hC (fun k hk hm => by have := (owns_lt Ho1.out k hk).1; simp at hm; omega)
  have o2 := owns_chg Ho2.out hC (fun k hk hm => by have := (owns_lt Ho2.out k hk).1; simp at hm; omega)
  have hB4 : Below w.heap.size w w4 := E.out.bel.trans (hC.below hz (by simp))
  have hw4 : Below w4.heap.size w4 ((w4.alloc (.map #[] 0)).alloc (.cells (gcells 0 a1 0 c1 a2 0 c2 0 none 0 0 w4.heap.size a1 0 c1) 79)) := ((Below.refl _ _).alloc (Nat.le_refl _) _).alloc (by simp) _
  have hG : GrAt ((w4.alloc (.map #[] 0)).alloc (.cells (gcells 0 a1 0 c1 a2 0 c2 0 none 0 0 w4.heap.size a1 0 c1) 79)) (w4.heap.size + 1) w4.heap.size w4 0 (emptyB a1 c1 a2 c2) [] a1 c1 [] :=
    ⟨heap_new2 _ _ _, (MapN.made w4).below ((Below.refl _ _).alloc (Nat.le_refl _) _), ⟨by omega, by omega⟩, hw4, ⟨vec_of o1, vec_of o2, TrRd.nil _ _, fun d h => (by cases h), fun d h => (by cases h), ⟨by simp [emptyB], by simp [emptyB]⟩, ⟨by simp [emptyB], by simp [emptyB]⟩⟩, fun v hv => (by cases hv), OwnD.base (OwnD.below o1 hw4) (Nat.zero_le _), fun d h => (by cases h), List.nodup_nil, fun v hv => (by cases hv), by decide, by simp [emptyB], by simp [emptyB], by decide, BaseP.empty, fun v hv => (by cases hv)⟩
  have HG := Lib.hid hG
  have HBF := Lib.hid (hB4.trans (hw4.mono hB4.size))
  have hsz4 := hB4.size
  clear hC o1 o2 hB4 hw4 hG
  go_wp2_with fail
  have hG2 := HG.out
  have hB2 := HBF.out
  rw [hs4'.out] at hG2 hB2
  exact bodyPost_ret (v := .tuple #[.pointer (some ⟨w2.heap.size + 1, 0, none⟩), .int .i64 0]) (by simp [results, Tryz.results16, go_sem]; try rfl) rfl ⟨w2.heap.size + 1, w2.heap.size, w4, emptyB a1 c1 a2 c2, a1, c1, rfl, rfl, hG2, hB2, hsz4⟩
end Go.Proofs.YthdmoplclllhjaaGreat
