/- maps.Keys over a map keyed by actors; slices.AppendSeq, slices.Collect of it. -/
import Derived.Test.YtblahapjdgncfaaDotC
import Derived.RangeFuncNested
import Derived.RangeFuncBound
import Derived.RangeFuncCalls
import Derived.RangeFuncLeaves
import Derived.Shelf.Abstract
import Derived.Shelf.RegionOpen
import Derived.OwnWalkIn
import Derived.TacticsInMore
import Derived.LoopNIn
import Derived.LoopIn
namespace Go.Proofs.Ytblahapjdgncfaa
open Go.RowKit Go.Shelf
set_option linter.unusedVariables false
set_option linter.unusedSimpArgs false
attribute [local go_sem] Oper.semAt_some

theorem Try.info_actor : (Try.prog.info? 31).map (fun i => (i.zero, i.size, i.bytes)) = some (some (.agg #[.int .u8 0, .int .u32 0]), 2, 8) := by kernel_rfl

section
variable {α : Type} {P : Program} {k : TypeId} {mk : α → Value} {w w' : World} {b n r : Nat} {f : α → Option Value} {left : α → Bool} {cnt : Nat}
theorem RangeF.of_walks (h : RangeF w P k mk b r n f left cnt) (hk : KeepsWalks w w') : RangeF w' P k mk b r n f left cnt := by
  obtain ⟨D, L, h1, h2⟩ := h
  exact ⟨D, L, h1.of_walks hk, h2⟩
theorem RangeF.iter_walk (h : RangeF w P k mk b r n f left cnt) : ∃ o : Obj, w.heap[r]? = some o ∧ o.isWalk = true := by
  obtain ⟨D, L, h1, h2⟩ := h
  exact h1.iter_walk
theorem RangeF.alloc (h : RangeF w P k mk b r n f left cnt) (o : Obj) : RangeF (w.alloc o) P k mk b r n f left cnt := h.of_walks (KeepsWalks.alloc _ _)
end

/-- nothing is still to come -/
def NoneLeft (left : Ac → Bool) : Prop := ∀ a, okA a → left a = false
/-- an entry has come -/
structure NextA (w : World) (b r n : Nat) (f : Ac → Option Value) (left : Ac → Bool) (cnt : Nat) (rr ii : Int) (v : Value) (w' : World) (cnt' : Nat) : Prop where
  ok : okA (rr, ii)
  was : left (rr, ii) = true
  val : f (rr, ii) = some v
  rng : RangeF w' Try.prog 31 mkA b r n f (fun y => left y && !decide (y = (rr, ii))) cnt'
  lt : cnt' < cnt
  grown : w.grownBy w' (some r)
  size : w'.heap.size = w.heap.size
section
variable {w : World} {ops : Array Oper} {rest : List Oper} {o : Oper} {a : Act} {Q : Exit → Act → World → Prop} {F : Fence} {nf : Nat}
theorem wpList_next_A (hg : o.guard = none) (it : Operand) (hop : o.op = Op.next it false) (b r n : Nat) (f : Ac → Option Value) (left : Ac → Bool) (cnt : Nat)
    (hit : a.eval it = .pointer (some ⟨r, 0, none⟩)) (h : RangeF w Try.prog 31 mkA b r n f left cnt)
    (hDone : NoneLeft left → wpList Try.prog ops Q rest (a.put o.dst (.tuple #[.bool false])) w)
    (hMore : ∀ rr ii v w' cnt', NextA w b r n f left cnt rr ii v w' cnt' → (Instr.entry (.pointer (some ⟨r, 0, none⟩))).run Try.prog w' = .ok (.tuple #[.agg #[.int .u8 rr, .int .u32 ii], v]) w' →
      wpList Try.prog ops Q rest (a.put o.dst (.tuple #[.bool true, .agg #[.int .u8 rr, .int .u32 ii], v])) w') : wpList Try.prog ops Q (o :: rest) a w :=
  wpList_next_F keysA hg it hop b r n f left cnt hit h (fun _ h => hDone fun a ha => by obtain ⟨l, hl⟩ := keyA_ok ha; exact h a l hl)
    (fun x v l w' cnt' h1 h2 h3 h4 h5 h6 h7 h8 => hMore x.1 x.2 v w' cnt' ⟨keyA_inv h1, h2, h3, h4, h5, h6, h7⟩ h8)
theorem wpListIn_next_A (hg : o.guard = none) (it : Operand) (hop : o.op = Op.next it false) (b r n : Nat) (f : Ac → Option Value) (left : Ac → Bool) (cnt : Nat)
    (hit : a.eval it = .pointer (some ⟨r, 0, none⟩)) (h : RangeF w Try.prog 31 mkA b r n f left cnt)
    (hDone : NoneLeft left → wpListIn F nf Try.prog ops Q rest (a.put o.dst (.tuple #[.bool false])) w)
    (hMore : ∀ rr ii v w' cnt', NextA w b r n f left cnt rr ii v w' cnt' → (Instr.entry (.pointer (some ⟨r, 0, none⟩))).run Try.prog w' = .ok (.tuple #[.agg #[.int .u8 rr, .int .u32 ii], v]) w' →
      wpListIn F nf Try.prog ops Q rest (a.put o.dst (.tuple #[.bool true, .agg #[.int .u8 rr, .int .u32 ii], v])) w') : wpListIn F nf Try.prog ops Q (o :: rest) a w :=
  wpListIn_next_F keysA hg it hop b r n f left cnt hit h (fun _ h => hDone fun a ha => by obtain ⟨l, hl⟩ := keyA_ok ha; exact h a l hl)
    (fun x v l w' cnt' h1 h2 h3 h4 h5 h6 h7 h8 => hMore x.1 x.2 v w' cnt' ⟨keyA_inv h1, h2, h3, h4, h5, h6, h7⟩ h8)
end

/-- the keys of f, each once -/
def KeysIn (f : Ac → Option Value) (n : Nat) (ss : List Ac) : Prop := ss.length ≤ n ∧ ss.Nodup ∧ (∀ a ∈ ss, okA a) ∧ ∀ a, okA a → (a ∈ ss ↔ (f a).isSome = true)
/-- so far -/
structure Came (f : Ac → Option Value) (left : Ac → Bool) (ss : List Ac) : Prop where
  nd : ss.Nodup
  ok : ∀ a ∈ ss, okA a
  ne : ∀ a ∈ ss, left a = false
  mem : ∀ a, okA a → (a ∈ ss ↔ (f a).isSome = true ∧ left a = false)
theorem Came.start (f : Ac → Option Value) : Came f (fun a => (f a).isSome) [] := ⟨List.nodup_nil, by simp, by simp, fun a _ => by cases h : f a <;> simp [h]⟩
theorem Came.step {f : Ac → Option Value} {left : Ac → Bool} {ss : List Ac} (h : Came f left ss) {x : Ac} {v : Value} (hok : okA x) (hl : left x = true) (hf : f x = some v) : Came f (fun y => left y && !decide (y = x)) (ss ++ [x]) := by
  have hx : x ∉ ss := fun hx => by have := h.ne x hx; rw [hl] at this; cases this
  refine ⟨List.nodup_append.2 ⟨h.nd, by simp, fun a ha b hb => by simp at hb; subst hb; intro e; subst e; exact hx ha⟩, fun a ha => ?_, fun a ha => ?_, fun a hoka => ?_⟩
  · rcases List.mem_append.1 ha with ha | ha
    · exact h.ok a ha
    · simp at ha; subst ha; exact hok
  · rcases List.mem_append.1 ha with ha | ha
    · simp [h.ne a ha]
    · simp at ha; subst ha; simp
  · rw [List.mem_append, List.mem_singleton, h.mem a hoka]
    by_cases e : a = x
    · subst e; simp [hf, hl]
    · simp [e]
theorem Came.done {f : Ac → Option Value} {left : Ac → Bool} {ss : List Ac} (h : Came f left ss) (hl : NoneLeft left) {n : Nat} (hn : ss.length ≤ n) : KeysIn f n ss :=
  ⟨hn, h.nd, h.ok, fun a ha => by rw [h.mem a ha, hl a ha]; simp⟩

set_option maxRecDepth 100000 in
set_option maxHeartbeats 1000000 in
theorem keys1_in (F : Fence) (n : Nat) (h10 : F.fn 90) (hro : F.round = none) (hn : 1 ≤ n) (l Bm b nn : Nat) (f : Ac → Option Value) (J Jx : List Ac → World → Prop)
    (hY : ∀ pre x W, J pre W → pre.length < nn → YieldAt F (n - 1) Try.prog l #[mkA x] W fun e W' => (e = .returned (.bool true) ∧ J (pre ++ [x]) W' ∧ KeepsWalks W W') ∨ (e = .returned (.bool false) ∧ Jx (pre ++ [x]) W'))
    (W : World) (hJ : AbidesFrom W.heap.size J) (hm : W.cell? ⟨Bm, 0, none⟩ = some (.map (some b))) (hown : MapF W Try.prog 31 mkA b nn f) (h0 : J [] W) :
    CallsIn F n Try.prog 90 #[.func (.yield l) #[] #[], .pointer (some ⟨Bm, 0, none⟩)] W fun e W' => (∃ v, e = .returned v) ∧ ((∃ ss, KeysIn f nn ss ∧ J ss W') ∨ ∃ pre, Jx pre W') := by
  refine callsIn_of_wp Try.func90 rfl h10 ?_ hro
  simp only [Try.ntmps90, List.size_toArray, List.length_cons, List.length_nil, Nat.reduceAdd, Nat.reduceSub, Array.replicate_succ, Array.replicate_zero, List.push_toArray, List.append_toArray, List.nil_append, List.cons_append]
  gi_wp2_with (gi_at_range; refine wpListIn_range_F keysA rfl _ _ rfl _ Try.underlying85 b nn f rfl hown ?_; intro w0 cnt0 hrg0 hcn0 hg0 hs0)
  go_frame
  gi_loopw [3] (fun _ wr => ∃ (left : Ac → Bool) (cnt : Nat) (ss : List Ac), RangeF wr Try.prog 31 mkA b W.heap.size nn f left cnt ∧ ss.length + cnt ≤ nn ∧ Came f left ss ∧ J ss wr)
    (fun _ wr => wr.rangeLeft b W.heap.size)
  case atStart =>
    exact ⟨_, _, [], hrg0, by simpa using hcn0, Came.start f, hJ [] W w0 none h0 hg0 (fun r e => by cases e)⟩
  case round =>
    obtain ⟨left, cnt, ss, hrg, hcs, hC, hJs⟩ := hrel
    gi_wp2_with (gi_at_next; refine wpListIn_next_A rfl _ rfl b W.heap.size nn f left cnt rfl hrg ?_ ?_)
    · intro hl0
      gi_wp2
      go_end0
      exact ⟨⟨_, rfl⟩, .inl ⟨ss, hC.done hl0 (by omega), hJs⟩⟩
    · intro rr ii v w2 cnt2 hN hen
      have hJ2 : J ss w2 := hJ ss wr w2 (some W.heap.size) hJs hN.grown (fun r e => by cases e; exact ⟨Nat.le_refl _, hrg.iter_walk⟩)
      have hJ3 : J ss (w2.alloc (.cells #[.int .u8 rr, .int .u32 ii] 31)) := hJ ss w2 _ none hJ2 (World.grownBy_alloc _ _ _) (fun r e => by cases e)
      have hlt := hN.lt
      obtain ⟨fn, tmps, assign, body, hy, hR⟩ := hY ss (rr, ii) _ hJ3 (by omega)
      have hrg3 := hN.rng.alloc (.cells #[.int .u8 rr, .int .u32 ii] 31)
      simp only [mkA] at hy
      gi_wp2
      refine hR.mono ?_
      rintro e W3 (⟨rfl, hJ4, hk3⟩ | ⟨rfl, hJx3⟩)
      · gi_wp2
        have hrg4 := hrg3.of_walks hk3
        go_roundw
        case rel => exact ⟨_, cnt2, ss ++ [(rr, ii)], hrg4, by simp; omega, hC.step hN.ok hN.was hN.val, hJ4⟩
        case measure => rw [hrg4.left_eq, hrg.left_eq]; exact hlt
      · gi_wp2
        refine bodyPost_ret (results_none rfl _ _ _) rfl ?_
        exact ⟨⟨_, rfl⟩, .inr ⟨ss ++ [(rr, ii)], hJx3⟩⟩

/-- maps.Keys(m) hands back an iterator over m's keys -/
theorem keys_stops (F : Fence) (n : Nat) (h10 : F.fn 90) (hro : F.round = none) (hn : 1 ≤ n) (Bm b nn : Nat) (f : Ac → Option Value) (w : World)
    (hm : w.heap[Bm]? = some (.cells #[.map (some b)] 85 (0, 0))) (hown : MapF w Try.prog 31 mkA b nn f) :
    SeqStopsK F n Try.prog 90 #[.pointer (some ⟨Bm, 0, none⟩)] (fun x : Ac => #[mkA x]) KeepsWalks (KeysIn f nn) (fun _ => True) nn w := fun l J Jx W hW hJ _ hY h0 => by
  have hc : W.cell? ⟨Bm, 0, none⟩ = some (.map (some b)) := by rw [cells_at ((hW.block Bm (heap_lt hm)).trans hm)]; rfl
  refine (keys1_in F n h10 hro hn l Bm b nn f J Jx hY W hJ hc (hown.below hW) h0).mono ?_
  rintro e W' ⟨hv, h | ⟨pre, h⟩⟩
  · exact ⟨hv, .inl h⟩
  · exact ⟨hv, .inr ⟨pre, trivial, h⟩⟩

def acell (a : Ac) : List Value := [.int .u8 a.1, .int .u32 a.2]
def acells (l : List Ac) : List Value := l.flatMap acell
theorem acells_snoc (l : List Ac) (a : Ac) : acells (l ++ [a]) = acells l ++ acell a := by simp [acells]
theorem acells_length (v : List Ac) : (acells v).length = v.length * 2 := by
  induction v with
  | nil => rfl
  | cons x v ih => simp only [acells, List.flatMap_cons, List.length_append, List.length_cons] at ih ⊢; rw [ih]; simp [acell]; omega
/-- block B holds an actor -/
def BoxA (W : World) (B : Nat) (x : Ac) : Prop := W.heap[B]? = some (.cells #[.int .u8 x.1, .int .u32 x.2] 31 (0, 0))
theorem boxA_own {β : Type} (B : Nat) (x : Ac) : Own (fun (_ : β) W => BoxA W B x) := fun s X Y row hs hg hrow =>
  (hg.block B (heap_lt hs) (fun e' => by obtain ⟨o, ho, hc⟩ := hrow B e'.symm; rw [show X.heap[B]? = _ from hs] at ho; cases ho; cases hc)).trans hs

set_option maxRecDepth 100000 in
set_option maxHeartbeats 2000000 in
/-- slices.AppendSeq(nil, seq) -/
theorem appendSeq_in (F : Fence) (n : Nat) (h11 : F.fn 93) (hro : F.round = none) (hn : 2 ≤ n) (g : Nat) (lb : Array Value) (hFg : F.fn g) (eg : ∀ args w, (callFunc g args).run Try.prog w = .ok (.enter g args) w)
    (S : List Ac → Prop) (N : Nat) (hN : N ≤ 1000000) (w : World) (hseq : SeqStopsK F (n - 1) Try.prog g lb (fun x : Ac => #[mkA x]) KeepsWalks S (fun _ => True) N w) :
    CallsIn F n Try.prog 93 #[.slice none 0 0, .func (.func g) #[] lb] w fun e w' => ∃ a c ss, e = .returned (.slice a (List.length ss) c) ∧ S ss ∧ w'.ownsRow w.heap.size 31 2 (.slice a ss.length c) ss.length (acells ss) ∧ Below w.heap.size w w' := by
  have h1 : 1 ≤ n := by omega
  obtain ⟨i0, hi, hz0, hz1, hz2⟩ := info_parts Try.info_actor
  refine callsIn_of_wp_marks Try.func93 rfl h11 ?_ hro
  simp only [Try.ntmps93, List.size_toArray, List.length_cons, List.length_nil, Nat.reduceAdd, Nat.reduceSub, Array.replicate_succ, Array.replicate_zero, List.push_toArray, List.append_toArray, List.nil_append, List.cons_append]
  gi_wp2
  have bO := Boxed.new w 108 (.slice none 0 0)
  have hB0 : Below w.heap.size w (w.alloc (.cells #[.slice none 0 0] 108)) := (Below.refl _ w).alloc (Nat.le_refl _) _
  refine wpIn_rangeFunc_ownH hro h1 (gf := g) (lb := lb) rfl hFg eg hseq walksK_t walksK_b hB0 (fun _ => rfl)
    (fun pre W => (∃ v, Boxed W w.heap.size 108 v ∧ W.ownsRow w.heap.size 31 2 v pre.length (acells pre) ∧ True) ∧ Below w.heap.size w W)
    (fun _ _ _ => False)
    (OwnFrom.and (Own.from (holdsRow_own w.heap.size w.heap.size 108 31 2 (fun pre => pre.length) (fun pre => acells pre) (fun _ _ => True)) _) (ownFrom_below (Nat.le_refl _) (by simp)))
    (fun _ _ _ _ _ hs _ _ => hs)
    ⟨⟨_, bO, World.ownsRow_nil _ _ _ _, trivial⟩, hB0⟩
    (fun x a' W => ∃ Bx, BoxA W Bx x ∧ a' = { tmps := #[.slice none 0 0, .func (.func g) #[] lb, .pointer (some ⟨w.heap.size, 0, none⟩), undef, .slice none 0 0, .pointer (some ⟨Bx, 0, none⟩), .func (.func g) #[] lb, mkA x, undef, undef, undef, undef, undef], defers := [] })
    (fun x a' => fun s X Y row hs hg hr => by
      obtain ⟨Bx, hx, ha⟩ := hs
      exact ⟨Bx, Own.from (boxA_own Bx x) _ s X Y row hx hg hr, ha⟩) ?assign ?body ?done ?stop
  case assign =>
    rintro l pre x W K ⟨⟨v, hv, hrow, _⟩, hB⟩ hK
    obtain ⟨r, i⟩ := x
    simp only [mkA]
    gi_wp2
    exact hK _ _ ((KeepsOthers.alloc _ _).from _) (KeepsWalks.alloc _ _) ⟨⟨v, hv.alloc _, hrow.alloc _, trivial⟩, hB.alloc hB.size _⟩ ⟨W.heap.size, heap_new _ _, rfl⟩
  case body =>
    rintro l pre x a' W hl hr ⟨⟨v, hv, hrow, _⟩, hB⟩ ⟨Bx, hbx, rfl⟩ hlt
    have hc := hv.cell
    have cx := cells_at hbx
    obtain ⟨r, i⟩ := x
    dsimp only at cx
    gi_wp2_with (gi_at_builtin; refine wpListIn_append_own _ rfl _ _ 108 rfl w.heap.size 31 i0 (.agg #[.int .u8 0, .int .u32 0]) 2 8 Try.underlying108 hi hz0 hz1 hz2 rfl (by decide) _ _ _ rfl (hrow.alloc _) ⟨W.heap.size, 0, none⟩ 1 1 [.int .u8 r, .int .u32 i] rfl rfl (World.news_of_block (cs := #[.int .u8 r, .int .u32 i]) (t := 31) (fr := (0, 0)) (heap_alloc_new W _)) (by simp [Value.oneCell']) (by unfold maxLen; omega) (by omega) (by have := hB.size; simp; omega) ?_; intro v' w1 hown' hgrow _; obtain ⟨g', cap', rfl⟩ := ownsRow_succ hown'; obtain ⟨hv1, hv2, hr2, hk2, hb2⟩ := hv.appended (by decide) hrow hB.size (Nat.le_refl _) hown' hgrow; have hc1 := hv1.cell; have hf1 := hv1.frozen)
    refine ⟨hk2.from _, ?_, ⟨_, hv2, ?_, trivial⟩, hB.trans hb2⟩
    · exact ⟨hk2.size, fun k o hk ho => hk2.same k o hk (Obj.not_cells_of_walk ho)⟩
    · rw [acells_snoc]; simpa [acell] using hr2
  case done =>
    rintro D ys W hD hS ⟨⟨v, hv, hrow, _⟩, hB⟩ hK
    have hc := hv.cell
    obtain ⟨a, c, rfl⟩ := owns_slice hrow
    gi_wp2
    refine ⟨by simp, .inl ⟨_, _, rfl, run_takeDeferred hK, ?_⟩⟩
    exact ⟨_, results_tmp rfl _ _ _, a, c, ys, rfl, hS, ownsRow_putObj hrow _ hK rfl, hB.trans (belowK_b (w := w) (Nat.le_refl _) W D _ _ (by simp at hD; omega) hK rfl rfl)⟩
  case stop =>
    rintro D c pre W _ _ h _
    exact h.elim
end Go.Proofs.Ytblahapjdgncfaa
