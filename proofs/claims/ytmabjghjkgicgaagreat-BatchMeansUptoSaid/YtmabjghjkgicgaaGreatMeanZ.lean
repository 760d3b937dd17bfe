/- The reference's tree.Lay. -/
import Derived.Test.YtmabjghjkgicgaaGreatMeanX
namespace Go.Proofs.YtmabjghjkgicgaaGreat
open Go.RowKit
set_option linter.unusedVariables false
set_option linter.unusedSimpArgs false

theorem TrRd.up {w : World} {m n : Nat} {a : Option Addr} {c : Nat} {T : List Nd} (h1 : TrRd w m a c T) (h2 : m ≤ n) : TrRd w n a c T := by
  obtain ⟨d, rfl⟩ : ∃ d, n = m + d := ⟨n - m, by omega⟩
  clear h2
  induction d with
  | zero => exact h1
  | succ d ihd => exact TrRd.deep ihd
/-- what reads so far reads in each world of the same blocks -/
def SameB (S : Nat → Prop) (w W : World) : Prop := ∀ k, S k → k < w.heap.size → W.heap[k]? = w.heap[k]?
theorem SameB.mono {S S' : Nat → Prop} {w W : World} (h : SameB S w W) (hs : ∀ k, S' k → S k) : SameB S' w W := fun k hk hl => h k (hs k hk) hl
theorem SameB.of {S : Nat → Prop} {w w' W : World} (h : SameB S w' W) (hb : ∀ k, S k → k < w.heap.size → w'.heap[k]? = w.heap[k]?) (hs : w.heap.size ≤ w'.heap.size) : SameB S w W := fun k hk hl => (h k hk (by omega)).trans (hb k hk hl)
theorem Sl.same {w W : World} {size n c : Nat} {a : Option Addr} {xs : List Value} (h : Sl w size a n c xs) (hk : ∀ k ∈ ob a, k < w.heap.size → W.heap[k]? = w.heap[k]?) : Sl W size a n c xs := by
  obtain ⟨h1, h2, h3, h4⟩ := h
  refine ⟨h1, h2, h3, ?_⟩
  rcases h4 with h4 | ⟨b, rfl, hc⟩
  · exact .inl h4
  · refine .inr ⟨b, rfl, fun j u hj => ?_⟩
    have h5 := hc j u hj
    have h6 := World.block_lt_of_cell? w _ h5
    rw [← h5]
    refine World.cell?_of_block (w := w) ?_
    rw [add_block] at h6 ⊢
    exact hk _ (by simp [ob]) h6
theorem LvRd.same {w W : World} {v : Lv} (h : LvRd w v) (hk : ∀ k, k < w.heap.size → W.heap[k]? = w.heap[k]?) : LvRd W v := ⟨⟨Sl.same h.1.its fun k _ => hk k, Sl.same h.1.tms fun k _ => hk k, h.1.ok⟩, h.2⟩
theorem LvsRd.same {w W : World} {a : Option Addr} {c : Nat} {ls : List Lv} (h : LvsRd w a c ls) (hk : ∀ k, k < w.heap.size → W.heap[k]? = w.heap[k]?) : LvsRd W a c ls := ⟨Sl.same h.1 fun k _ => hk k, fun v hv => (h.2 v hv).same hk⟩
theorem TrRd.same {w W : World} (hk : ∀ k, k < w.heap.size → W.heap[k]? = w.heap[k]?) : ∀ {n : Nat} {a : Option Addr} {c : Nat} {T : List Nd}, TrRd w n a c T → TrRd W n a c T
  | 0, _, _, _, h => ⟨h.1, Sl.same h.2 fun k _ => hk k⟩
  | n + 1, _, _, _, h => ⟨Sl.same h.1 fun k _ => hk k, fun x hx => ⟨(h.2 x hx).1.same hk, TrRd.same hk (h.2 x hx).2⟩⟩
theorem tr_new {w W : World} {m0 m2 : Nat} {a a' : Option Addr} {c c' : Nat} {T A R : List Nd} {y : Nd} (hT : TrRd w (m0 + 1) a c T) (hb : ∀ k, k < w.heap.size → W.heap[k]? = w.heap[k]?) (hA : ∀ x, x ∈ A ++ R → x ∈ T)
    (hy1 : LvsRd W y.la y.lc y.ls) (hy2 : TrRd W m2 y.ba y.bc y.kids) (hs : Sl W 3 a' (A ++ y :: R).length c' ((A ++ y :: R).flatMap ndcell)) : TrRd W (max m0 m2 + 1) a' c' (A ++ y :: R) := by
  refine ⟨hs, fun x hx => ?_⟩
  have hx' : x = y ∨ x ∈ A ++ R := by
    rcases List.mem_append.1 hx with hx | hx
    · exact .inr (List.mem_append.2 (.inl hx))
    · rcases List.mem_cons.1 hx with rfl | hx
      · exact .inl rfl
      · exact .inr (List.mem_append.2 (.inr hx))
  rcases hx' with rfl | hx'
  · exact ⟨hy1, hy2.up (Nat.le_max_right _ _)⟩
  · have := hT.2 x (hA x hx')
    exact ⟨this.1.same hb, (TrRd.same hb this.2).up (Nat.le_max_left _ _)⟩
theorem bd_new {b f : Nat} {T A R : List Nd} {y : Nd} (hT : BdT b (f + 1) T) (hA : ∀ x, x ∈ A ++ R → x ∈ T) (hy : (∀ v ∈ y.ls, v.l.items.length ≤ b ∧ v.l.tombs.length ≤ b) ∧ BdT b f y.kids) : BdT b (f + 1) (A ++ y :: R) := by
  intro x hx
  have hx' : x = y ∨ x ∈ A ++ R := by
    rcases List.mem_append.1 hx with hx | hx
    · exact .inr (List.mem_append.2 (.inl hx))
    · rcases List.mem_cons.1 hx with rfl | hx
      · exact .inl rfl
      · exact .inr (List.mem_append.2 (.inr hx))
  rcases hx' with rfl | hx'
  · exact hy
  · exact hT x (hA x hx')
def cntN (f : Nat) (x : Nd) : Nat := 1 + x.ls.length + cntT f x.kids
theorem cntT_succ (f : Nat) (T : List Nd) : cntT (f + 1) T = (T.map (cntN f)).sum := rfl
theorem cnt_new {f D : Nat} {T A R : List Nd} {s : ByteArray} {old y : Nd} (hc : CutN T A R s old) (hD : cntN f y ≤ D + old.ls.length + cntT f old.kids) : cntT (f + 1) (A ++ y :: R) ≤ cntT (f + 1) T + D := by
  rw [cntT_succ, cntT_succ]
  have h0 : cntN f old = 1 + old.ls.length + cntT f old.kids := rfl
  rcases hc.all with ⟨rfl, _⟩ | ⟨rfl, ho⟩
  · simp only [List.map_append, List.map_cons, List.sum_append, List.sum_cons]
    omega
  · have h1 : old.ls.length = 0 := by rw [ho]; rfl
    have h2 : cntT f old.kids = 0 := by rw [ho]; cases f <;> rfl
    simp only [List.map_append, List.map_cons, List.sum_append, List.sum_cons]
    omega
theorem len_cnt (f : Nat) (T : List Nd) : T.length ≤ cntT (f + 1) T := by
  rw [cntT_succ]
  have := sum_map_le (fun _ : Nd => 1) (cntN f) (l := T) (fun x _ => by unfold cntN; omega)
  rwa [sum_ones] at this
theorem in_cnt {f : Nat} {T : List Nd} {x : Nd} (hx : x ∈ T) : cntN f x ≤ cntT (f + 1) T := by
  rw [cntT_succ]; exact le_sum (cntN f) hx
/-- what Lay tells: a tree that reads so in each world of the old blocks and the call's own -/
def LayOut (w0 w : World) (f : Nat) (T : List Nd) (P : List ByteArray) (v : Lv) (e : Ending) (w' : World) : Prop :=
  ∃ a' c' T' m', e = .returned (.slice a' (List.length T') c') ∧ LayT f T P v T' ∧ cntT f T' ≤ cntT f T + P.length + 1 ∧ BdT 1000000 f T' ∧ (∀ W, SameB (fun k => k < w0.heap.size ∨ w.heap.size ≤ k) w' W → TrRd W m' a' c' T') ∧ Below w.heap.size w w'
/-- the leaf's box, and the node's -/
structure LyE (w W : World) (v : Lv) (b9 : Nat) (n : Nd) : Prop where
  b5 : LvBlk W w.heap.size v
  bn : W.heap[b9]? = some (.cells (ndcell n).toArray 80 (0, 0))
  lo : w.heap.size < b9
  bel : Below w.heap.size w W
theorem LyE.step {w W W' : World} {v : Lv} {b9 : Nat} {n : Nd} (h : LyE w W v b9 n) (hb : Below W.heap.size W W') : LyE w W' v b9 n :=
  ⟨h.b5.below hb, (hb.block _ (heap_lt h.bn)).trans h.bn, h.lo, below2 h.bel hb h.bel.size⟩
/-- behind the loop over names -/
def LyX (w : World) (T : List Nd) (s : ByteArray) (v : Lv) (out i : Value) (wx : World) : Prop :=
  ∃ (q : Nat) (oa : Option Addr) (oc : Nat) (V : List Nd), q ≤ T.length ∧ i = .int .i64 q ∧ out = .slice oa V.length oc ∧ Hid (V = T.take q) ∧ Hid (∀ x ∈ V, ltS x.name s = true) ∧ Hid (q = T.length ∨ ∃ x, T[q]? = some x ∧ ltS x.name s = false) ∧
    Hid (OwnN wx (w.heap.size + 1) oa oc V) ∧ Hid (LvBlk wx w.heap.size v ∧ Below w.heap.size w wx)
/-- where a name stands, out of the loop's end -/
theorem cut_at {T : List Nd} {s : ByteArray} {q : Nat} (hT : risesN T) (hl : ∀ x ∈ T.take q, ltS x.name s = true) {x : Nd} (hx : T[q]? = some x) (hs : x.name = s) : CutN T (T.take q) (T.drop (q + 1)) s x := by
  have e : T = T.take q ++ x :: T.drop (q + 1) := by
    rw [← (List.getElem?_eq_some_iff.1 hx).2, List.getElem_cons_drop, List.take_append_drop]
  refine ⟨hl, fun y hy => ?_, .inl ⟨e, hs⟩⟩
  have hT' := hT
  unfold risesN at hT'
  rw [e] at hT'
  have := (List.pairwise_cons.1 (List.pairwise_append.1 hT').2.1).1 y hy
  rw [hs] at this; exact this
theorem cut_not {T : List Nd} {s : ByteArray} {q : Nat} (hT : risesN T) (hl : ∀ x ∈ T.take q, ltS x.name s = true) (h : q = T.length ∨ ∃ x, T[q]? = some x ∧ ltS x.name s = false) (hn : ∀ x, T[q]? = some x → x.name ≠ s) : CutN T (T.take q) (T.drop q) s (noNd s) := by
  refine ⟨hl, fun y hy => ?_, .inr ⟨(List.take_append_drop q T).symm, rfl⟩⟩
  rcases h with h | ⟨x, hx, hxs⟩
  · rw [h, List.drop_length] at hy; cases hy
  · have hne := hn x hx
    have e : T.drop q = x :: T.drop (q + 1) := by
      rw [← (List.getElem?_eq_some_iff.1 hx).2, List.getElem_cons_drop]
    have hsx : ltS s x.name = true := by
      cases e2 : ltS s x.name with
      | true => rfl
      | false => exact absurd (ltS_total hxs e2) hne
    rw [e] at hy
    rcases List.mem_cons.1 hy with rfl | hy
    · exact hsx
    · have hT' : risesN (T.take q ++ x :: T.drop (q + 1)) := by rw [← e, List.take_append_drop]; exact hT
      exact ltS_trans hsx ((List.pairwise_cons.1 (List.pairwise_append.1 hT').2.1).1 y hy)
/-- the node that was there, in the box -/
def LyN (w0 w : World) (f : Nat) (T V : List Nd) (s : ByteArray) (v : Lv) (b9 : Nat) (oa : Option Addr) (oc : Nat) (i : Value) (wx : World) : Prop :=
  ∃ (j m' : Nat) (R : List Nd) (old : Nd), j ≤ T.length ∧ i = .int .i64 j ∧ Hid (R = T.drop j) ∧ Hid (CutN T V R s old) ∧ Hid (old.name = s) ∧ Hid (LvsRd w0 old.la old.lc old.ls) ∧ Hid (TrRd w0 m' old.ba old.bc old.kids) ∧
    Hid (MayT f old.kids ∧ MayLs old.ls ∧ (∀ u ∈ old.ls, u.l.items.length ≤ 1000000 ∧ u.l.tombs.length ≤ 1000000) ∧ BdT 1000000 f old.kids ∧ cntN f old ≤ 100001) ∧ Hid (OwnN wx (w.heap.size + 1) oa oc V) ∧ Hid (LyE w wx v b9 old)
/-- the node with the leaf, in the box -/
def LyY (w0 w : World) (f : Nat) (s : ByteArray) (P : List ByteArray) (v : Lv) (b9 : Nat) (old : Nd) (oa : Option Addr) (oc : Nat) (V : List Nd) (wx : World) : Prop :=
  ∃ (y : Nd) (m2 : Nat), Hid (y.name = s) ∧ Hid (∀ W, SameB (fun k => (k < w0.heap.size ∨ w.heap.size ≤ k) ∧ k ∉ ob oa) wx W → LvsRd W y.la y.lc y.ls ∧ TrRd W m2 y.ba y.bc y.kids) ∧ Hid (OwnN wx (w.heap.size + 1) oa oc V) ∧ Hid (LyE w wx v b9 y) ∧
    Hid ((y.ls ≠ [] ∨ y.kids ≠ []) ∧ MayT f y.kids ∧ MayLs y.ls ∧ (∀ u ∈ y.ls, u.l.items.length ≤ 1000000 ∧ u.l.tombs.length ≤ 1000000) ∧ BdT 1000000 f y.kids ∧ cntN f y ≤ (P.length + 2) + old.ls.length + cntT f old.kids ∧
      (P = [] → (∀ k, findL y.ls k = if k = v.l.k then some v else findL old.ls k) ∧ ∀ q k, lookP y.kids q k = lookP old.kids q k) ∧
      (P ≠ [] → (∀ k, findL y.ls k = findL old.ls k) ∧ ∀ q k, lookP y.kids q k = if q = P ∧ k = v.l.k then some v else lookP old.kids q k))
def zB (T : List Nd) (q : Nat) (s : ByteArray) : Bool := match T[q]? with | some x => decide (x.name = s) | none => false
theorem zB_true {T : List Nd} {q : Nat} {s : ByteArray} (h : zB T q s = true) : ∃ x, T[q]? = some x ∧ x.name = s := by
  unfold zB at h
  cases e : T[q]? with
  | none => rw [e] at h; cases h
  | some x => rw [e] at h; exact ⟨x, rfl, by simpa using h⟩
theorem zB_false {T : List Nd} {q : Nat} {s : ByteArray} (h : zB T q s = false) : ∀ x, T[q]? = some x → x.name ≠ s := by
  intro x hx
  unfold zB at h
  rw [hx] at h
  simpa using h
theorem zB_of {T : List Nd} {q : Nat} {s : ByteArray} {x : Nd} (h : T[q]? = some x) : zB T q s = decide (x.name = s) := by unfold zB; rw [h]
theorem zB_none {T : List Nd} {q : Nat} {s : ByteArray} (h : T[q]? = none) : zB T q s = false := by unfold zB; rw [h]
theorem LyE.put {w W : World} {v : Lv} {b : Nat} {n : Nd} (h : LyE w W v b n) (x : Nd) :
    LyE w (((W.setCell ⟨b, 0, none⟩ (.string x.name)).setCell ⟨b, 1, none⟩ (.slice x.la x.ls.length x.lc)).setCell ⟨b, 2, none⟩ (.slice x.ba x.kids.length x.bc)) v b x := by
  have hC : Chg [b] W (((W.setCell ⟨b, 0, none⟩ (.string x.name)).setCell ⟨b, 1, none⟩ (.slice x.la x.ls.length x.lc)).setCell ⟨b, 2, none⟩ (.slice x.ba x.kids.length x.bc)) :=
    (((Chg.setCell W ⟨b, 0, none⟩ _).set _ _ (by simp)).set _ _ (by simp))
  have h0 := heap_set (heap_set (heap_set h.bn 0 (.string x.name)) 1 (.slice x.la x.ls.length x.lc)) 2 (.slice x.ba x.kids.length x.bc)
  simp only [ndcell, List.setIfInBounds_toArray, List.set_cons_zero, List.set_cons_succ] at h0
  have := h.lo
  exact ⟨(hC.block _ (heap_lt h.b5) (by simp; omega)).trans h.b5, h0, h.lo, below_three h.bel (by omega) _ _ _⟩
theorem LyE.kid {w W : World} {v : Lv} {b : Nat} {n : Nd} (h : LyE w W v b n) (a' : Option Addr) (c' : Nat) (B : List Nd) :
    LyE w (W.setCell ⟨b, 2, none⟩ (.slice a' B.length c')) v b (.mk n.name n.la n.lc n.ls a' c' B) := by
  have hC : Chg [b] W (W.setCell ⟨b, 2, none⟩ (.slice a' B.length c')) := Chg.setCell W ⟨b, 2, none⟩ _
  have h0 := heap_set h.bn 2 (.slice a' B.length c')
  simp only [ndcell, List.setIfInBounds_toArray, List.set_cons_zero, List.set_cons_succ] at h0
  have := h.lo
  exact ⟨(hC.block _ (heap_lt h.b5) (by simp; omega)).trans h.b5, h0, h.lo, h.bel.setCell (by simp; omega) _⟩
theorem cell_below {w w' : World} {p : Addr} {u : Value} (h : w.cell? p = some u) (hb : Below w.heap.size w w') : w'.cell? p = some u := (hb.cell (World.block_lt_of_cell? w _ h)).trans h
theorem LyY.rec_ {w0 w w4 : World} {f b9 wds : Nat} {s : ByteArray} {u : List ByteArray} {v : Lv} {old : Nd} {oa a' : Option Addr} {oc c' mB : Nat} {V B' : List Nd} (hP : u ≠ []) (hon : old.name = s) (hoL : LvsRd w0 old.la old.lc old.ls)
    (hE : LyE w w4 v b9 old) (hO : OwnN w4 (w.heap.size + 1) oa oc V) (hw0 : Below w0.heap.size w0 w) (hlt : ∀ k ∈ ob oa, w.heap.size + 1 ≤ k ∧ k < b9) (hb9 : b9 < wds) (hTB : ∀ W, SameB (fun k => k < w0.heap.size ∨ wds ≤ k) w4 W → TrRd W mB a' c' B')
    (hLT : LayT f old.kids u v B') (hcB : cntT f B' ≤ cntT f old.kids + u.length + 1) (hbB : BdT 1000000 f B') (hls : MayLs old.ls) (hbl : ∀ x ∈ old.ls, x.l.items.length ≤ 1000000 ∧ x.l.tombs.length ≤ 1000000) :
    LyY w0 w f s u v b9 old oa oc V (w4.setCell ⟨b9, 2, none⟩ (.slice a' B'.length c')) := by
  have hC : Chg [b9] w4 (w4.setCell ⟨b9, 2, none⟩ (.slice a' B'.length c')) := Chg.setCell w4 ⟨b9, 2, none⟩ _
  have hs0 := hw0.size
  have hsz := hE.bel.size
  have hlo := hE.lo
  have h40 := hw0.trans (hE.bel.mono hs0)
  refine ⟨.mk old.name old.la old.lc old.ls a' c' B', mB, Lib.hid hon, Lib.hid fun W hW => ⟨hoL.same fun k hk => ?_, hTB W fun k hk hl => ?_⟩, Lib.hid (owns_chg hO hC fun k hk hm => by have := (hlt k hk).2; simp at hm; omega), Lib.hid (hE.kid a' c' B'),
    Lib.hid ⟨.inr hLT.ne, hLT.may, hls, hbl, hbB, ?_, fun h => absurd h hP, fun _ => ⟨fun k => rfl, hLT.look⟩⟩⟩
  · rw [hW k ⟨.inl hk, fun hm => by have := (hlt k hm).1; omega⟩ (by have := hC.size; omega), hC.block k (by omega) (by simp; omega)]
    exact h40.block k hk
  · rw [hW k ⟨hk.elim .inl fun h => .inr (by omega), fun hm => by have := hlt k hm; omega⟩ (by have := hC.size; omega)]
    exact hC.block k hl (by simp; omega)
  · show 1 + old.ls.length + cntT f B' ≤ _
    omega
theorem own_blk {W : World} {base size n c m : Nat} {e t : TypeId} {a : Option Addr} {xs : List Value} {q : Nat} {C : Array Value} {fr : Nat × Nat} (h : W.ownsRow base e size (.slice a n c) m xs) (hq : W.heap[q]? = some (.cells C t fr)) (hne : e ≠ t) : q ∉ ob a := by
  intro hm
  rcases h.2 with ⟨h2, h3⟩ | ⟨g, cap, cur, h2, hb, hg, _⟩
  · simp at h2
    obtain ⟨rfl, _, _⟩ := h2
    simp [ob] at hm
  · simp at h2
    obtain ⟨rfl, _⟩ := h2
    simp [ob] at hm
    subst hm
    rw [hg] at hq
    injection hq with hq
    injection hq with _ hq
    exact hne hq
theorem LyE.lf {w W : World} {v : Lv} {b : Nat} {n : Nd} (h : LyE w W v b n) (a' : Option Addr) (c' : Nat) (B : List Lv) :
    LyE w (W.setCell ⟨b, 1, none⟩ (.slice a' B.length c')) v b (.mk n.name a' c' B n.ba n.bc n.kids) := by
  have hC : Chg [b] W (W.setCell ⟨b, 1, none⟩ (.slice a' B.length c')) := Chg.setCell W ⟨b, 1, none⟩ _
  have h0 := heap_set h.bn 1 (.slice a' B.length c')
  simp only [ndcell, List.setIfInBounds_toArray, List.set_cons_zero, List.set_cons_succ] at h0
  have := h.lo
  exact ⟨(hC.block _ (heap_lt h.b5) (by simp; omega)).trans h.b5, h0, h.lo, h.bel.setCell (by simp; omega) _⟩
theorem LyY.leaf_ {w0 w w6 : World} {f b9 m' : Nat} {s : ByteArray} {v : Lv} {old : Nd} {oa a2 : Option Addr} {oc c2 : Nat} {V : List Nd} {U u v2 : List Lv} (hon : old.name = s) (hoL : LvsRd w0 old.la old.lc old.ls) (hoT : TrRd w0 m' old.ba old.bc old.kids)
    (hE : LyE w w6 v b9 old) (hO : OwnN w6 (w.heap.size + 1) oa oc V) (hF : OwnF w6 (w.heap.size + 1) a2 c2 v2) (hw0 : Below w0.heap.size w0 w) (hlt : ∀ k ∈ ob oa, w.heap.size + 1 ≤ k ∧ k < b9) (hv : LvRd w0 v) (hmv : MayLf v.l) (hbv : v.l.items.length ≤ 1000000 ∧ v.l.tombs.length ≤ 1000000)
    (hmT : MayT f old.kids) (hls : MayLs old.ls) (hbl : ∀ x ∈ old.ls, x.l.items.length ≤ 1000000 ∧ x.l.tombs.length ≤ 1000000) (hbd : BdT 1000000 f old.kids) (hv2 : v2 = (U ++ [v]) ++ u) (hU : ∀ x ∈ U, x.l.k < v.l.k) (hu : ∀ x ∈ u, v.l.k < x.l.k)
    (hsp : old.ls = U ++ u ∨ ∃ o, old.ls = U ++ o :: u ∧ o.l.k = v.l.k) : LyY w0 w f s [] v b9 old oa oc V (w6.setCell ⟨b9, 1, none⟩ (.slice a2 v2.length c2)) := by
  have e : v2 = U ++ v :: u := by rw [hv2]; simp
  subst e
  have hC : Chg [b9] w6 (w6.setCell ⟨b9, 1, none⟩ (.slice a2 (U ++ v :: u).length c2)) := Chg.setCell w6 ⟨b9, 1, none⟩ _
  have hs0 := hw0.size
  have hlo := hE.lo
  have hnb := own_blk hF hE.bn (by decide)
  have h60 : Below w0.heap.size w0 (w6.setCell ⟨b9, 1, none⟩ (.slice a2 (U ++ v :: u).length c2)) := (hw0.trans (hE.bel.mono hs0)).setCell (by simp; omega) _
  have hF' : OwnF (w6.setCell ⟨b9, 1, none⟩ (.slice a2 (U ++ v :: u).length c2)) (w.heap.size + 1) a2 c2 (U ++ v :: u) := owns_chg hF hC (fun k hk hm => by simp at hm; subst hm; exact hnb hk)
  have hO' : OwnN (w6.setCell ⟨b9, 1, none⟩ (.slice a2 (U ++ v :: u).length c2)) (w.heap.size + 1) oa oc V := owns_chg hO hC (fun k hk hm => by have := (hlt k hk).2; simp at hm; omega)
  obtain ⟨l1, l2, l3, l4⟩ := laidL hls hmv hU hu hsp
  have hlen : (U ++ v :: u).length ≤ old.ls.length + 1 := by
    rcases hsp with h | ⟨o, h, _⟩ <;> rw [h] <;> simp only [List.length_append, List.length_cons] <;> omega
  refine ⟨.mk old.name a2 c2 (U ++ v :: u) old.ba old.bc old.kids, m', Lib.hid hon, Lib.hid fun W hW => ?_, Lib.hid hO', Lib.hid (hE.lf a2 c2 (U ++ v :: u)),
    Lib.hid ⟨.inl l2, hmT, l1, fun x hx => (l4 x hx).elim (fun h => by rw [h]; exact hbv) (hbl x), hbd, ?_, fun _ => ⟨l3, fun _ _ => rfl⟩, fun h => absurd rfl h⟩⟩
  · have hold : ∀ k, k < w0.heap.size → W.heap[k]? = w0.heap[k]? := fun k hk => (hW k ⟨.inl hk, fun hm => by have := (hlt k hm).1; omega⟩ (by have := h60.size; omega)).trans (h60.block k hk)
    refine ⟨⟨Sl.same hF'.sl fun k hk hl => hW k ⟨.inr (by have := (owns_lt hF' k hk).1; omega), fun hm => owns_ne hO' hF' (by decide) k hm hk⟩ hl, fun x hx => ?_⟩, TrRd.same hold hoT⟩
    rcases l4 x hx with rfl | hx
    · exact hv.same hold
    · exact (hoL.2 x hx).same hold
  · show 1 + (U ++ v :: u).length + cntT f old.kids ≤ _
    simp only [List.length_nil]
    omega
/-- all of it together -/
theorem layT_end {w0 w we w6 : World} {f m m2 : Nat} {s : ByteArray} {P : List ByteArray} {v : Lv} {T V R : List Nd} {old y : Nd} {a oa a2 : Option Addr} {c c2 : Nat} {v2 : List Nd} (hT : TrRd w0 (m + 1) a c T) (hM : MayT (f + 1) T) (hBd : BdT 1000000 (f + 1) T) (hNs : NameP s)
    (hcut : CutN T V R s old) (hyn : y.name = s) (hyM : ∀ W, SameB (fun k => (k < w0.heap.size ∨ w.heap.size ≤ k) ∧ k ∉ ob oa) we W → LvsRd W y.la y.lc y.ls ∧ TrRd W m2 y.ba y.bc y.kids)
    (hyP : (y.ls ≠ [] ∨ y.kids ≠ []) ∧ MayT f y.kids ∧ MayLs y.ls ∧ (∀ u ∈ y.ls, u.l.items.length ≤ 1000000 ∧ u.l.tombs.length ≤ 1000000) ∧ BdT 1000000 f y.kids ∧ cntN f y ≤ (P.length + 2) + old.ls.length + cntT f old.kids ∧
      (P = [] → (∀ k, findL y.ls k = if k = v.l.k then some v else findL old.ls k) ∧ ∀ q k, lookP y.kids q k = lookP old.kids q k) ∧
      (P ≠ [] → (∀ k, findL y.ls k = findL old.ls k) ∧ ∀ q k, lookP y.kids q k = if q = P ∧ k = v.l.k then some v else lookP old.kids q k))
    (hw0 : Below w0.heap.size w0 w) (hB : Below w.heap.size w w6) (hlt : ∀ k ∈ ob oa, w.heap.size + 1 ≤ k) (hs : we.heap.size ≤ w6.heap.size) (h6 : ∀ k, k < we.heap.size → k ∉ ob oa → w6.heap[k]? = we.heap[k]?)
    (hv2 : v2 = (V ++ [y]) ++ R) (ho : OwnN w6 (w.heap.size + 1) a2 c2 v2) : LayOut w0 w (f + 1) T (s :: P) v (.returned (.slice a2 v2.length c2)) w6 := by
  have e : v2 = V ++ y :: R := by rw [hv2]; simp
  subst e
  have hs0 := hw0.size
  have h60 := hw0.trans (hB.mono hs0)
  obtain ⟨p1, p2, p3, p4, p5, p6, p7, p8⟩ := hyP
  refine ⟨a2, c2, V ++ y :: R, max m m2 + 1, rfl, layT_step hM hNs hcut hyn p1 p2 p3 p7 p8, ?_, bd_new hBd hcut.sub ⟨p4, p5⟩, fun W hW => ?_, hB⟩
  · have := cnt_new (y := y) (D := P.length + 2) hcut p6
    simp only [List.length_cons]
    omega
  · have hold : ∀ k, k < w0.heap.size → W.heap[k]? = w0.heap[k]? := fun k hk => (hW k (.inl hk) (by have := h60.size; omega)).trans (h60.block k hk)
    obtain ⟨q1, q2⟩ := hyM W fun k hk hl => (hW k hk.1 (by omega)).trans (h6 k hl hk.2)
    exact tr_new hT hold hcut.sub q1 q2 (Sl.same ho.sl fun k hk hl => hW k (.inr (by have := (owns_lt ho k hk).1; omega)) hl)
def kB (ls : List Lv) (r : Nat) (k : Int) : Bool := match ls[r]? with | some x => decide (x.l.k = k) | none => false
theorem kB_of {ls : List Lv} {r : Nat} {k : Int} {x : Lv} (h : ls[r]? = some x) : kB ls r k = decide (x.l.k = k) := by unfold kB; rw [h]
theorem kB_none {ls : List Lv} {r : Nat} {k : Int} (h : ls[r]? = none) : kB ls r k = false := by unfold kB; rw [h]
theorem kB_true {ls U : List Lv} {r : Nat} {k : Int} (hls : MayLs ls) (hU : U = ls.take r) (h : kB ls r k = true) : (∀ x ∈ ls.drop (r + 1), k < x.l.k) ∧ (∃ o, ls = U ++ o :: ls.drop (r + 1) ∧ o.l.k = k) ∧ r < ls.length := by
  unfold kB at h
  cases e : ls[r]? with
  | none => rw [e] at h; cases h
  | some x =>
    rw [e] at h
    have hk : x.l.k = k := by simpa using h
    have hsp : ls = ls.take r ++ x :: ls.drop (r + 1) := by
      rw [← (List.getElem?_eq_some_iff.1 e).2, List.getElem_cons_drop, List.take_append_drop]
    refine ⟨fun y hy => ?_, ⟨x, by rw [hU]; exact hsp, hk⟩, (List.getElem?_eq_some_iff.1 e).1⟩
    have h2 := hls.2
    rw [hsp] at h2
    have := (List.pairwise_cons.1 (List.pairwise_append.1 h2).2.1).1 y hy
    omega
theorem kB_false {ls U : List Lv} {r : Nat} {k : Int} (hls : MayLs ls) (hU : U = ls.take r) (hq : r = ls.length ∨ ∃ x, ls[r]? = some x ∧ ¬ x.l.k < k) (h : kB ls r k = false) : (∀ x ∈ ls.drop r, k < x.l.k) ∧ ls = U ++ ls.drop r := by
  refine ⟨fun y hy => ?_, by rw [hU, List.take_append_drop]⟩
  rcases hq with hq | ⟨x, hx, hk⟩
  · rw [hq, List.drop_length] at hy; cases hy
  · rw [kB_of hx] at h
    have hne : ¬ x.l.k = k := by simpa using h
    have e : ls.drop r = x :: ls.drop (r + 1) := by rw [← (List.getElem?_eq_some_iff.1 hx).2, List.getElem_cons_drop]
    have h2 : (ls.take r ++ x :: ls.drop (r + 1)).Pairwise (fun a b : Lv => a.l.k < b.l.k) := by rw [← e, List.take_append_drop]; exact hls.2
    rw [e] at hy
    rcases List.mem_cons.1 hy with rfl | hy
    · omega
    · have := (List.pairwise_cons.1 (List.pairwise_append.1 h2).2.1).1 y hy
      omega
set_option maxRecDepth 100000 in
set_option maxHeartbeats 2000000 in
theorem rlayT_any (f : Nat) : ∀ (m : Nat) (a : Option Addr) (c : Nat) (T : List Nd) (pa : Option Addr) (pc : Nat) (P : List ByteArray) (v : Lv) (w0 w : World), TrRd w0 m a c T → MayT f T → BdT 1000000 f T → Strs w0 pa pc P → 1 ≤ P.length → P.length ≤ f → (∀ s ∈ P, NameP s) →
    LvRd w0 v → Below w0.heap.size w0 w → MayLf v.l → (v.l.items.length ≤ 1000000 ∧ v.l.tombs.length ≤ 1000000) → cntT f T ≤ 100000 →
    Calls Tryz.prog 49 #[.slice a T.length c, .slice pa P.length pc, lagg v] w (LayOut w0 w f T P v) := by
  induction f with
  | zero => intro m a c T pa pc P v w0 w _ _ _ _ h1 h2; omega
  | succ f ih =>
    intro m a c T pa pc P0 v w0 w hT0 hM hBd hP hp1 hpf hNm hv hw0 hmv hbv hcnt
    obtain ⟨s, P, rfl⟩ : ∃ s P, P0 = s :: P := by cases P0 with | nil => cases hp1 | cons s P => exact ⟨s, P, rfl⟩
    have HT := Lib.hid (TrRd.deep hT0)
    have HW0 := Lib.hid hw0
    have HM := Lib.hid hM
    have HBd := Lib.hid hBd
    have HP := Lib.hid hP
    have HNm := Lib.hid hNm
    have Hv := Lib.hid hv
    have Hmv := Lib.hid hmv
    have Hbv := Lib.hid hbv
    have hlen := hT0.sl.2.1
    have hcap := hT0.sl.2.2.1
    have hTl := len_cnt f T
    have Hcnt := Lib.hid hcnt
    have hTl2 : T.length ≤ 100000 := by omega
    have hPl : P.length + 1 ≤ pc := hP.2.1
    have hPc := hP.2.2.1
    have hPf : P.length ≤ f := by simpa using hpf
    unfold maxLen at hcap hPc
    obtain ⟨ap, hap, p0, hpl⟩ := hP.at (k := 0) (x := s) rfl
    subst hap
    have Hp0 := Lib.hid (show w0.cell? ap = some (.string s) from p0)
    clear hT0 hw0 hM hBd hP hNm hv hmv hbv hcnt hTl p0 hp1 hpf
    rw [show (s :: P).length = P.length + 1 from rfl]
    go_enter Tryz.func49, Tryz.ntmps49
    go_upto_block 0 with (fail)
    go_cut [7, 8] (fun out i wx => LyX w T s v out i wx)
    case first =>
      go_wp2_with fail
      go_loopw [7, 8] (fun out i wr => ∃ (q : Nat) (oa : Option Addr) (oc : Nat) (V : List Nd), q ≤ T.length ∧ i = .int .i64 q ∧ out = .slice oa V.length oc ∧ Hid (V = T.take q) ∧ Hid (∀ x ∈ V, ltS x.name s = true) ∧ Hid (OwnN wr (w.heap.size + 1) oa oc V) ∧ Hid (LvBlk wr w.heap.size v ∧ Below w.heap.size w wr)) (fun _ i _ => T.length - (intOf i).toNat)
      case atStart => exact ⟨0, none, 0, [], Nat.zero_le _, rfl, rfl, Lib.hid rfl, Lib.hid (by simp), Lib.hid (OwnN.nil _ _), Lib.hid ⟨heap_new _ _, (Below.refl _ _).alloc (Nat.le_refl _) _⟩⟩
      case round =>
        obtain ⟨q, oa, oc, V, hq, rfl, rfl, HV, HL, HO, HE⟩ := hrel
        have hVl : V.length = q := by rw [HV.out, List.length_take]; omega
        have HVl := Lib.hid hVl
        have hV2 : V.length ≤ 100000 := by omega
        have HB0 := Lib.hid (HW0.out.trans (HE.out.2.mono HW0.out.size))
        have p0 := cell_below Hp0.out HB0.out
        have hsz := HE.out.2.size
        have hbx := heap_lt HE.out.1
        clear hVl
        by_cases hlt : q < T.length
        · obtain ⟨x, hx⟩ : ∃ x, T[q]? = some x := ⟨T[q], by simp [hlt]⟩
          obtain ⟨ad, had, ⟨c0, c1, c2⟩, hlb⟩ := nds_at (HT.out.below HB0.out).sl hx
          subst had
          have Hx := Lib.hid hx
          clear hx
          cases hc : Op.bytesLess x.name.toList s.toList with
          | true =>
            have Hc := Lib.hid (show ltS x.name s = true from hc)
            go_wp2_with fail
            refine region_text [([0, 1, 2, 3, 4, 5, 6, 7, 8, 9, 10, 11, 12, 13, 14], false)] mixed (by kernel_rfl) ?_
            simp only [wpSegs, List.map_cons, List.map_nil, List.getD_cons_succ, List.getD_cons_zero]
            go_wp2_with fail
            refine And.intro (by kernel_rfl) ?_
            go_wp2_with (at_builtin; go_must (refine wpList_appN rfl _ _ rfl (w.heap.size + 1) oa oc V rfl ?o1 (some ⟨wr.heap.size, 0, none⟩) 1 [x] rfl ?s1 ?n1 ?b1 ?_))
            case o1 => exact HO.out.below (((Below.refl _ _).alloc (Nat.le_refl _) _).drew)
            case s1 => exact nd_one x (heap_new wr _)
            case n1 => simp; omega
            case b1 => simp; omega
            intro v' a' c' w2 hv' ho2 hb2 hC2 _
            have hW : Below wr.heap.size wr (wr.alloc (.cells (ndcell x).toArray 80)).drew := ((Below.refl _ _).alloc (Nat.le_refl _) _).drew
            have HO2 := Lib.hid ho2
            have HE2 := Lib.hid (show LvBlk w2 w.heap.size v ∧ Below w.heap.size w w2 from ⟨(hb2.block _ (by omega)).trans (HE.out.1.below hW), (below2 HE.out.2 hW hsz).trans (hb2.mono (by omega))⟩)
            have HV2 := Lib.hid (show v' = T.take (q + 1) by rw [hv', HV.out, take_snoc' Hx.out])
            have HL2 := Lib.hid (show ∀ y ∈ v', ltS y.name s = true from fun y hy => by
              rw [hv', List.mem_append, List.mem_singleton] at hy
              rcases hy with hy | rfl
              · exact HL.out y hy
              · exact Hc.out)
            clear hv' ho2 hb2 hC2 hW
            go_wp2_with fail
            go_roundw
            case rel => exact ⟨q + 1, a', c', v', by omega, by go_num, rfl, HV2, HL2, HO2, HE2⟩
            case measure => simp [intOf]; omega
          | false =>
            have Hc := Lib.hid (show ltS x.name s = false from hc)
            go_wp2_with fail
            refine region_text [([0, 1, 2, 3, 4, 5, 6, 7, 8, 9, 10, 11, 12, 13, 14], false)] mixed (by kernel_rfl) ?_
            simp only [wpSegs, List.map_cons, List.map_nil, List.getD_cons_succ, List.getD_cons_zero]
            go_wp2_with fail
            refine And.intro (by kernel_rfl) ?_
            go_wp2_with fail
            go_meet
            exact ⟨q, oa, oc, V, hq, rfl, rfl, HV, HL, Lib.hid (.inr ⟨x, Hx.out, Hc.out⟩), Lib.hid (HO.out.below ((Below.refl _ _).drew)), Lib.hid ⟨HE.out.1.below ((Below.refl _ _).drew), HE.out.2.drew⟩⟩
        · go_wp2_with fail
          refine region_text [([0, 1, 2, 3, 4, 5, 6, 7, 8, 9, 10, 11, 12, 13, 14], false)] mixed (by kernel_rfl) ?_
          simp only [wpSegs, List.map_cons, List.map_nil, List.getD_cons_succ, List.getD_cons_zero]
          go_wp2_with fail
          refine And.intro (by kernel_rfl) ?_
          go_wp2_with fail
          go_meet
          exact ⟨q, oa, oc, V, hq, rfl, rfl, HV, HL, Lib.hid (.inl (by omega)), Lib.hid (HO.out.below ((Below.refl _ _).drew)), Lib.hid ⟨HE.out.1.below ((Below.refl _ _).drew), HE.out.2.drew⟩⟩
    case rest =>
      obtain ⟨q, oa, oc, V, hq, rfl, rfl, HV, HL, HQ, HO, HE⟩ := hcut
      obtain ⟨wa, hwa⟩ : ∃ wa, wa = wc := ⟨_, rfl⟩
      subst hwa
      have hVl : V.length ≤ 100000 := by rw [HV.out, List.length_take]; omega
      have hsz := HE.out.2.size
      have hbx := heap_lt HE.out.1
      have hsz0 := HW0.out.size
      have HB0 := Lib.hid (HW0.out.trans (HE.out.2.mono HW0.out.size))
      have p0 := cell_below Hp0.out HB0.out
      have Hlt := Lib.hid (show ∀ k ∈ ob oa, w.heap.size + 1 ≤ k ∧ k < wa.heap.size from fun k hk => owns_lt HO.out k hk)
      have hA : Below wa.heap.size wa (wa.alloc (.cells #[.string s, .slice none 0 0, .slice none 0 0] 80)) := (Below.refl _ _).alloc (Nat.le_refl _) _
      have E : Hid (LyE w (wa.alloc (.cells #[.string s, .slice none 0 0, .slice none 0 0] 80)) v wa.heap.size (noNd s)) := Lib.hid ⟨HE.out.1.below hA, heap_new _ _, hbx, below2 HE.out.2 hA hsz⟩
      have HO1 := Lib.hid (HO.out.below hA)
      clear hA
      go_upto_region 7 with (fail)
      go_cut [54] (fun z wx => z = .bool (zB T q s) ∧ Hid (OwnN wx (w.heap.size + 1) oa oc V) ∧ Hid (LyE w wx v wa.heap.size (noNd s)))
      case first =>
        clear p0
        have HB1 := Lib.hid (HW0.out.trans (E.out.bel.mono HW0.out.size))
        have p1 := cell_below Hp0.out HB1.out
        by_cases hlt : q < T.length
        · obtain ⟨x, hx⟩ : ∃ x, T[q]? = some x := ⟨T[q], by simp [hlt]⟩
          obtain ⟨ad, had, ⟨c0, c1, c2⟩, hlb⟩ := nds_at (HT.out.below HB1.out).sl hx
          subst had
          have hzb := zB_of (s := s) hx
          by_cases he : x.name = s
          · have Hz := Lib.hid (show zB T q s = true by rw [hzb]; simpa using he)
            have q1 : (x.name.toList == s.toList) = true := by rw [he]; simp
            clear hzb hx he
            refine region_text [([0, 1, 2, 3, 4, 5, 6, 7, 8, 9, 10, 11, 12, 13, 14], false)] mixed (by kernel_rfl) ?_
            simp only [wpSegs, List.map_cons, List.map_nil, List.getD_cons_succ, List.getD_cons_zero]
            go_wp2_with fail
            refine And.intro (by kernel_rfl) ?_
            go_wp2_with fail
            go_meet
            exact ⟨by rw [Hz.out], Lib.hid (HO1.out.below ((Below.refl _ _).drew)), Lib.hid (E.out.step ((Below.refl _ _).drew))⟩
          · have Hz := Lib.hid (show zB T q s = false by rw [hzb]; simpa using he)
            have q1 : (x.name.toList == s.toList) = false := by rw [beq_bytes]; simpa using he
            clear hzb hx he
            refine region_text [([0, 1, 2, 3, 4, 5, 6, 7, 8, 9, 10, 11, 12, 13, 14], false)] mixed (by kernel_rfl) ?_
            simp only [wpSegs, List.map_cons, List.map_nil, List.getD_cons_succ, List.getD_cons_zero]
            go_wp2_with fail
            refine And.intro (by kernel_rfl) ?_
            go_wp2_with fail
            go_meet
            exact ⟨by rw [Hz.out], Lib.hid (HO1.out.below ((Below.refl _ _).drew)), Lib.hid (E.out.step ((Below.refl _ _).drew))⟩
        · have Hz := Lib.hid (zB_none (s := s) (List.getElem?_eq_none (show T.length ≤ q by omega)))
          refine region_text [([0, 1, 2, 3, 4, 5, 6, 7, 8, 9, 10, 11, 12, 13, 14], false)] mixed (by kernel_rfl) ?_
          simp only [wpSegs, List.map_cons, List.map_nil, List.getD_cons_succ, List.getD_cons_zero]
          go_wp2_with fail
          refine And.intro (by kernel_rfl) ?_
          go_wp2_with fail
          go_meet
          exact ⟨by rw [Hz.out], Lib.hid (HO1.out.below ((Below.refl _ _).drew)), Lib.hid (E.out.step ((Below.refl _ _).drew))⟩
      case rest =>
        obtain ⟨rfl, HO2, E2⟩ := hcut
        obtain ⟨wb, hwb⟩ : ∃ wb, wb = wc := ⟨_, rfl⟩
        subst hwb
        clear E HO1 p0
        go_upto_if 54 with (fail)
        go_cut [8] (fun i wx => LyN w0 w f T V s v wa.heap.size oa oc i wx)
        case first =>
          have HB1 := Lib.hid (HW0.out.trans (E2.out.bel.mono HW0.out.size))
          cases hz : zB T q s with
          | true =>
            obtain ⟨x, hx, he⟩ := zB_true hz
            obtain ⟨ad, had, ⟨c0, c1, c2⟩, hlb⟩ := nds_at (HT.out.below HB1.out).sl hx
            have hlt : q < T.length := (List.getElem?_eq_some_iff.1 hx).1
            have hmem := List.mem_of_getElem? hx
            subst had
            have d9 := cells_at E2.out.bn
            have g9 := free_at E2.out.bn
            have z9 := heap_lt E2.out.bn
            simp only [ndcell, noNd] at d9
            have HM1 := Lib.hid (show MayT f x.kids ∧ MayLs x.ls ∧ (∀ u ∈ x.ls, u.l.items.length ≤ 1000000 ∧ u.l.tombs.length ≤ 1000000) ∧ BdT 1000000 f x.kids ∧ cntN f x ≤ 100001 from
              ⟨(HM.out.2 x hmem).2.2.1, (HM.out.2 x hmem).2.2.2, (HBd.out x hmem).1, (HBd.out x hmem).2, by have := in_cnt (f := f) hmem; have := Hcnt.out; omega⟩)
            have HTx := Lib.hid (HT.out.2 x hmem)
            have Hcut := Lib.hid (cut_at HM.out.1 (by rw [← HV.out]; exact HL.out) hx he)
            have He := Lib.hid he
            clear hz hx he hmem
            go_wp2_with fail
            go_meet
            exact ⟨q + 1, m, T.drop (q + 1), x, by omega, by go_num, Lib.hid rfl, Lib.hid (by rw [HV.out]; exact Hcut.out), He, Lib.hid HTx.out.1, Lib.hid HTx.out.2, HM1,
              Lib.hid (owns_chg HO2.out (((Chg.setCell wb ⟨wa.heap.size, 0, none⟩ _).set _ _ (by simp)).set _ _ (by simp)) (fun k hk hm => by have := (Hlt.out k hk).2; simp at hm; omega)), Lib.hid (E2.out.put x)⟩
          | false =>
            have Hcut := Lib.hid (cut_not HM.out.1 (by rw [← HV.out]; exact HL.out) HQ.out (zB_false hz))
            clear hz
            go_wp2_with fail
            go_meet
            exact ⟨q, 0, T.drop q, noNd s, hq, rfl, Lib.hid rfl, Lib.hid (by rw [HV.out]; exact Hcut.out), Lib.hid rfl, Lib.hid ⟨Sl.nil _ _, fun v hv => (by cases hv)⟩, Lib.hid (TrRd.nil _ _),
              Lib.hid ⟨MayT.nil _, ⟨fun v hv => (by cases hv), List.Pairwise.nil⟩, fun v hv => (by cases hv), (by cases f <;> simp [BdT, noNd, Nd.kids]), (by cases f <;> simp [cntN, cntT, noNd, Nd.ls, Nd.kids])⟩, HO2, E2⟩
        case rest =>
          clear HO HE HB0 HO2 E2
          obtain ⟨j, m', R, old, hj, rfl, HR, HC, Hon, HoL, HoT, HoM, HO3, E3⟩ := hcut
          obtain ⟨wd, hwd⟩ : ∃ wd, wd = wc := ⟨_, rfl⟩
          subst hwd
          have hszd := E3.out.bel.size
          have z9 := heap_lt E3.out.bn
          go_upto_if 63 with (fail)
          go_cut [] (fun wx => LyY w0 w f s P v wa.heap.size old oa oc V wx)
          case first =>
            by_cases hP1 : P = []
            · skip
              subst hP1
              have hll := HoL.out.1.2.1
              have hlc := HoL.out.1.2.2.1
              have hln : old.ls.length ≤ 100001 := by
                have h1 := HoM.out.2.2.2.2
                have h2 : cntN f old = 1 + old.ls.length + cntT f old.kids := rfl
                omega
              unfold maxLen at hlc
              go_upto_block 2 with (fail)
              go_cut [10, 11] (fun al k wx => ∃ (r : Nat) (aa : Option Addr) (ac : Nat) (U : List Lv), r ≤ old.ls.length ∧ k = .int .i64 r ∧ al = .slice aa U.length ac ∧ Hid (U = old.ls.take r) ∧ Hid (∀ x ∈ U, x.l.k < v.l.k) ∧ Hid (r = old.ls.length ∨ ∃ x, old.ls[r]? = some x ∧ ¬ x.l.k < v.l.k) ∧ Hid (OwnF wx (w.heap.size + 1) aa ac U) ∧ Hid (OwnN wx (w.heap.size + 1) oa oc V) ∧ Hid (LyE w wx v wa.heap.size old))
              case first =>
                go_wp2_with fail
                go_loopw [10, 11] (fun al k wr => ∃ (r : Nat) (aa : Option Addr) (ac : Nat) (U : List Lv), r ≤ old.ls.length ∧ k = .int .i64 r ∧ al = .slice aa U.length ac ∧ Hid (U = old.ls.take r) ∧ Hid (∀ x ∈ U, x.l.k < v.l.k) ∧ Hid (OwnF wr (w.heap.size + 1) aa ac U) ∧ Hid (OwnN wr (w.heap.size + 1) oa oc V) ∧ Hid (LyE w wr v wa.heap.size old)) (fun _ k _ => old.ls.length - (intOf k).toNat)
                case atStart => exact ⟨0, none, 0, [], Nat.zero_le _, rfl, rfl, Lib.hid rfl, Lib.hid (by simp), Lib.hid (OwnF.nil _ _), HO3, E3⟩
                case round =>
                  obtain ⟨r, aa, ac, U, hr, rfl, rfl, HU, HL2, HF, HN, E⟩ := hrel
                  have d9 := cells_at E.out.bn
                  have d5 := cells_at E.out.b5
                  simp only [ndcell] at d9
                  simp only [lcells] at d5
                  have HBr := Lib.hid (HW0.out.trans (E.out.bel.mono HW0.out.size))
                  have hszr := E.out.bel.size
                  have zb5 := heap_lt E.out.b5
                  have zb9 := heap_lt E.out.bn
                  have hUl : U.length ≤ 100001 := by rw [HU.out, List.length_take]; omega
                  by_cases hlt : r < old.ls.length
                  · obtain ⟨x, hx⟩ : ∃ x, old.ls[r]? = some x := ⟨old.ls[r], by simp [hlt]⟩
                    obtain ⟨al, hal, ⟨e0, e1, e2, e3, e4, e5, e6, e7, e8⟩, hlv, _⟩ := (HoL.out.below HBr.out).at hx
                    rw [hal] at d9
                    have Hx := Lib.hid hx
                    clear hx hal
                    by_cases hc : x.l.k < v.l.k
                    · have Hc := Lib.hid hc
                      go_wp2_with fail
                      refine region_text [([0, 1, 2, 3, 4, 5, 6, 7, 8, 9, 10, 11, 12, 13, 14, 15], false)] mixed (by kernel_rfl) ?_
                      simp only [wpSegs, List.map_cons, List.map_nil, List.getD_cons_succ, List.getD_cons_zero]
                      go_wp2_with fail
                      refine And.intro (by kernel_rfl) ?_
                      go_wp2_with (at_builtin; go_must (refine wpList_appF rfl _ _ rfl (w.heap.size + 1) aa ac U rfl ?o1 (some ⟨wr.heap.size, 0, none⟩) 1 [x] rfl ?s1 ?n1 ?b1 ?_))
                      case o1 => exact HF.out.below (((Below.refl _ _).alloc (Nat.le_refl _) _).drew)
                      case s1 => exact lv_one x (heap_new wr _)
                      case n1 => simp; omega
                      case b1 => simp; omega
                      intro v' a' c' w2 hv' ho2 hb2 hC2 _
                      have hW : Below wr.heap.size wr (wr.alloc (.cells (lcells x.l x.ia x.ic x.ta x.tc) 48)).drew := ((Below.refl _ _).alloc (Nat.le_refl _) _).drew
                      have hF0 := HF.out.below hW
                      have hN0 := HN.out.below hW
                      have hE0 := E.out.step hW
                      have HO2 := Lib.hid ho2
                      have HN2 := Lib.hid (show OwnN w2 (w.heap.size + 1) oa oc V from owns_chg hN0 hC2 (fun k hk => owns_ne hN0 hF0 (by decide) k hk))
                      have HE2 := Lib.hid (show LyE w w2 v wa.heap.size old from ⟨(hb2.block _ (by omega)).trans hE0.b5, heap_chg hE0.bn hC2 (own_blk hF0 hE0.bn (by decide)), hE0.lo, hE0.bel.trans (hb2.mono (by omega))⟩)
                      have HU2 := Lib.hid (show v' = old.ls.take (r + 1) by rw [hv', HU.out, take_snoc' Hx.out])
                      have HL3 := Lib.hid (show ∀ y ∈ v', y.l.k < v.l.k from fun y hy => by
                        rw [hv', List.mem_append, List.mem_singleton] at hy
                        rcases hy with hy | rfl
                        · exact HL2.out y hy
                        · exact Hc.out)
                      clear hv' ho2 hb2 hC2 hW hF0 hN0 hE0 d9 d5
                      go_wp2_with fail
                      go_roundw
                      case rel => exact ⟨r + 1, a', c', v', by omega, by go_num, rfl, HU2, HL3, HO2, HN2, HE2⟩
                      case measure => simp [intOf]; omega
                    · have hc1 : decide (x.l.k < v.l.k) = false := by simpa using hc
                      have Hc := Lib.hid hc
                      go_wp2_with fail
                      refine region_text [([0, 1, 2, 3, 4, 5, 6, 7, 8, 9, 10, 11, 12, 13, 14, 15], false)] mixed (by kernel_rfl) ?_
                      simp only [wpSegs, List.map_cons, List.map_nil, List.getD_cons_succ, List.getD_cons_zero]
                      go_wp2_with fail
                      refine And.intro (by kernel_rfl) ?_
                      go_wp2_with fail
                      go_meet
                      exact ⟨r, aa, ac, U, hr, rfl, rfl, HU, HL2, Lib.hid (.inr ⟨x, Hx.out, Hc.out⟩), Lib.hid (HF.out.below ((Below.refl _ _).drew)), Lib.hid (HN.out.below ((Below.refl _ _).drew)), Lib.hid (E.out.step ((Below.refl _ _).drew))⟩
                  · skip
                    go_wp2_with fail
                    refine region_text [([0, 1, 2, 3, 4, 5, 6, 7, 8, 9, 10, 11, 12, 13, 14, 15], false)] mixed (by kernel_rfl) ?_
                    simp only [wpSegs, List.map_cons, List.map_nil, List.getD_cons_succ, List.getD_cons_zero]
                    go_wp2_with fail
                    refine And.intro (by kernel_rfl) ?_
                    go_wp2_with fail
                    go_meet
                    exact ⟨r, aa, ac, U, hr, rfl, rfl, HU, HL2, Lib.hid (.inl (by omega)), Lib.hid (HF.out.below ((Below.refl _ _).drew)), Lib.hid (HN.out.below ((Below.refl _ _).drew)), Lib.hid (E.out.step ((Below.refl _ _).drew))⟩
              case rest =>
                obtain ⟨r, aa, ac, U, hr, rfl, rfl, HU, HL2, HQ2, HF, HN, E⟩ := hcut
                obtain ⟨wf, hwf⟩ : ∃ wf, wf = wc := ⟨_, rfl⟩
                subst hwf
                have hUl : U.length ≤ 100001 := by rw [HU.out, List.length_take]; omega
                go_upto_region 17 with (fail)
                go_cut [112] (fun z wx => z = .bool (kB old.ls r v.l.k) ∧ Hid (OwnF wx (w.heap.size + 1) aa ac U) ∧ Hid (OwnN wx (w.heap.size + 1) oa oc V) ∧ Hid (LyE w wx v wa.heap.size old))
                case first =>
                  have d9 := cells_at E.out.bn
                  have d5 := cells_at E.out.b5
                  simp only [ndcell] at d9
                  simp only [lcells] at d5
                  have HBr := Lib.hid (HW0.out.trans (E.out.bel.mono HW0.out.size))
                  have hszr := E.out.bel.size
                  have zb5 := heap_lt E.out.b5
                  have zb9 := heap_lt E.out.bn
                  by_cases hlt : r < old.ls.length
                  · obtain ⟨x, hx⟩ : ∃ x, old.ls[r]? = some x := ⟨old.ls[r], by simp [hlt]⟩
                    obtain ⟨al, hal, ⟨e0, e1, e2, e3, e4, e5, e6, e7, e8⟩, hlv, _⟩ := (HoL.out.below HBr.out).at hx
                    rw [hal] at d9
                    have hkb := kB_of (k := v.l.k) hx
                    clear hx hal
                    by_cases he : x.l.k = v.l.k
                    · have Hz := Lib.hid (show kB old.ls r v.l.k = true by rw [hkb]; simpa using he)
                      have q1 : (x.l.k == v.l.k) = true := by rw [he]; simp
                      clear hkb he
                      go_wp2_with fail
                      refine region_text [([0, 1, 2, 3, 4, 5, 6, 7, 8, 9, 10, 11, 12, 13, 14, 15], false)] mixed (by kernel_rfl) ?_
                      simp only [wpSegs, List.map_cons, List.map_nil, List.getD_cons_succ, List.getD_cons_zero]
                      go_wp2_with fail
                      refine And.intro (by kernel_rfl) ?_
                      go_wp2_with fail
                      go_meet
                      exact ⟨by rw [Hz.out], Lib.hid (HF.out.below ((Below.refl _ _).drew)), Lib.hid (HN.out.below ((Below.refl _ _).drew)), Lib.hid (E.out.step ((Below.refl _ _).drew))⟩
                    · have Hz := Lib.hid (show kB old.ls r v.l.k = false by rw [hkb]; simpa using he)
                      have q1 : (x.l.k == v.l.k) = false := by simpa using he
                      clear hkb he
                      go_wp2_with fail
                      refine region_text [([0, 1, 2, 3, 4, 5, 6, 7, 8, 9, 10, 11, 12, 13, 14, 15], false)] mixed (by kernel_rfl) ?_
                      simp only [wpSegs, List.map_cons, List.map_nil, List.getD_cons_succ, List.getD_cons_zero]
                      go_wp2_with fail
                      refine And.intro (by kernel_rfl) ?_
                      go_wp2_with fail
                      go_meet
                      exact ⟨by rw [Hz.out], Lib.hid (HF.out.below ((Below.refl _ _).drew)), Lib.hid (HN.out.below ((Below.refl _ _).drew)), Lib.hid (E.out.step ((Below.refl _ _).drew))⟩
                  · have Hz := Lib.hid (kB_none (k := v.l.k) (List.getElem?_eq_none (show old.ls.length ≤ r by omega)))
                    go_wp2_with fail
                    refine region_text [([0, 1, 2, 3, 4, 5, 6, 7, 8, 9, 10, 11, 12, 13, 14, 15], false)] mixed (by kernel_rfl) ?_
                    simp only [wpSegs, List.map_cons, List.map_nil, List.getD_cons_succ, List.getD_cons_zero]
                    go_wp2_with fail
                    refine And.intro (by kernel_rfl) ?_
                    go_wp2_with fail
                    go_meet
                    exact ⟨by rw [Hz.out], Lib.hid (HF.out.below ((Below.refl _ _).drew)), Lib.hid (HN.out.below ((Below.refl _ _).drew)), Lib.hid (E.out.step ((Below.refl _ _).drew))⟩
                case rest =>
                  clear HF HN E
                  obtain ⟨rfl, HF, HN, E⟩ := hcut
                  obtain ⟨wg, hwg⟩ : ∃ wg, wg = wc := ⟨_, rfl⟩
                  subst hwg
                  go_upto_if 112 with (fail)
                  go_cut [11] (fun k wx => ∃ (r2 : Nat), r2 ≤ old.ls.length ∧ k = .int .i64 r2 ∧ Hid (∀ x ∈ old.ls.drop r2, v.l.k < x.l.k) ∧ Hid (old.ls = U ++ old.ls.drop r2 ∨ ∃ o, old.ls = U ++ o :: old.ls.drop r2 ∧ o.l.k = v.l.k) ∧ Hid (OwnF wx (w.heap.size + 1) aa ac U) ∧ Hid (OwnN wx (w.heap.size + 1) oa oc V) ∧ Hid (LyE w wx v wa.heap.size old))
                  case first =>
                    cases hz : kB old.ls r v.l.k with
                    | true =>
                      obtain ⟨h1, h2, h3⟩ := kB_true HoM.out.2.1 HU.out hz
                      have H1 := Lib.hid h1
                      have H2 := Lib.hid h2
                      clear hz h1 h2
                      go_wp2_with fail
                      go_meet
                      exact ⟨r + 1, by omega, by go_num, H1, Lib.hid (.inr H2.out), HF, HN, E⟩
                    | false =>
                      obtain ⟨h1, h2⟩ := kB_false HoM.out.2.1 HU.out HQ2.out hz
                      have H1 := Lib.hid h1
                      have H2 := Lib.hid h2
                      clear hz h1 h2
                      go_wp2_with fail
                      go_meet
                      exact ⟨r, hr, rfl, H1, Lib.hid (.inl H2.out), HF, HN, E⟩
                  case rest =>
                    clear HF HN E
                    obtain ⟨r2, hr2, rfl, HR2, HS2, HF, HN, E⟩ := hcut
                    obtain ⟨wh, hwh⟩ : ∃ wh, wh = wc := ⟨_, rfl⟩
                    subst hwh
                    obtain ⟨fa, fc, u, hu, hrunF, hFs⟩ := cutF old.la old.lc old.ls r2 hr2 hll
                    have d9 := cells_at E.out.bn
                    have d5 := cells_at E.out.b5
                    simp only [ndcell] at d9
                    simp only [lcells] at d5
                    have HBr := Lib.hid (HW0.out.trans (E.out.bel.mono HW0.out.size))
                    have hszr := E.out.bel.size
                    have zb5 := heap_lt E.out.b5
                    have zb9 := heap_lt E.out.bn
                    have hul2 : u.length ≤ 100001 := by rw [hu, List.length_drop]; omega
                    have Hu := Lib.hid hu
                    clear hu
                    go_wp2_with fail
                    refine region_tree_at (fun k => k = w.heap.size ∨ k = wa.heap.size) (sgOf [([0, 1, 4, 5, 6, 7, 2], false), ([3], true), ([8, 9, 10], false)]) mixed (by kernel_rfl) ?_
                    simp only [sgOf, wpSgB, List.map_cons, List.map_nil, List.getD_cons_succ, List.getD_cons_zero]
                    go_wp2_with (at_builtin; go_must (refine wpList_appF rfl _ _ rfl (w.heap.size + 1) aa ac U rfl ?o1 (some ⟨wh.heap.size, 0, none⟩) 1 [v] rfl ?s1 ?n1 ?b1 ?_))
                    case o1 => exact HF.out.below (((Below.refl _ _).alloc (Nat.le_refl _) _).drew)
                    case s1 => exact lv_one v (heap_new wh _)
                    case n1 => simp; omega
                    case b1 => simp; omega
                    intro v1 a1 c1 w5 hv1 ho1 hb1 hC1 hob1
                    have hWe : Below wh.heap.size wh (wh.alloc (.cells (lcells v.l v.ia v.ic v.ta v.tc) 48)).drew := ((Below.refl _ _).alloc (Nat.le_refl _) _).drew
                    have hF0 := HF.out.below hWe
                    have hN0 := HN.out.below hWe
                    have hE0 := E.out.step hWe
                    have hHeld := held_two hE0.b5 hE0.bn hC1 (fun hm => by have := (owns_lt hF0 _ hm).1; omega) (own_blk hF0 hE0.bn (by decide))
                    have HN5 := Lib.hid (show OwnN w5 (w.heap.size + 1) oa oc V from owns_chg hN0 hC1 (fun k hk => owns_ne hN0 hF0 (by decide) k hk))
                    have HE5 := Lib.hid (show LyE w w5 v wa.heap.size old from ⟨(hb1.block _ (by omega)).trans hE0.b5, heap_chg hE0.bn hC1 (own_blk hF0 hE0.bn (by decide)), hE0.lo, hE0.bel.trans (hb1.mono (by omega))⟩)
                    have hs5 : wh.heap.size + 1 ≤ w5.heap.size := by have := hC1.size; simp at this; omega
                    have Ho1 := Lib.hid ho1
                    have Hv1 := Lib.hid hv1
                    have hl1 : v1.length ≤ 100002 := by rw [hv1]; simp; omega
                    have H5 := Lib.hid (hFs w5 (HoL.out.below (HW0.out.trans (HE5.out.bel.mono HW0.out.size))).1)
                    clear hv1 ho1 hb1 hC1 hob1 hWe hF0 hN0 hE0 d9 d5
                    go_wp2_with fail
                    refine And.intro hHeld ?_
                    clear hHeld
                    go_wp2_with (at_builtin; go_must (refine wpList_appF rfl _ _ rfl (w.heap.size + 1) a1 c1 v1 rfl ?o2 fa fc u rfl ?s2 ?n2 ?b2 ?_))
                    case o2 => exact Ho1.out
                    case s2 => exact H5.out
                    case n2 => omega
                    case b2 => omega
                    intro v2 a2 c2 w6 hv2 ho2 hb2 hC2 _
                    have HN6 := Lib.hid (show OwnN w6 (w.heap.size + 1) oa oc V from owns_chg HN5.out hC2 (fun k hk => owns_ne HN5.out Ho1.out (by decide) k hk))
                    have HE6 := Lib.hid (show LyE w w6 v wa.heap.size old from ⟨(hb2.block _ (by omega)).trans HE5.out.b5, heap_chg HE5.out.bn hC2 (own_blk Ho1.out HE5.out.bn (by decide)), HE5.out.lo, HE5.out.bel.trans (hb2.mono (by omega))⟩)
                    have Hv2 := Lib.hid (show v2 = (U ++ [v]) ++ u by rw [hv2, Hv1.out])
                    have Ho2 := Lib.hid ho2
                    clear hv2 ho2 hb2 hC2
                    have d9 := cells_at HE6.out.bn
                    have g9 := free_at HE6.out.bn
                    have z6 := heap_lt HE6.out.bn
                    simp only [ndcell] at d9
                    go_wp2_with fail
                    refine And.intro (And.intro (by kernel_rfl) (reads_of ?rds)) ?_
                    case rds => exact ⟨trivial, .inl rfl, trivial, trivial, trivial, .inr rfl, trivial, trivial, trivial, trivial, trivial, trivial⟩
                    go_wp2_with fail
                    go_meet
                    exact LyY.leaf_ Hon.out HoL.out HoT.out HE6.out HN6.out Ho2.out HW0.out Hlt.out Hv.out Hmv.out Hbv.out HoM.out.1 HoM.out.2.1 HoM.out.2.2.1 HoM.out.2.2.2.1 Hv2.out HL2.out (by rw [Hu.out]; exact HR2.out) (by rw [Hu.out]; exact HS2.out)
            · have hP2 : 1 ≤ P.length := by
                cases P with
                | nil => exact absurd rfl hP1
                | cons a b => simp
              have Hnp := Lib.hid (HNm.out)
              have hB3 : Below w0.heap.size w0 wd := HW0.out.trans (E3.out.bel.mono HW0.out.size)
              have HB3 := Lib.hid hB3
              obtain ⟨sa, sc, u, hu, hrunS, hSs⟩ := cutS (some ap) pc (s :: P) 1 (by simp) (by simpa using hPl)
              obtain rfl : u = P := hu
              have hrun1 : ∀ W : World, (Instr.sliceAt 39 (.slice (some ap) (u.length + 1) pc) (some (.int .i64 1)) none none).run Tryz.prog W = .ok (.slice sa u.length sc) W := hrunS
              have HSs := Lib.hid (hSs _ HP.out)
              have hcn : cntT f old.kids ≤ 100000 := by
                have h1 := HoM.out.2.2.2.2
                have h2 : cntN f old = 1 + old.ls.length + cntT f old.kids := rfl
                omega
              have Hcn := Lib.hid hcn
              clear hrunS hSs hcn hB3
              have d9 := cells_at E3.out.bn
              have g9 := free_at E3.out.bn
              have d5 := cells_at E3.out.b5
              have z5 := heap_lt E3.out.b5
              simp only [ndcell] at d9
              simp only [lcells] at d5
              go_wp2_with fail
              refine region_text [([0, 1, 2, 3, 4, 5, 6, 7], false)] mixed (by kernel_rfl) ?_
              simp only [wpSegs, List.map_cons, List.map_nil, List.getD_cons_succ, List.getD_cons_zero]
              go_wp2_with fail
              refine (ih m' old.ba old.bc old.kids sa sc u v w0 _ HoT.out HoM.out.1 HoM.out.2.2.2.1 HSs.out hP2 hPf (fun t ht => HNm.out t (.tail _ ht)) Hv.out HB3.out.drew Hmv.out Hbv.out Hcn.out).mono ?_
              intro e w4 hto
              obtain ⟨a', c', B', mB, rfl, hLT, hcB, hbB, hTB, hb4⟩ := hto
              have hstep : Below wd.heap.size wd w4 := ((Below.refl _ _).drew).trans hb4
              have E4 := Lib.hid (E3.out.step hstep)
              have HO4 := Lib.hid (HO3.out.below hstep)
              have HLT := Lib.hid hLT
              have HcB := Lib.hid hcB
              have HbB := Lib.hid hbB
              have HTB := Lib.hid hTB
              have hs4 := hstep.size
              clear hLT hcB hbB hTB hb4 hstep d9 g9 d5 z5 hrun1
              have d9 := cells_at E4.out.bn
              have g9 := free_at E4.out.bn
              have z4 := heap_lt E4.out.bn
              simp only [ndcell] at d9
              go_wp2_with fail
              refine And.intro (by kernel_rfl) ?_
              go_wp2_with fail
              go_meet
              exact LyY.rec_ hP1 Hon.out HoL.out E4.out HO4.out HW0.out Hlt.out z9 HTB.out HLT.out HcB.out HbB.out HoM.out.2.1 HoM.out.2.2.1
          case rest =>
            obtain ⟨y, m2, Hyn, HyM, HO4, E4, HyP⟩ := hcut
            obtain ⟨we, hwe⟩ : ∃ we, we = wc := ⟨_, rfl⟩
            subst hwe
            have HB4 := Lib.hid (HW0.out.trans (E4.out.bel.mono HW0.out.size))
            have hsze := E4.out.bel.size
            have z4 := heap_lt E4.out.bn
            obtain ⟨ta, tc, u, hu, hrunT, hTs⟩ := cutN a c T j hj hlen
            obtain rfl : u = R := hu.trans HR.out.symm
            have hTs2 := hTs
            have hul : u.length ≤ 100000 := by rw [hu, List.length_drop]; omega
            clear hTs hu
            have d9 := cells_at E4.out.bn
            simp only [ndcell] at d9
            go_wp2_with fail
            refine region_text [([0, 1, 4, 5, 6, 2, 3, 7, 8], false)] mixed (by kernel_rfl) ?_
            simp only [wpSegs, List.map_cons, List.map_nil, List.getD_cons_succ, List.getD_cons_zero]
            go_wp2_with (at_builtin; go_must (refine wpList_appN rfl _ _ rfl (w.heap.size + 1) oa oc V rfl ?o1 (some ⟨we.heap.size, 0, none⟩) 1 [y] rfl ?s1 ?n1 ?b1 ?_))
            case o1 => exact HO4.out.below (((Below.refl _ _).alloc (Nat.le_refl _) _).drew)
            case s1 => exact nd_one y (heap_new we _)
            case n1 => simp; omega
            case b1 => simp; omega
            intro v1 a1 c1 w5 hv1 ho1 hb1 hC1 hob1
            have hWe : Below we.heap.size we (we.alloc (.cells (ndcell y).toArray 80)).drew := ((Below.refl _ _).alloc (Nat.le_refl _) _).drew
            have hs5 : we.heap.size + 1 ≤ w5.heap.size := by have := hC1.size; simp at this; omega
            have hWs : we.heap.size ≤ we.heap.size + 1 := by omega
            have Ho1 := Lib.hid ho1
            have Hb1 := Lib.hid hb1
            have HC1 := Lib.hid hC1
            have Hob1 := Lib.hid hob1
            have Hv1 := Lib.hid hv1
            have HWe := Lib.hid hWe
            have hl1 : v1.length ≤ 100001 := by rw [hv1]; simp; omega
            have HS5 := Lib.hid (below2 HB4.out hWe HB4.out.size)
            have H5 := Lib.hid (show Sl w5 3 ta u.length tc (u.flatMap ndcell) from (hTs2 _ ((HT.out.below (HS5.out.trans (hb1.mono (by omega)))).sl)))
            clear ho1 hb1 hC1 hob1 hv1 hWe d9
            go_wp2_with (at_builtin; go_must (refine wpList_appN rfl _ _ rfl (w.heap.size + 1) a1 c1 v1 rfl ?o2 ta tc u rfl ?s2 ?n2 ?b2 ?_))
            case o2 => exact Ho1.out
            case s2 => exact H5.out
            case n2 => omega
            case b2 => omega
            intro v2 a2 c2 w6 hv2 ho2 hb2 hC2 _
            have Hv2 := Lib.hid (show v2 = (V ++ [y]) ++ u by rw [hv2, Hv1.out])
            have HBf := Lib.hid (show Below w.heap.size w w6 from ((below2 E4.out.bel HWe.out hsze).trans (Hb1.out.mono (by omega))).trans (hb2.mono (by omega)))
            have hs6 := hC2.size
            have H6 := Lib.hid (show ∀ k, k < we.heap.size → k ∉ ob oa → w6.heap[k]? = we.heap[k]? from fun k hk hn => by
              rw [hC2.block k (by omega) (fun h => (Hob1.out k h).elim hn (fun h => by omega)), HC1.out.block k (by simp; omega) hn]
              exact HWe.out.block k hk)
            have Ho2 := Lib.hid ho2
            clear hv2 ho2 hb2 hC2
            go_wp2_with fail
            refine And.intro (by kernel_rfl) ?_
            go_wp2_with fail
            go_ret
            exact layT_end HT.out HM.out HBd.out (HNm.out s (.head _)) HC.out Hyn.out HyM.out HyP.out HW0.out HBf.out (fun k hk => (Hlt.out k hk).1) (by omega) H6.out Hv2.out Ho2.out
end Go.Proofs.YtmabjghjkgicgaaGreat
