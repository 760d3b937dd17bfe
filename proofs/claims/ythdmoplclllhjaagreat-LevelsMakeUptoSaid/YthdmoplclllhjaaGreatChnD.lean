/- The plain law of LevelsShape: levels rise by parents; those of one level are beside each other; the chain. No program in sight. | slices.MinFunc and slices.Reverse of dots, levels.Chain$1: the contracts. | slices.Reverse of dots: the contract. | levels.Chain$1: the contract. | levels.Chain: the contract. -/
import Derived.Test.YthdmoplclllhjaaGreatLevC
import Derived.Test.YthdmoplclllhjaaGreatWitA
import Derived.Test.YthdmoplclllhjaaGreatGraM
import Derived.Test.YthdmoplclllhjaaGreatGraV
/- ChnA -/
/- ShpP -/
namespace Go.Proofs.YthdmoplclllhjaaGreat
open Go.RowKit
set_option linter.unusedVariables false
set_option linter.unusedSimpArgs false

theorem lvFold_keep {T : List Cm} {d : Dt} : ∀ {f : Dt → Option Nat}, (∀ c ∈ T, c.d ≠ d) → T.foldl lvStep f d = f d := by
  induction T with
  | nil => intro f _; rfl
  | cons c T ih =>
    intro f h
    rw [List.foldl_cons, ih (fun x hx => h x (by simp [hx]))]
    unfold lvStep
    rw [if_neg (fun e => h c (by simp) e.symm)]
theorem lvF_pre {S : List Cm} {q : Nat} {d : Dt} (h : ∀ c ∈ S.drop q, c.d ≠ d) : lvF S d = lvF (S.take q) d := by
  have e : lvF S = (S.drop q).foldl lvStep (lvF (S.take q)) := by
    unfold lvF
    rw [← List.foldl_append, List.take_append_drop]
  rw [e, lvFold_keep h]
theorem lvF_cut {S : List Cm} {q : Nat} {c : Cm} (hc : S[q]? = some c) (hn : (S.map (·.d)).Nodup) : lvF S c.d = some (lvMax (lvF (S.take q)) c.ps + 1) := by
  have h1 : ∀ y ∈ S.drop (q + 1), y.d ≠ c.d := fun y hy e => by
    obtain ⟨i, hi⟩ := List.getElem?_of_mem hy
    rw [List.getElem?_drop] at hi
    obtain ⟨k1, e1⟩ := List.getElem?_eq_some_iff.1 hi
    obtain ⟨k2, e2⟩ := List.getElem?_eq_some_iff.1 hc
    have h2 := List.pairwise_iff_getElem.1 hn q (q + 1 + i) (by simpa using k2) (by simpa using k1) (by omega)
    simp only [List.getElem_map] at h2
    rw [e1, e2] at h2
    exact h2 e.symm
  rw [lvF_pre h1, take_snoc' hc, lvF_snoc]
  unfold lvStep
  rw [if_pos rfl]
theorem lvMax_congr {f g : Dt → Option Nat} {ps : List Dt} (h : ∀ p ∈ ps, f p = g p) : lvMax f ps = lvMax g ps := by
  induction ps using snoc_rec with
  | h0 => rfl
  | h1 ps p ih => rw [lvMax_snoc, lvMax_snoc, ih (fun x hx => h x (by simp [hx])), h p (by simp)]
/-- parents that are there, are ahead -/
def AheadS (S : List Cm) : Prop := ∀ q c, S[q]? = some c → ∀ p ∈ c.ps, (∀ y ∈ S, y.d ≠ p) ∨ ∃ y ∈ S.take q, y.d = p
theorem AheadS.of {F : List Dt} {L S : List Cm} {vv : List Dt} (h : HistP F L vv) (hp : S.Perm L) (hs : SortedC S) : AheadS S := fun q c hc p hpp => by
  rcases h.ahead hp hs hc hpp with ⟨h1, _⟩ | ⟨y, hy, hyd, _⟩
  · refine .inl fun y hy e => ?_
    have h2 := h.out y (hp.mem_iff.1 hy)
    rw [e, h1] at h2; cases h2
  · exact .inr ⟨y, hy, hyd⟩
/-- commits in their order, with what holds of them -/
structure LvH (S : List Cm) : Prop where
  dag : DagP S
  ahead : AheadS S
theorem LvH.of {F : List Dt} {L S : List Cm} {vv : List Dt} (hi : HistI F L) (h : HistP F L vv) (hp : S.Perm L) (hs : SortedC S) : LvH S := ⟨DagP.of hi h hp, AheadS.of h hp hs⟩
theorem LvH.at_ {S : List Cm} (h : LvH S) {c : Cm} (hc : c ∈ S) : lvF S c.d = some (lvMax (lvF S) c.ps + 1) := by
  obtain ⟨q, hq⟩ := List.getElem?_of_mem hc
  have hn := h.dag.nodup
  rw [lvF_cut hq hn]
  congr 2
  refine lvMax_congr fun p hp => ?_
  rcases h.ahead q c hq p hp with h1 | ⟨y, hy, rfl⟩
  · rw [lvF_none.2 h1, lvF_none.2 (fun y hy => h1 y (List.mem_of_mem_take hy))]
  · refine (lvF_pre fun z hz e => ?_).symm
    obtain ⟨i, hi⟩ := List.getElem?_of_mem hy
    obtain ⟨j, hj⟩ := List.getElem?_of_mem hz
    rw [List.getElem?_drop] at hj
    rw [List.getElem?_take] at hi
    split at hi
    · rename_i hlt
      obtain ⟨k1, e1⟩ := List.getElem?_eq_some_iff.1 hi
      obtain ⟨k2, e2⟩ := List.getElem?_eq_some_iff.1 hj
      have h2 := List.pairwise_iff_getElem.1 hn i (q + j) (by simpa using k1) (by simpa using k2) (by omega)
      simp only [List.getElem_map] at h2
      rw [e1, e2] at h2
      exact h2 e.symm
    · cases hi
theorem LvH.down {S : List Cm} (h : LvH S) {c : Cm} (hc : c ∈ S) {n : Nat} (hl : lvF S c.d = some (n + 2)) : ∃ p ∈ c.ps, lvF S p = some (n + 1) := by
  rw [h.at_ hc] at hl
  injection hl with hl
  have e : lvMax (lvF S) c.ps = n + 1 := by omega
  rcases lvMax_has (lvF S) c.ps with h1 | ⟨d, hd, h1⟩
  · omega
  · exact ⟨d, hd, by rw [h1, e]⟩
/-- each level has one -/
theorem LvH.all {S : List Cm} (h : LvH S) {n : Nat} : ∀ (k : Nat) {d : Dt}, lvF S d = some (n + 1 + k) → ∃ d, lvF S d = some (n + 1) := by
  intro k
  induction k with
  | zero => intro d hd; exact ⟨d, hd⟩
  | succ k ih =>
    intro d hd
    obtain ⟨c, hc, rfl⟩ := lvF_mem (S := S) (d := d) (by rw [hd]; rfl)
    obtain ⟨p, hp, h1⟩ := h.down hc (n := n + k) (by rw [hd]; congr 1; omega)
    exact ih (d := p) (by rw [h1]; congr 1; omega)
theorem LvH.row {S : List Cm} (h : LvH S) {V : List (List Dt)} (hV : LevP (lvF S) V) {i : Nat} {l : List Dt} (hl : V[i]? = some l) : ∃ d, d ∈ l := by
  have hi := (List.getElem?_eq_some_iff.1 hl).1
  rcases hV.tight with h1 | ⟨d, h1⟩
  · omega
  · obtain ⟨k, hk⟩ : ∃ k, V.length = i + 1 + k := ⟨V.length - (i + 1), by omega⟩
    rw [hk] at h1
    obtain ⟨d', hd'⟩ := h.all k h1
    exact ⟨d', (hV.on i l hl d').2 hd'⟩
/-- a chain: one commit a level, each a parent of the next one, the least there -/
structure ChnP (S : List Cm) (V : List (List Dt)) (C : List Dt) : Prop where
  len : C.length = V.length
  lev : ∀ i d, C[i]? = some d → lvF S d = some (i + 1)
  top : ∀ l, V[V.length - 1]? = some l → C[V.length - 1]? = l[0]?
  step : ∀ i d c, C[i]? = some d → C[i + 1]? = some c.d → c ∈ S → d ∈ c.ps ∧ ∀ p ∈ c.ps, lvF S p = some (i + 1) → lessD p d = false
theorem beside_comm (a b : Cm) : besideP a b = besideP b a := by unfold besideP; rw [Bool.and_comm]
end Go.Proofs.YthdmoplclllhjaaGreat

/- ChnA -/
namespace Go.Proofs.YthdmoplclllhjaaGreat
open Go.RowKit
set_option linter.unusedVariables false
set_option linter.unusedSimpArgs false

/-- the least of some dots -/
def MinTo (w : World) (l : List Dt) (e : Ending) (w' : World) : Prop := ∃ m : Dt, e = .returned (.agg #[.int .u8 m.1.1, .int .u32 m.1.2, .int .u64 m.2]) ∧ m ∈ l ∧ (∀ p ∈ l, lessD p m = false) ∧ Below w.heap.size w w'
structure MinE (w wr : World) (l : List Dt) (q : Nat) (m : Dt) : Prop where
  b0 : wr.heap[w.heap.size]? = some (.cells #[.int .u8 0, .int .u32 0, .int .u64 0] 41 (0, 0))
  b1 : wr.heap[w.heap.size + 1]? = some (.cells #[.int .u8 m.1.1, .int .u32 m.1.2, .int .u64 m.2] 41 (0, 0))
  mem : m ∈ l
  least : ∀ p ∈ l.take q, lessD p m = false
  bel : Below w.heap.size w wr
theorem MinE.step {w wr w2 : World} {l : List Dt} {q : Nat} {m : Dt} (h : MinE w wr l q m) (hb : Below wr.heap.size wr w2) : MinE w w2 l q m :=
  ⟨(hb.block _ (heap_lt h.b0)).trans h.b0, (hb.block _ (heap_lt h.b1)).trans h.b1, h.mem, h.least, below2 h.bel hb h.bel.size⟩
theorem three_at {W : World} {b : Nat} {a0 a1 a2 : Value} {t : TypeId} (h : W.heap[b]? = some (.cells #[a0, a1, a2] t (0, 0))) (x0 x1 x2 : Value) :
    (((W.setCell ⟨b, 0, none⟩ x0).setCell ⟨b, 1, none⟩ x1).setCell ⟨b, 2, none⟩ x2).heap[b]? = some (.cells #[x0, x1, x2] t (0, 0)) := by
  have h6 := Go.heap_setCell_same _ b 2 _ t x2 (Go.heap_setCell_same _ b 1 _ t x1 (Go.heap_setCell_same W b 0 _ t x0 h))
  simp only [List.setIfInBounds_toArray, List.set_cons_zero, List.set_cons_succ] at h6
  exact h6
theorem chg_three {W : World} {b : Nat} (x0 x1 x2 : Value) : Chg [b] W (((W.setCell ⟨b, 0, none⟩ x0).setCell ⟨b, 1, none⟩ x1).setCell ⟨b, 2, none⟩ x2) :=
  (((Chg.refl _ _).put _ _ (by simp)).put _ _ (by simp)).put _ _ (by simp)
theorem MinE.put {w wr : World} {l : List Dt} {q : Nat} {m d : Dt} (h : MinE w wr l q m) (hd : l[q]? = some d) (hlt : lessD d m = true) :
    MinE w (((wr.setCell ⟨w.heap.size + 1, 0, none⟩ (.int .u8 d.1.1)).setCell ⟨w.heap.size + 1, 1, none⟩ (.int .u32 d.1.2)).setCell ⟨w.heap.size + 1, 2, none⟩ (.int .u64 d.2)) l (q + 1) d := by
  have hC := chg_three (W := wr) (b := w.heap.size + 1) (.int .u8 d.1.1) (.int .u32 d.1.2) (.int .u64 d.2)
  refine ⟨heap_chg h.b0 hC (by simp), three_at h.b1 _ _ _, List.mem_of_getElem? hd, fun p hp => ?_, h.bel.trans (hC.below h.bel.size (by simp))⟩
  rw [take_snoc' hd] at hp
  rcases List.mem_append.1 hp with hp | hp
  · have h1 := h.least p hp
    rw [← Bool.not_eq_true]
    intro h2
    have h3 : lessD p m = true := lessD_trans h2 hlt
    rw [h1] at h3; cases h3
  · rw [List.mem_singleton] at hp; subst hp; exact lessD_irrefl p
theorem MinE.keep {w wr : World} {l : List Dt} {q : Nat} {m d : Dt} (h : MinE w wr l q m) (hd : l[q]? = some d) (hlt : lessD d m = false) : MinE w wr l (q + 1) m := by
  refine ⟨h.b0, h.b1, h.mem, fun p hp => ?_, h.bel⟩
  rw [take_snoc' hd] at hp
  rcases List.mem_append.1 hp with hp | hp
  · exact h.least p hp
  · rw [List.mem_singleton] at hp; subst hp; exact hlt
set_option maxRecDepth 100000 in
set_option maxHeartbeats 8000000 in
theorem minD_any (a : Option Addr) (c : Nat) (l : List Dt) (w : World) (h : Vec w a c l) (h0 : l ≠ []) (hn : l.length ≤ 1100000) :
    Calls Tryz.prog 126 #[.slice a l.length c, .func (.func 88) #[] #[]] w (MinTo w l) := by
  have H := Lib.hid h
  have hem := enters_of Tryz.func88 (by kernel_rfl) rfl
  have hl1 : 1 ≤ l.length := List.length_pos_iff.2 h0
  have x0 : decide ((l.length : Int) < 1) = false := decide_eq_false (by omega)
  obtain ⟨⟨⟨r, i⟩, s⟩, hx⟩ : ∃ x, l[0]? = some x := ⟨l[0], by simp⟩
  have A0 : Hid (Below w.heap.size w (w.alloc (.cells #[.int .u8 0, .int .u32 0, .int .u64 0] 41))) := Lib.hid ((Below.refl _ _).alloc (Nat.le_refl _) _)
  obtain ⟨ad, had, e0, e1, e2, hl0⟩ := (h.below A0.out).at hx
  simp only [Nat.zero_mul, Addr.add, if_true] at had e0 e1 e2
  have E0 : Hid (MinE w ((w.alloc (.cells #[.int .u8 0, .int .u32 0, .int .u64 0] 41)).alloc (.cells #[.int .u8 r, .int .u32 i, .int .u64 s] 41)) l 1 ((r, i), s)) := Lib.hid ⟨(heap_old _ _ (by simp)).trans (heap_new _ _), heap_new2 _ _ _, List.mem_of_getElem? hx, fun p hp => (by
    have h1 : l.take 1 = [((r, i), s)] := by
      match l, hx with
      | y :: l, hx => cases hx; rfl
    rw [h1, List.mem_singleton] at hp
    subst hp
    exact lessD_irrefl _), A0.out.alloc A0.out.size _⟩
  subst had
  clear h h0 hx
  go_enter Tryz.func126, Tryz.ntmps126
  go_wp2_with fail
  go_loopw [6] (fun j wr => ∃ (q : Nat) (m : Dt), q ≤ l.length ∧ j = .int .i64 q ∧ Hid (MinE w wr l q m)) (fun j _ => l.length - (intOf j).toNat)
  case atStart => exact ⟨1, ((r, i), s), hl1, rfl, E0⟩
  case round =>
    obtain ⟨q, ⟨⟨r2, i2⟩, s2⟩, hq, rfl, E⟩ := hrel
    clear E0 e0 e1 e2 hl0 A0
    have d0 := cells_at E.out.b1
    have z0 := heap_lt E.out.b1
    dsimp only at d0
    by_cases hlt : q < l.length
    · obtain ⟨⟨⟨r3, i3⟩, s3⟩, hy⟩ : ∃ x, l[q]? = some x := ⟨l[q], by simp [hlt]⟩
      obtain ⟨ae, hae, f0, f1, f2, hl2⟩ := (H.out.below E.out.bel).at hy
      dsimp only at hae f0 f1 f2
      obtain rfl : ad = ae := Option.some.inj hae
      have Hy := Lib.hid hy
      clear hae hy
      go_wp2_with fail
      refine region_text [([0, 1, 2, 3, 4, 5, 6, 7], false)] mixed (by kernel_rfl) ?_
      simp only [wpSegs, List.map_cons, List.map_nil, List.getD_cons_succ, List.getD_cons_zero]
      go_wp2_with fail
      refine (compareD_any r3 i3 s3 r2 i2 s2 _).mono ?_
      rintro e w1 ⟨rfl, hg⟩
      have E1 := Lib.hid (E.out.step (((Below.refl _ _).drew).trans hg.below))
      clear hg f0 f1 f2 hl2 d0 z0
      cases hc : lessD ((r3, i3), s3) ((r2, i2), s2) with
      | true =>
        have e3 : decide (cmpDD ((r3, i3), s3) ((r2, i2), s2) < 0) = true := by
          have h1 := ltD_of ((r3, i3), s3) ((r2, i2), s2)
          rw [hc] at h1; exact h1
        have Hc := Lib.hid hc
        obtain ⟨ae, hae, f0, f1, f2, hl2⟩ := (H.out.below E1.out.bel).at Hy.out
        dsimp only at hae f0 f1 f2
        obtain rfl : ad = ae := Option.some.inj hae
        have d0 := cells_at E1.out.b1
        have k0 := free_at E1.out.b1
        have z0 := heap_lt E1.out.b1
        dsimp only at d0
        clear hae hc
        have E2 := Lib.hid (E1.out.put Hy.out Hc.out)
        go_wp2_with fail
        refine And.intro (by kernel_rfl) ?_
        go_wp2_with fail
        go_roundw
        case rel => exact ⟨q + 1, ((r3, i3), s3), by omega, by go_num, E2⟩
        case measure => simp [intOf]; omega
      | false =>
        have e3 : decide (cmpDD ((r3, i3), s3) ((r2, i2), s2) < 0) = false := by
          have h1 := ltD_of ((r3, i3), s3) ((r2, i2), s2)
          rw [hc] at h1; exact h1
        have E2 := Lib.hid (E1.out.keep Hy.out hc)
        clear hc
        go_wp2_with fail
        refine And.intro (by kernel_rfl) ?_
        go_wp2_with fail
        go_roundw
        case rel => exact ⟨q + 1, ((r2, i2), s2), by omega, by go_num, E2⟩
        case measure => simp [intOf]; omega
    · have Hl := Lib.hid (show ∀ p ∈ l, lessD p ((r2, i2), s2) = false from fun p hp => E.out.least p (by rw [List.take_of_length_le (by omega)]; exact hp))
      have c0 := cells_at E.out.b0
      have k0 := free_at E.out.b0
      have y0 := heap_lt E.out.b0
      have hC := chg_three (W := wr) (b := w.heap.size) (.int .u8 r2) (.int .u32 i2) (.int .u64 s2)
      have HB := Lib.hid (E.out.bel.trans (hC.below E.out.bel.size (by simp)))
      clear hC
      go_wp2_with fail
      exact bodyPost_ret (v := .agg #[.int .u8 r2, .int .u32 i2, .int .u64 s2]) (by simp [results, Tryz.results126, go_sem, c0, k0, y0]; try rfl) rfl ⟨((r2, i2), s2), rfl, E.out.mem, Hl.out, HB.out⟩
end Go.Proofs.YthdmoplclllhjaaGreat

/- ChnB -/
namespace Go.Proofs.YthdmoplclllhjaaGreat
open Go.RowKit
set_option linter.unusedVariables false
set_option linter.unusedSimpArgs false

/-- q from both ends are turned -/
structure RevI (l cur : List Dt) (q p : Nat) : Prop where
  len : cur.length = l.length
  out : ∀ k, k < l.length → (k < q ∨ p < k) → cur[k]? = l[l.length - 1 - k]?
  mid : ∀ k, q ≤ k → k ≤ p → cur[k]? = l[k]?
theorem RevI.start (l : List Dt) : RevI l l 0 (l.length - 1) := ⟨rfl, fun k hk h => by omega, fun k _ _ => rfl⟩
theorem RevI.swap {l cur : List Dt} {q p : Nat} {x y : Dt} (h : RevI l cur q p) (hn : q + p + 1 = l.length) (hlt : q < p) (hx : cur[p]? = some x) (hy : cur[q]? = some y) : RevI l ((cur.set q x).set p y) (q + 1) (p - 1) := by
  have hl := h.len
  refine ⟨by simp [hl], fun k hk hk2 => ?_, fun k h1 h2 => ?_⟩
  · by_cases e : k = p
    · subst e
      rw [List.getElem?_set_self (by simp; omega), show l.length - 1 - k = q by omega, ← h.mid q (Nat.le_refl _) (by omega), hy]
    · rw [List.getElem?_set_ne (fun e2 => e e2.symm)]
      by_cases e3 : k = q
      · subst e3
        rw [List.getElem?_set_self (by omega), show l.length - 1 - k = p by omega, ← h.mid p (by omega) (Nat.le_refl _), hx]
      · rw [List.getElem?_set_ne (fun e2 => e3 e2.symm)]
        exact h.out k hk (by omega)
  · rw [List.getElem?_set_ne (by omega), List.getElem?_set_ne (by omega)]
    exact h.mid k (by omega) (by omega)
theorem RevI.done {l cur : List Dt} {q p : Nat} (h : RevI l cur q p) (hn : q + p + 1 = l.length) (hge : p ≤ q) : cur = l.reverse := by
  refine List.ext_getElem? fun k => ?_
  by_cases hk : k < l.length
  · rw [List.getElem?_reverse hk]
    by_cases e : k < q ∨ p < k
    · exact h.out k hk e
    · have h1 : k = q := by omega
      have h2 : k = p := by omega
      rw [h.mid k (by omega) (by omega), show l.length - 1 - k = k by omega]
  · rw [List.getElem?_eq_none (by rw [h.len]; omega), List.getElem?_eq_none (by rw [List.length_reverse]; omega)]
set_option maxRecDepth 100000 in
set_option maxHeartbeats 8000000 in
theorem revD_any (a : Option Addr) (c base : Nat) (l : List Dt) (w : World) (h : OwnD w base a c l) (h0 : l ≠ []) (hn : l.length ≤ 1100000) :
    Calls Tryz.prog 127 #[.slice a l.length c] w fun e w' => e = .returned (.tuple #[]) ∧ OwnD w' base a c l.reverse ∧ Chg (ob a) w w' := by
  obtain ⟨g, rfl, hg1, hg2⟩ := h.form h0
  have hl1 : 1 ≤ l.length := List.length_pos_iff.2 h0
  have H := Lib.hid h
  clear h h0
  go_enter Tryz.func127, Tryz.ntmps127
  go_wp2_with fail
  go_loopw [2, 3] (fun u j wr => ∃ (q p : Nat) (cur : List Dt), u = .int .i64 q ∧ j = .int .i64 p ∧ Hid (q + p + 1 = l.length) ∧ Hid (RevI l cur q p) ∧ Hid (OwnD wr base (some ⟨g, 0, none⟩) c cur) ∧ Hid (Chg [g] w wr)) (fun u j _ => (intOf j).toNat - (intOf u).toNat)
  case atStart => exact ⟨0, l.length - 1, l, rfl, by go_num, Lib.hid (by omega), Lib.hid (RevI.start l), H, Lib.hid (Chg.refl _ _)⟩
  case round =>
    obtain ⟨q, p, cur, rfl, rfl, HN, HR, HO, HC⟩ := hrel
    have hqp := HN.out
    have hq9 : q ≤ 1100000 := by omega
    have hp9 : p ≤ 1100000 := by omega
    by_cases hlt : q < p
    · have hcl : cur.length ≤ 1100000 := by rw [HR.out.len]; exact hn
      have hpl : p < cur.length := by rw [HR.out.len]; omega
      have hql : q < cur.length := by omega
      obtain ⟨⟨⟨r, i⟩, s⟩, hx⟩ : ∃ x, cur[p]? = some x := ⟨cur[p], by simp [hpl]⟩
      obtain ⟨⟨⟨r', i'⟩, s'⟩, hy⟩ : ∃ x, cur[q]? = some x := ⟨cur[q], by simp [hql]⟩
      have Hs := Lib.hid (HR.out.swap HN.out hlt hx hy)
      have Hlen := Lib.hid (HR.out.len)
      rw [← HR.out.len]
      obtain ⟨c0, c1, c2⟩ := HO.out.at hx
      obtain ⟨e0, e1, e2⟩ := HO.out.at hy
      have hf := HO.out.free
      dsimp only at c0 c1 c2 e0 e1 e2
      have O1 := Lib.hid (HO.out.put hql ((r, i), s))
      have O2 := Lib.hid ((O1.out.put (k := p) (by simpa using hpl) ((r', i'), s')).below (Below.refl _ _).drew)
      have C2 := Lib.hid (chg_drew (chg_set3 (chg_set3 HC.out (q * 3) (q * 3 + 1) (q * 3 + 2) (.int .u8 r) (.int .u32 i) (.int .u64 s)) (p * 3) (p * 3 + 1) (p * 3 + 2) (.int .u8 r') (.int .u32 i') (.int .u64 s')))
      clear hx hy hqp
      have n0 : ¬ p = q := by omega
      have n1 : ¬ q = p := by omega
      have n2 : ¬ p * 3 = q * 3 := by omega
      have n3 : ¬ q * 3 = p * 3 := by omega
      have n4 : ¬ p * 3 = q * 3 + 1 := by omega
      have n5 : ¬ p * 3 = q * 3 + 2 := by omega
      have n6 : ¬ p * 3 + 1 = q * 3 := by omega
      have n7 : ¬ p * 3 + 2 = q * 3 := by omega
      have n8 : ¬ q * 3 + 1 = p * 3 := by omega
      have n9 : ¬ q * 3 + 2 = p * 3 := by omega
      go_wp2_with fail
      refine region_text [([0, 1, 2, 3, 4, 5, 6, 7, 8, 9, 10, 11, 12, 13, 14, 15], false)] mixed (by kernel_rfl) ?_
      simp only [wpSegs, List.map_cons, List.map_nil, List.getD_cons_succ, List.getD_cons_zero]
      go_wp2_with fail
      refine And.intro (by kernel_rfl) ?_
      go_wp2_with fail
      go_roundw
      case rel => exact ⟨q + 1, p - 1, _, by go_num, by go_num, Lib.hid (by have := HN.out; have := Hlen.out; omega), Hs, O2, C2⟩
      case measure => simp [intOf]; omega
    · have He := Lib.hid (HR.out.done HN.out (by omega))
      have HO2 := HO
      rw [He.out] at HO2
      clear hqp
      go_wp2_with fail
      go_end0
      exact ⟨rfl, HO2.out, HC.out⟩
end Go.Proofs.YthdmoplclllhjaaGreat

/- ChnC -/
namespace Go.Proofs.YthdmoplclllhjaaGreat
open Go.RowKit
set_option linter.unusedVariables false
set_option linter.unusedSimpArgs false

/-- is a parent not on the next lower level -/
def chB (S : List Cm) (d p : Dt) : Bool := !decide ((((lvF S p).getD 0 : Nat) : Int) = (((lvF S d).getD 0 : Nat) : Int) - 1) || decide ((lvF S p).getD 0 = 0)
set_option maxRecDepth 100000 in
set_option maxHeartbeats 8000000 in
theorem chain1_any (S : List Cm) (pb mb pd : Nat) (r i s r2 i2 s2 : Int) (w : World) (hb : w.heap[pb]? = some (.cells #[.map (some mb)] 63 (0, 0))) (hm : MapN w mb S.length (lvV S)) (hS : S.length ≤ 200)
    (hd : w.heap[pd]? = some (.cells #[.int .u8 r2, .int .u32 i2, .int .u64 s2] 41 (0, 0))) (ok1 : okD ((r, i), s)) (ok2 : okD ((r2, i2), s2)) :
    Calls Tryz.prog 125 #[.agg #[.int .u8 r, .int .u32 i, .int .u64 s], .pointer (some ⟨pb, 0, none⟩), .pointer (some ⟨pd, 0, none⟩)] w fun e w' => e = .returned (.bool (chB S ((r2, i2), s2) ((r, i), s))) ∧ Below w.heap.size w w' := by
  have HM := Lib.hid hm
  have A0 : Hid (Below w.heap.size w (w.alloc (.cells #[.int .u8 r, .int .u32 i, .int .u64 s] 41)).drew) := Lib.hid (((Below.refl _ _).alloc (Nat.le_refl _) _).drew)
  have l1 := lv_look hm A0.out ok1
  have l2 := lv_look hm A0.out ok2
  have b0 := cells_at hb
  have bz := heap_lt hb
  have c0 := cells_at hd
  have cz := heap_lt hd
  have n1 : (lvF S ((r, i), s)).getD 0 ≤ 200 := by
    cases h : lvF S ((r, i), s) with
    | none => exact Nat.zero_le _
    | some n => have := (lvF_le h).2; simpa using (by omega : n ≤ 200)
  have n2 : (lvF S ((r2, i2), s2)).getD 0 ≤ 200 := by
    cases h : lvF S ((r2, i2), s2) with
    | none => exact Nat.zero_le _
    | some n => have := (lvF_le h).2; simpa using (by omega : n ≤ 200)
  have hch : chB S ((r2, i2), s2) ((r, i), s) = (!decide ((((lvF S ((r, i), s)).getD 0 : Nat) : Int) = (((lvF S ((r2, i2), s2)).getD 0 : Nat) : Int) - 1) || decide ((lvF S ((r, i), s)).getD 0 = 0)) := rfl
  rw [hch]
  generalize (lvF S ((r, i), s)).getD 0 = x at l1 n1 ⊢
  generalize (lvF S ((r2, i2), s2)).getD 0 = y at l2 n2 ⊢
  clear hb hm hd hch
  go_enter Tryz.func125, Tryz.ntmps125
  by_cases hxy : (x : Int) = (y : Int) - 1
  · obtain rfl : y = x + 1 := by omega
    have Hxy := Lib.hid (show decide ((x : Int) = ((x + 1 : Nat) : Int) - 1) = true from decide_eq_true hxy)
    by_cases hx0 : x = 0
    · have x2 : ((x : Int) == 0) = true := by rw [beq_iff_eq]; omega
      have Hx0 := Lib.hid (show decide (x = 0) = true from decide_eq_true hx0)
      clear hxy hx0
      go_wp2_with fail
      refine region_tree (.seg [0, 1, 3, 4] false (.fork (.seg [2] true (.seg [5] true (.seg [6, 7, 8, 9, 10, 11, 12, 13, 14] false .done))) (.seg [5] true (.seg [6] false (.seg [2] true (.seg [7, 8, 9, 10, 11, 12, 13, 14] false .done)))))) mixed (by kernel_rfl) ?_
      simp only [wpSg, List.map_cons, List.map_nil, List.getD_cons_succ, List.getD_cons_zero]
      go_wp2_with fail
      refine And.intro ?_ ?_
      all_goals
        go_wp2_with fail
        refine And.intro (Agree.refl _) ?_
        go_wp2_with fail
        refine And.intro (Agree.refl _) ?_
        go_wp2_with fail
        refine And.intro (by kernel_rfl) ?_
        go_wp2_with fail
        go_ret
        exact ⟨by rw [Hxy.out, Hx0.out]; rfl, A0.out⟩
    · have x2 : ((x : Int) == 0) = false := by rw [beq_eq_false_iff_ne]; omega
      have Hx0 := Lib.hid (show decide (x = 0) = false from decide_eq_false hx0)
      clear hxy hx0
      go_wp2_with fail
      refine region_tree (.seg [0, 1, 3, 4] false (.fork (.seg [2] true (.seg [5] true (.seg [6, 7, 8, 9, 10, 11, 12, 13, 14] false .done))) (.seg [5] true (.seg [6] false (.seg [2] true (.seg [7, 8, 9, 10, 11, 12, 13, 14] false .done)))))) mixed (by kernel_rfl) ?_
      simp only [wpSg, List.map_cons, List.map_nil, List.getD_cons_succ, List.getD_cons_zero]
      go_wp2_with fail
      refine And.intro ?_ ?_
      all_goals
        go_wp2_with fail
        refine And.intro (Agree.refl _) ?_
        go_wp2_with fail
        refine And.intro (Agree.refl _) ?_
        go_wp2_with fail
        refine And.intro (by kernel_rfl) ?_
        go_wp2_with fail
        go_ret
        exact ⟨by rw [Hxy.out, Hx0.out]; rfl, A0.out⟩
  · have x1 : ((x : Int) == (y : Int) - 1) = false := by rw [beq_eq_false_iff_ne]; exact hxy
    have Hxy := Lib.hid (show decide ((x : Int) = (y : Int) - 1) = false from decide_eq_false hxy)
    go_wp2_with fail
    refine region_tree (.seg [0, 1, 3, 4] false (.fork (.seg [2] true (.seg [5] true (.seg [6, 7, 8, 9, 10, 11, 12, 13, 14] false .done))) (.seg [5] true (.seg [6] false (.seg [2] true (.seg [7, 8, 9, 10, 11, 12, 13, 14] false .done)))))) mixed (by kernel_rfl) ?_
    simp only [wpSg, List.map_cons, List.map_nil, List.getD_cons_succ, List.getD_cons_zero]
    go_wp2_with fail
    refine And.intro ?_ ?_
    all_goals
      go_wp2_with fail
      refine And.intro (Agree.refl _) ?_
      go_wp2_with fail
      refine And.intro (Agree.refl _) ?_
      go_wp2_with fail
      refine And.intro (by kernel_rfl) ?_
      go_wp2_with fail
      go_ret
      exact ⟨by rw [Hxy.out]; rfl, A0.out⟩
end Go.Proofs.YthdmoplclllhjaaGreat

/- ChnD -/
namespace Go.Proofs.YthdmoplclllhjaaGreat
open Go.RowKit
set_option linter.unusedVariables false
set_option linter.unusedSimpArgs false

theorem sorted_uniq {S T L : List Cm} (hp : S.Perm L) (hs : SortedC S) (hq : T.Perm L) (ht : SortedC T) : S = T :=
  rising_ext (lt := ltC) ltC_irrefl (fun h k => ltC_trans h k) hs ht fun a => (hp.trans hq.symm).mem_iff
theorem LevP.uniq {g : Dt → Option Nat} {U V : List (List Dt)} (hU : LevP g U) (hV : LevP g V) : U = V := by
  have hl : U.length = V.length := by
    have h1 : ∀ {A B : List (List Dt)}, LevP g A → LevP g B → A.length ≤ B.length := fun {A B} hA hB => by
      rcases hA.tight with h2 | ⟨d, h2⟩
      · omega
      · exact hB.top d _ h2
    exact Nat.le_antisymm (h1 hU hV) (h1 hV hU)
  refine List.ext_getElem? fun i => ?_
  by_cases hi : i < U.length
  · have e1 : U[i]? = some U[i] := List.getElem?_eq_getElem hi
    have hi2 : i < V.length := by omega
    have e2 : V[i]? = some V[i] := List.getElem?_eq_getElem hi2
    rw [e1, e2]
    congr 1
    refine rising_ext (lt := ltD) ltD_irrefl (fun h k => ltD_trans h k) (hU.rise _ (List.getElem_mem _)) (hV.rise _ (List.getElem_mem _)) fun d => ?_
    rw [hU.on i _ e1 d, hV.on i _ e2 d]
  · rw [List.getElem?_eq_none (by omega), List.getElem?_eq_none (by omega)]
theorem chB_iff {S : List Cm} {d p : Dt} {k : Nat} (hd : lvF S d = some k) : chB S d p = false ↔ lvF S p = some (k - 1) ∧ 2 ≤ k := by
  have hk := (lvF_le hd).1
  unfold chB
  rw [hd]
  cases h : lvF S p with
  | none => simp
  | some n =>
    have hn := (lvF_le h).1
    simp only [Option.getD_some, Bool.or_eq_false_iff, Bool.not_eq_false', decide_eq_true_eq, decide_eq_false_iff_not, Option.some.injEq]
    omega
/-- a chain from the top on -/
structure TdP (S : List Cm) (V : List (List Dt)) (T : List Dt) : Prop where
  len : T.length ≤ V.length
  head : ∀ l, V[V.length - 1]? = some l → T[0]? = l[0]?
  lev : ∀ i d, T[i]? = some d → lvF S d = some (V.length - i)
  step : ∀ i d c, T[i]? = some c.d → T[i + 1]? = some d → c ∈ S → d ∈ c.ps ∧ ∀ p ∈ c.ps, lvF S p = some (V.length - (i + 1)) → lessD p d = false
theorem snoc_at {α : Type} {T : List α} {m x : α} {i : Nat} (h : (T ++ [m])[i]? = some x) : T[i]? = some x ∨ (i = T.length ∧ x = m) := by
  by_cases hi : i < T.length
  · rw [List.getElem?_append_left hi] at h; exact .inl h
  · rw [List.getElem?_append_right (by omega)] at h
    have h2 : i - T.length = 0 := by
      have h3 := (List.getElem?_eq_some_iff.1 h).1
      simpa using h3
    rw [h2] at h
    simp at h
    exact .inr ⟨by omega, h.symm⟩
theorem TdP.one {S : List Cm} {V : List (List Dt)} {l : List Dt} {d : Dt} {k : Nat} (hV : LevP (lvF S) V) (hk : V.length = k + 1) (hl : V[k]? = some l) (hd : l[0]? = some d) : TdP S V [d] := by
  refine ⟨by simp; omega, fun u hu => ?_, fun i x hx => ?_, fun i x c hx hy => ?_⟩
  · rw [hk, Nat.add_sub_cancel, hl] at hu
    cases hu
    rw [hd]; rfl
  · rcases snoc_at (T := []) hx with h | ⟨h, rfl⟩
    · cases h
    · simp at h
      subst h
      have := (hV.on k l hl x).1 (List.mem_of_getElem? hd)
      rw [this, hk]; rfl
  · rcases snoc_at (T := []) hy with h | ⟨h, _⟩
    · cases h
    · simp at h
theorem TdP.next {S : List Cm} {V : List (List Dt)} {T0 : List Dt} {c : Cm} {m : Dt} (h : TdP S V (T0 ++ [c.d])) (hc : c ∈ S) (hn : (S.map (·.d)).Nodup) (hm : m ∈ keepP (chB S c.d) c.ps) (hl : ∀ p ∈ keepP (chB S c.d) c.ps, lessD p m = false) : TdP S V ((T0 ++ [c.d]) ++ [m]) := by
  have hlast : (T0 ++ [c.d])[T0.length]? = some c.d := by simp
  have hlv := h.lev _ _ hlast
  have hmem : ∀ p, p ∈ keepP (chB S c.d) c.ps ↔ p ∈ c.ps ∧ lvF S p = some (V.length - T0.length - 1) ∧ 2 ≤ V.length - T0.length := fun p => by
    unfold keepP
    rw [List.mem_filter, Bool.not_eq_true', chB_iff hlv]
  obtain ⟨hm1, hm2, hm3⟩ := (hmem m).1 hm
  have hLn : (T0 ++ [c.d]).length = T0.length + 1 := by simp
  refine ⟨by rw [List.length_append, hLn]; simp; omega, fun l hl' => ?_, fun i d hd => ?_, fun i d y hy hd hyS => ?_⟩
  · rw [← h.head l hl', List.getElem?_append_left (by simp)]
  · rcases snoc_at hd with h1 | ⟨h1, rfl⟩
    · exact h.lev i d h1
    · rw [hm2, h1, hLn]; congr 1
  · rcases snoc_at hd with h1 | ⟨h1, rfl⟩
    · have hi : i < (T0 ++ [c.d]).length := by have := (List.getElem?_eq_some_iff.1 h1).1; omega
      rw [List.getElem?_append_left hi] at hy
      exact h.step i d y hy h1 hyS
    · have hi : i = T0.length := by omega
      subst hi
      rw [List.getElem?_append_left (by omega), hlast] at hy
      injection hy with hy
      have e : y = c := by
        have h3 := findC_mem hn hyS
        rw [← hy, findC_mem hn hc] at h3
        exact (Option.some.inj h3).symm
      subst e
      exact ⟨hm1, fun p hp hpl => hl p ((hmem p).2 ⟨hp, by rw [hpl]; congr 1, hm3⟩)⟩
theorem TdP.done {S : List Cm} {V : List (List Dt)} {T0 : List Dt} {c : Cm} (h : TdP S V (T0 ++ [c.d])) (hH : LvH S) (hc : c ∈ S) (he : keepP (chB S c.d) c.ps = []) : (T0 ++ [c.d]).length = V.length := by
  have hlast : (T0 ++ [c.d])[T0.length]? = some c.d := by simp
  have hlv := h.lev _ _ hlast
  have hlen := h.len
  have hLn : (T0 ++ [c.d]).length = T0.length + 1 := by simp
  refine Classical.byContradiction fun hne => ?_
  obtain ⟨k, hk⟩ : ∃ k, V.length - T0.length = k + 2 := ⟨V.length - T0.length - 2, by omega⟩
  rw [hk] at hlv
  obtain ⟨p, hp, hpl⟩ := hH.down hc hlv
  have h1 : p ∈ keepP (chB S c.d) c.ps := by
    unfold keepP
    rw [List.mem_filter, Bool.not_eq_true', chB_iff hlv]
    exact ⟨hp, by rw [hpl]; rfl, by omega⟩
  rw [he] at h1; cases h1
theorem TdP.chn {S : List Cm} {V : List (List Dt)} {T : List Dt} (h : TdP S V T) (hl : T.length = V.length) : ChnP S V T.reverse := by
  have key : ∀ i d, T.reverse[i]? = some d → i < V.length ∧ T[V.length - 1 - i]? = some d := fun i d hd => by
    have hi : i < T.length := by have := (List.getElem?_eq_some_iff.1 hd).1; simpa using this
    rw [List.getElem?_reverse hi, hl] at hd
    exact ⟨by omega, hd⟩
  refine ⟨by rw [List.length_reverse, hl], fun i d hd => ?_, fun l hl' => ?_, fun i d c hd hc hcS => ?_⟩
  · obtain ⟨h1, h2⟩ := key i d hd
    rw [h.lev _ _ h2]; congr 1; omega
  · have h0 : V.length - 1 < T.length := by have := (List.getElem?_eq_some_iff.1 hl').1; omega
    rw [List.getElem?_reverse h0, ← h.head l hl']
    congr 1; omega
  · obtain ⟨h1, h2⟩ := key i d hd
    obtain ⟨h3, h4⟩ := key (i + 1) c.d hc
    have h5 := h.step (V.length - 1 - (i + 1)) d c h4 (by rw [show V.length - 1 - (i + 1) + 1 = V.length - 1 - i by omega]; exact h2) hcS
    refine ⟨h5.1, fun p hp hpl => h5.2 p hp (by rw [hpl]; congr 1; omega)⟩
def ChnTo (w : World) (L : List Cm) (e : Ending) (w' : World) : Prop := ∃ (a : Option Addr) (c : Nat) (C : List Dt) (S : List Cm) (V : List (List Dt)), e = .returned (.slice a (List.length C) c) ∧ S.Perm L ∧ SortedC S ∧ LevP (lvF S) V ∧ ChnP S V C ∧ OwnD w' w.heap.size a c C ∧ okV C ∧ C.length ≤ 200 ∧ Below w.heap.size w w'
structure ChE (w3 wr : World) (pd : Nat) (S : List Cm) (V : List (List Dt)) (T0 : List Dt) (d : Dt) (oa : Option Addr) (oc : Nat) : Prop where
  bd : wr.heap[pd]? = some (.cells #[.int .u8 d.1.1, .int .u32 d.1.2, .int .u64 d.2] 41 (0, 0))
  own : OwnD wr (pd + 1) oa oc T0
  td : TdP S V (T0 ++ [d])
  ok : okV (T0 ++ [d])
  bel : Below w3.heap.size w3 wr
theorem ChE.lenT {w3 wr : World} {pd : Nat} {S : List Cm} {V : List (List Dt)} {T0 : List Dt} {d : Dt} {oa : Option Addr} {oc : Nat} (h : ChE w3 wr pd S V T0 d oa oc) : T0.length + 1 ≤ V.length := by
  have := h.td.len
  simpa using this
set_option maxRecDepth 100000 in
set_option maxHeartbeats 16000000 in
theorem chain_G (pg gb : Nat) (w0 : World) (m : Nat) (b : Bw) (L : List Cw) (va : Option Addr) (vc : Nat) (vv : List Dt) (w : World) (h : GrAt w pg gb w0 m b L va vc vv) (hH : ∀ S : List Cm, S.Perm (cms L) → SortedC S → LvH S) :
    Calls Tryz.prog 62 #[.pointer (some ⟨pg, 0, none⟩)] w (ChnTo w (cms L)) := by
  have H := Lib.hid h
  have HH := Lib.hid hH
  have hmin := enters_of Tryz.func125 (by kernel_rfl) rfl
  clear h hH
  go_enter Tryz.func62, Tryz.ntmps62
  go_wp2_with fail
  refine (levOf_any _ (cms L) _ (Coms.of H.out)).mono ?_
  intro e w1 hto
  obtain ⟨mb, S, rfl, hp, hs, hok, hlo, hm, hb⟩ := hto
  have Hlv := Lib.hid (HH.out S hp hs)
  have HSp := Lib.hid hp
  have HSs := Lib.hid hs
  have hSl : S.length ≤ 200 := by have h1 := hp.length_eq; have h2 := H.out.max; unfold cms at h1; rw [List.length_map] at h1; omega
  have A1 : Hid (Below w1.heap.size w1 (w1.alloc (.cells #[.map (some mb)] 63))) := Lib.hid ((Below.refl _ _).alloc (Nat.le_refl _) _)
  have HB1 := Lib.hid (below2 hb A1.out hb.size)
  have HM1 := Lib.hid (hm.below A1.out)
  have HX1 : Hid ((w1.alloc (.cells #[.map (some mb)] 63)).heap[w1.heap.size]? = some (.cells #[.map (some mb)] 63 (0, 0))) := Lib.hid (heap_new _ _)
  clear hp hs hok hlo hm hb
  go_wp2_with fail
  refine (levels_any _ (cms L) _ (Coms.of (H.out.below HB1.out))).mono ?_
  intro e w3 hto
  obtain ⟨ra, rc, R, S2, rfl, hp2, hs2, hV, hoL, hoR, hap, hRl, hRv, hb3⟩ := hto
  obtain rfl : S = S2 := sorted_uniq HSp.out HSs.out hp2 hs2
  have HV := Lib.hid hV
  have HM := Lib.hid (HM1.out.below hb3)
  have HX := Lib.hid ((hb3.block _ (heap_lt HX1.out)).trans HX1.out)
  have HB := Lib.hid (below2 HB1.out hb3 HB1.out.size)
  have H3 := Lib.hid (H.out.below HB.out)
  have HoL := Lib.hid hoL
  have HoR := Lib.hid hoR
  have hVl : (R.map (·.v)).length = R.length := List.length_map _
  clear hp2 hs2 hV hoL hoR hap hb3 HM1 HX1 HB1 A1
  by_cases h0 : R.length = 0
  · have HC : Hid (ChnP S (R.map (·.v)) []) := Lib.hid ⟨by rw [hVl, h0]; rfl, fun i d hd => (by simp at hd), fun l hl => (by
      have h1 := (List.getElem?_eq_some_iff.1 hl).1
      rw [hVl] at h1; omega), fun i d c hd => (by simp at hd)⟩
    rw [h0]
    clear hVl h0
    go_wp2_with fail
    go_ret
    exact ⟨none, 0, [], S, _, rfl, HSp.out, HSs.out, HV.out, HC.out, OwnD.nil _ _, fun x hx => (by cases hx), by decide, HB.out⟩
  obtain ⟨k, hk⟩ : ∃ k, R.length = k + 1 := ⟨R.length - 1, by omega⟩
  obtain ⟨rr, hrr⟩ : ∃ x, R[k]? = some x := ⟨R[k], List.getElem?_eq_getElem (by omega)⟩
  obtain ⟨g, rfl⟩ := HoL.out.ptr (by omega)
  have hc0 := HoL.out.cell hrr
  have hrow : (R.map (·.v))[k]? = some rr.v := by rw [List.getElem?_map, hrr]; rfl
  obtain ⟨x0, hx0⟩ := Hlv.out.row HV.out hrow
  have hrn : rr.v ≠ [] := fun e => by rw [e] at hx0; cases hx0
  have hRR := HoR.out rr (List.mem_of_getElem? hrr)
  obtain ⟨g2, hg2, hg3, hg4⟩ := hRR.form hrn
  rw [hg2] at hRR hc0
  obtain ⟨⟨⟨r, i⟩, s⟩, hx⟩ : ∃ x, rr.v[0]? = some x := ⟨rr.v[0]'(List.length_pos_iff.2 hrn), List.getElem?_eq_getElem _⟩
  obtain ⟨c0, c1, c2⟩ := hRR.at hx
  simp only [Nat.zero_mul, Nat.zero_add] at c0 c1 c2
  have hl1 : 1 ≤ rr.v.length := List.length_pos_iff.2 hrn
  have hl2 : rr.v.length ≤ 200 := hRv rr (List.mem_of_getElem? hrr)
  have HT := Lib.hid (TdP.one HV.out (by rw [hVl, hk]) hrow hx)
  have hokx : okD ((r, i), s) := by
    have h1 := (HV.out.on k rr.v hrow ((r, i), s)).1 (List.mem_of_getElem? hx)
    obtain ⟨c, hc, e⟩ := lvF_mem (S := S) (d := ((r, i), s)) (by rw [h1]; rfl)
    obtain ⟨v, hv, rfl⟩ := List.mem_map.1 (HSp.out.mem_iff.1 hc)
    rw [← e]
    exact (H.out.each v hv).ok.d
  have HVl := Lib.hid (show (R.map (·.v)).length ≤ 200 by rw [hVl]; omega)
  have E0 : Hid (ChE w3 (w3.alloc (.cells #[.int .u8 r, .int .u32 i, .int .u64 s] 41)) w3.heap.size S (R.map (·.v)) [] ((r, i), s) none 0) := Lib.hid ⟨heap_new _ _, OwnD.nil _ _, HT.out, fun y hy => (by simp at hy; subst hy; exact hokx), (Below.refl _ _).alloc (Nat.le_refl _) _⟩
  rw [hk]
  have hk9 : k ≤ 200 := by omega
  have x0 : ((k : Int) + 1 == 0) = false := by rw [beq_eq_false_iff_ne]; omega
  have HD := Lib.hid (show w1.heap.size < w3.heap.size from heap_lt HX.out)
  have HD2 := Lib.hid (show mb < w3.heap.size from HM.out.lt)
  generalize R.map (·.v) = V at HV HVl E0
  clear hk hrr hrow hx0 hrn hRR hg2 hx HT hokx hVl h0 HoL HoR hRv
  go_wp2_with fail
  go_loopw [2] (fun o wr => ∃ (T0 : List Dt) (r i s : Int) (oa : Option Addr) (oc : Nat), o = .slice oa (List.length T0) oc ∧ Hid (ChE w3 wr w3.heap.size S V T0 ((r, i), s) oa oc)) (fun o _ => 200 - lenLV o)
  case atStart => exact ⟨[], r, i, s, none, 0, rfl, E0⟩
  case round =>
    obtain ⟨T0, r2, i2, s2, oa, oc, rfl, E⟩ := hrel
    clear E0 c0 c1 c2 hc0
    have hT0 : T0.length ≤ 199 := by have h1 := E.out.lenT; have h2 := HVl.out; omega
    have hdl : w3.heap.size < wr.heap.size := heap_lt E.out.bd
    have d0 := cells_at E.out.bd
    dsimp only at d0
    have A2 : Hid (Below wr.heap.size wr (wr.alloc (.cells #[.int .u8 r2, .int .u32 i2, .int .u64 s2] 41))) := Lib.hid ((Below.refl _ _).alloc (Nat.le_refl _) _)
    go_wp2_with (at_builtin; go_must (refine wpList_appD rfl _ _ rfl (w3.heap.size + 1) oa oc T0 rfl (OwnD.below E.out.own A2.out) (some ⟨wr.heap.size, 0, none⟩) 1 [((r2, i2), s2)] rfl (vec_one (heap_new _ _)) ?n1 ?b1 ?_))
    case n1 => simp; omega
    case b1 => simp; omega
    intro T a5 c5 w5 hT ho5 hb5 hc5
    have Hb5 := Lib.hid ((A2.out.mono (show w3.heap.size + 1 ≤ wr.heap.size from hdl)).trans hb5)
    have HT := Lib.hid hT
    have hTl : T.length = T0.length + 1 := by rw [hT]; simp
    have HTl := Lib.hid hTl
    have hTl2 : T.length ≤ 200 := by omega
    have O5 := Lib.hid ho5
    have BD5 := Lib.hid ((Hb5.out.block _ (Nat.lt_succ_self _)).trans E.out.bd)
    have B5 := Lib.hid (E.out.bel.trans (Hb5.out.mono (Nat.le_succ _)))
    have TD5 := Lib.hid (show TdP S V T from by rw [hT]; exact E.out.td)
    have OK5 := Lib.hid (show okV T from by rw [hT]; exact E.out.ok)
    have hokd : okD ((r2, i2), s2) := E.out.ok _ (by simp)
    have Hokd := Lib.hid hokd
    clear hT ho5 hb5 hc5 hTl d0 A2
    have d0 := cells_at BD5.out
    have z0 := heap_lt BD5.out
    dsimp only at d0
    go_wp2_with fail
    refine (get_G pg gb w0 m b L va vc vv r2 i2 s2 _ (H3.out.below B5.out) hokd).mono ?_
    intro e w6 hto
    obtain ⟨u, rfl, hu, huo, hb6⟩ := hto
    obtain ⟨y, hyf⟩ : ∃ y, findC (cms L) ((r2, i2), s2) = some y := by
      have h1 : ∃ n, lvF S ((r2, i2), s2) = some n := ⟨_, TD5.out.lev T0.length _ (by rw [HT.out]; simp)⟩
      obtain ⟨n, h1⟩ := h1
      obtain ⟨c, hc, e⟩ := lvF_mem (S := S) (d := ((r2, i2), s2)) (by rw [h1]; rfl)
      rw [← e]
      exact ⟨c, findC_mem H.out.nodup (HSp.out.mem_iff.1 hc)⟩
    have hyS : y ∈ S := HSp.out.mem_iff.2 (findC_some hyf).1
    have hyd : y.d = ((r2, i2), s2) := (findC_some hyf).2
    have hy64 : y.ps.length ≤ 64 := by
      obtain ⟨v, hv, e⟩ := List.mem_map.1 (findC_some hyf).1
      rw [← e]
      exact (H.out.may v hv).few
    rw [hyf] at hu ⊢
    obtain ⟨uc, uqa, uqc, uva, uvc, upa, upc, uda, udc⟩ := u
    have hu : uc = y := hu
    subst hu
    obtain ⟨⟨⟨ur, ui⟩, us⟩, ps, uu, t1, ⟨k1, n1, x1, p1, ds1⟩⟩ := uc
    have HyS := Lib.hid hyS
    have Hyd := Lib.hid hyd
    have Huo := Lib.hid huo
    dsimp only at hy64
    have A7 : Hid (Below w6.heap.size w6 (w6.alloc (.cells (ccells ur ui us uqa ps.length uqc uva uu.length uvc t1 k1 upa p1.length upc n1 x1 uda ds1.length udc) 46))) := Lib.hid ((Below.refl _ _).alloc (Nat.le_refl _) _)
    have B7 := Lib.hid (below2 hb6 A7.out hb6.size)
    have HP7 := Lib.hid (show OwnD _ w5.heap.size uqa uqc ps from OwnD.below huo.ps A7.out)
    have HPs := Lib.hid huo.ok.ps
    have BD7 := Lib.hid ((B7.out.block _ (heap_lt BD5.out)).trans BD5.out)
    have X7 := Lib.hid ((B7.out.block _ (Nat.lt_trans HD.out z0)).trans ((B5.out.block _ HD.out).trans HX.out))
    have M7 := Lib.hid ((HM.out.below B5.out).below B7.out)
    have O7 := Lib.hid (OwnD.below O5.out B7.out)
    have hfar : Hid (∀ q ∈ ob uqa, w5.heap.size ≤ q) := Lib.hid (fun q hq => (owns_lt huo.ps q hq).1)
    have hz35 : w3.heap.size < w5.heap.size := z0
    have hs5 := B7.out.size
    clear huo hb6 hyf hyS hyd d0 hokd
    simp only [Option.isSome_some, cwcells]
    go_wp2_with fail
    refine (deleteD_fn 125 #[.pointer (some ⟨w1.heap.size, 0, none⟩), .pointer (some ⟨w3.heap.size, 0, none⟩)] (chB S ((r2, i2), s2)) uqa uqc w5.heap.size ps _ HP7.out (by omega) hmin (fun r9 i9 s9 hmem W hW => ?_)).mono ?_
    · refine chain1_any S w1.heap.size mb w3.heap.size r9 i9 s9 r2 i2 s2 W (heap_chg X7.out hW (fun hk => by have := hfar.out _ hk; have := HD.out; omega)) (M7.out.chg hW (fun hk => by have := hfar.out _ hk; have := HD2.out; omega)) hSl (heap_chg BD7.out hW (fun hk => by have := hfar.out _ hk; omega)) (HPs.out _ hmem) Hokd.out
    rintro e w8 ⟨v8, rfl, hv8, ho8, hc8⟩
    have HV8 := Lib.hid hv8
    have O8 := Lib.hid ho8
    have hv8l : v8.length ≤ 64 := by rw [hv8]; unfold keepP; exact Nat.le_trans (List.length_filter_le _ _) hy64
    have BD8 := Lib.hid (heap_chg BD7.out hc8 (fun hk => by have := hfar.out _ hk; omega))
    have OT8 := Lib.hid (owns_chg O7.out hc8 (fun k hk hm => by have h1 := (owns_lt O5.out k hk).2; have h2 := hfar.out k hm; omega))
    have B8 := Lib.hid ((B5.out.trans (B7.out.mono (by omega))).trans (hc8.below (B := w3.heap.size) (by have h1 := B5.out.size; omega) (fun k hk => by have := hfar.out k hk; omega)))
    clear hv8 ho8 hc8 O7 BD7 X7 M7 HP7 B7 A7 BD5
    by_cases he : v8.length = 0
    · have hnil : v8 = [] := List.length_eq_zero_iff.1 he
      have HTV := Lib.hid (show T.length = V.length from by
        have h1 := TdP.done (T0 := T0) (c := ⟨((ur, ui), us), ps, uu, t1, ⟨k1, n1, x1, p1, ds1⟩⟩) (by rw [Hyd.out, ← HT.out]; exact TD5.out) Hlv.out HyS.out (by rw [Hyd.out]; dsimp only; rw [← HV8.out, hnil])
        rw [Hyd.out, ← HT.out] at h1
        exact h1)
      have HTn := Lib.hid (show T ≠ [] from fun e => by have := HTl.out; rw [e] at this; simp at this)
      rw [he]
      clear he hnil
      go_wp2_with fail
      refine (revD_any a5 c5 (w3.heap.size + 1) T _ OT8.out HTn.out (by omega)).mono ?_
      rintro e w9 ⟨rfl, ho9, hc9⟩
      have O9 := Lib.hid ho9
      have B9 := Lib.hid (below2 HB.out (B8.out.trans (hc9.below (B := w3.heap.size) B8.out.size (fun k hk => by have := (owns_lt OT8.out k hk).1; omega))) HB.out.size)
      have HC := Lib.hid (TD5.out.chn HTV.out)
      have hz := B8.out.size
      have hz3 := HB.out.size
      clear ho9 hc9
      go_wp2_with fail
      go_ret
      exact ⟨a5, c5, T.reverse, S, V, by rw [List.length_reverse]; rfl, HSp.out, HSs.out, HV.out, HC.out, OwnD.base O9.out (by omega), fun x hx => OK5.out x (List.mem_reverse.1 hx), by rw [List.length_reverse]; exact hTl2, B9.out⟩
    · have hpos : 1 ≤ v8.length := by omega
      have hne : v8 ≠ [] := fun e => by rw [e] at hpos; simp at hpos
      have x9 : ((v8.length : Int) == 0) = false := by rw [beq_eq_false_iff_ne]; omega
      have Hne := Lib.hid hne
      clear hne
      go_wp2_with fail
      refine (minD_any uqa uqc v8 _ O8.out.vec Hne.out (by omega)).mono ?_
      intro e w9 hto
      obtain ⟨⟨⟨mr, mi⟩, ms⟩, rfl, hmm, hml, hb9⟩ := hto
      have BD9 := Lib.hid ((hb9.block _ (heap_lt BD8.out)).trans BD8.out)
      have O9 := Lib.hid (OwnD.below OT8.out hb9)
      have B9 := Lib.hid (B8.out.trans (hb9.mono B8.out.size))
      have hmk : ((mr, mi), ms) ∈ keepP (chB S ((r2, i2), s2)) ps := by rw [← HV8.out]; exact hmm
      have TD9 := Lib.hid (show TdP S V (T ++ [((mr, mi), ms)]) from by
        have h1 := TdP.next (T0 := T0) (c := ⟨((ur, ui), us), ps, uu, t1, ⟨k1, n1, x1, p1, ds1⟩⟩) (m := ((mr, mi), ms)) (by rw [Hyd.out, ← HT.out]; exact TD5.out) HyS.out Hlv.out.dag.nodup (by rw [Hyd.out]; exact hmk) (by rw [Hyd.out]; dsimp only; rw [← HV8.out]; exact hml)
        rw [Hyd.out, ← HT.out] at h1
        exact h1)
      have OK9 := Lib.hid (show okV (T ++ [((mr, mi), ms)]) from fun x hx => by
        rcases List.mem_append.1 hx with hx | hx
        · exact OK5.out x hx
        · rw [List.mem_singleton] at hx
          subst hx
          exact HPs.out _ (List.mem_filter.1 hmk).1)
      have d0 := cells_at BD9.out
      have f0 := free_at BD9.out
      have z9 := heap_lt BD9.out
      have hC := chg_three (W := w9) (b := w3.heap.size) (.int .u8 mr) (.int .u32 mi) (.int .u64 ms)
      have E9 : Hid (ChE w3 (((w9.setCell ⟨w3.heap.size, 0, none⟩ (.int .u8 mr)).setCell ⟨w3.heap.size, 1, none⟩ (.int .u32 mi)).setCell ⟨w3.heap.size, 2, none⟩ (.int .u64 ms)) w3.heap.size S V T ((mr, mi), ms) a5 c5) := Lib.hid
        ⟨three_at BD9.out _ _ _, owns_chg O9.out hC (fun k hk hm => by have h1 := (owns_lt O9.out k hk).1; simp at hm; omega), TD9.out, OK9.out, B9.out.trans (hC.below B9.out.size (by simp))⟩
      clear hmm hml hb9 hmk hC x9 O9 B9 BD8 O8 OT8 B8
      go_wp2_with fail
      go_roundw
      case rel => exact ⟨T, mr, mi, ms, a5, c5, rfl, E9⟩
      case measure => have h9 := HTl.out; simp [lenLV]; omega
end Go.Proofs.YthdmoplclllhjaaGreat
