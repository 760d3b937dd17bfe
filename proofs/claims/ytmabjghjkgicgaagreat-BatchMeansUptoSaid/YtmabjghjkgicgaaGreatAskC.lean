/- The reference's query.Ask. -/
import Derived.Test.YtmabjghjkgicgaaGreatAskA
import Derived.Test.YtmabjghjkgicgaaGreatRowA
namespace Go.Proofs.YtmabjghjkgicgaaGreat
open Go.RowKit
set_option linter.unusedVariables false
set_option linter.unusedSimpArgs false

open Classical in
/-- what a tree answers, and the error's number -/
noncomputable def askT (T : List Nd) (k : Int) (P : List ByteArray) : An × Int :=
  if MayQ k P then (if k = 5 then (⟨decide (0 < (belowP T P).length), 0, (belowP T P).map Nd.name⟩, 0) else (askL k ((lookP T P k).map (·.l)), 0)) else (⟨false, 0, []⟩, 2)
def AskTo (w : World) (T : List Nd) (k : Int) (P : List ByteArray) (e : Ending) (w' : World) : Prop :=
  ∃ (A : An) (f : Int) (la : Option Addr) (lc : Nat), askT T k P = (A, f) ∧ e = .returned (.tuple #[.agg #[.bool A.is, .int .i64 A.n, .slice la A.l.length lc], .int .i64 f]) ∧ Strs w' la lc A.l ∧ Below w.heap.size w w'
theorem ask_fin {w w' : World} {T : List Nd} {k : Int} {P : List ByteArray} {is : Bool} {n : Int} {V : List ByteArray} {la : Option Addr} {lc : Nat} (h : askT T k P = (⟨is, n, V⟩, 0)) (hs : Strs w' la lc V) (hb : Below w.heap.size w w') : AskTo w T k P (.returned (.tuple #[.agg #[.bool is, .int .i64 n, .slice la V.length lc], .int .i64 0])) w' := ⟨_, _, la, lc, h, rfl, hs, hb⟩
/-- the query's box, the answer's, the one under way, the leaf's -/
structure AskE (w W : World) (b6 b7 : Nat) (k : Int) (pa : Option Addr) (pc : Nat) (P : List ByteArray) (is : Bool) (n : Int) (oa : Option Addr) (oc : Nat) (V : List ByteArray) (v : Lv) : Prop where
  r0 : W.heap[w.heap.size]? = some (.cells #[.int .u8 k, .slice pa P.length pc] 56 (0, 0))
  r1 : W.heap[w.heap.size + 1]? = some (.cells #[.bool false, .int .i64 0, .slice none 0 0] 52 (0, 0))
  r6 : W.heap[b6]? = some (.cells #[.bool is, .int .i64 n, .slice oa V.length oc] 52 (0, 0))
  r7 : LvBlk W b7 v
  own : OwnS W (b7 + 1) oa oc V
  l1 : w.heap.size + 1 < b6
  l2 : b6 < b7
  bel : Below w.heap.size w W
theorem AskE.step {w W W' : World} {b6 b7 : Nat} {k : Int} {pa : Option Addr} {pc : Nat} {P : List ByteArray} {is : Bool} {n : Int} {oa : Option Addr} {oc : Nat} {V : List ByteArray} {v : Lv} (h : AskE w W b6 b7 k pa pc P is n oa oc V v) (hb : Below W.heap.size W W') : AskE w W' b6 b7 k pa pc P is n oa oc V v :=
  ⟨(hb.block _ (heap_lt h.r0)).trans h.r0, (hb.block _ (heap_lt h.r1)).trans h.r1, (hb.block _ (heap_lt h.r6)).trans h.r6, h.r7.below hb, h.own.below hb, h.l1, h.l2, below2 h.bel hb h.bel.size⟩
theorem AskE.put {w W W1 : World} {b6 b7 : Nat} {k : Int} {pa : Option Addr} {pc : Nat} {P : List ByteArray} {is : Bool} {n : Int} {oa oa' : Option Addr} {oc oc' : Nat} {V V' : List ByteArray} {v : Lv} (h : AskE w W b6 b7 k pa pc P is n oa oc V v)
    (hb : Below (b7 + 1) W W1) (ho : OwnS W1 (b7 + 1) oa' oc' V') : AskE w (W1.setCell ⟨b6, 2, none⟩ (.slice oa' V'.length oc')) b6 b7 k pa pc P is n oa' oc' V' v := by
  have hC : Chg [b6] W1 (W1.setCell ⟨b6, 2, none⟩ (.slice oa' V'.length oc')) := Chg.setCell W1 ⟨b6, 2, none⟩ _
  have hl1 := h.l1
  have hl2 := h.l2
  have z7 := heap_lt h.r7
  have hsz := hb.size
  have g6 := (hb.block b6 (by omega)).trans h.r6
  have h0 := heap_set g6 2 (.slice oa' V'.length oc')
  simp only [List.setIfInBounds_toArray, List.set_cons_zero, List.set_cons_succ] at h0
  exact ⟨(hC.block _ (by omega) (by simp; omega)).trans ((hb.block _ (by omega)).trans h.r0), (hC.block _ (by omega) (by simp; omega)).trans ((hb.block _ (by omega)).trans h.r1), h0, (hC.block _ (by omega) (by simp; omega)).trans ((hb.block _ (by omega)).trans h.r7), owns_chg ho hC (fun x hx => by have := (owns_lt ho x hx).1; simp; omega), h.l1, h.l2, (h.bel.trans (hb.mono (by omega))).setCell (by simp; omega) _⟩
theorem AskE.first {w w3 : World} {b6 : Nat} {k : Int} {pa : Option Addr} {pc : Nat} {P : List ByteArray} {v : Lv} (h0 : w3.heap[w.heap.size]? = some (.cells #[.int .u8 k, .slice pa P.length pc] 56 (0, 0)))
    (h1 : w3.heap[w.heap.size + 1]? = some (.cells #[.bool false, .int .i64 0, .slice none 0 0] 52 (0, 0))) (h6 : w3.heap[b6]? = some (.cells #[.bool false, .int .i64 0, .slice none 0 0] 52 (0, 0))) (hB : Below w.heap.size w w3) (hl : w.heap.size + 1 < b6) (is : Bool) (n : Int) :
    AskE w (((w3.setCell ⟨b6, 0, none⟩ (.bool is)).setCell ⟨b6, 1, none⟩ (.int .i64 n)).alloc (.cells (lcells v.l v.ia v.ic v.ta v.tc) 48)) b6 w3.heap.size k pa pc P is n none 0 [] v := by
  have hC : Chg [b6] w3 (((w3.setCell ⟨b6, 0, none⟩ (.bool is)).setCell ⟨b6, 1, none⟩ (.int .i64 n)).alloc (.cells (lcells v.l v.ia v.ic v.ta v.tc) 48)) := ((((Chg.refl _ _).set _ _ (by simp)).set _ _ (by simp))).trans (Chg.alloc [] _ _) (by simp)
  have g := heap_set (heap_set h6 0 (.bool is)) 1 (.int .i64 n)
  simp only [List.setIfInBounds_toArray, List.set_cons_zero, List.set_cons_succ] at g
  have z6 := heap_lt h6
  have hn := heap_new ((w3.setCell ⟨b6, 0, none⟩ (.bool is)).setCell ⟨b6, 1, none⟩ (.int .i64 n)) (.cells (lcells v.l v.ia v.ic v.ta v.tc) 48)
  simp only [World.size_setCell] at hn
  exact ⟨(hC.block _ (heap_lt h0) (by simp; omega)).trans h0, (hC.block _ (heap_lt h1) (by simp; omega)).trans h1, (heap_old _ _ (by simp; omega)).trans g, hn, OwnS.nil _ _, hl, z6, ((hB.setCell (by simp; omega) _).setCell (by simp; omega) _).alloc (by have := hB.size; simp; omega) _⟩
theorem str_new (W : World) (s : ByteArray) {n : Nat} (hn : W.heap.size = n) : Strs (W.alloc (.cells #[.string s] 9)) (some ⟨n, 0, none⟩) 1 [s] := hn ▸ str_one s (heap_new W _)
/-- a leaf found reads where the tree does -/
theorem look_rd {w : World} {m : Nat} {a : Option Addr} {c : Nat} {T : List Nd} {P : List ByteArray} {k : Int} {v : Lv} (hT : TrRd w m a c T) (h : lookP T P k = some v) : LvRd w v := by
  induction P generalizing m a c T with
  | nil => cases h
  | cons s P ih =>
    rw [lookP_cons] at h
    cases e : findN T s with
    | none => rw [e] at h; cases h
    | some x =>
      rw [e, Option.bind_some] at h
      obtain ⟨m', h1, h2⟩ := hT.in_ (findN_mem e).1
      cases P with
      | nil => exact h1.2 v (findL_mem h).1
      | cons u P => exact ih h2 h
/-- the texts, one by one -/
noncomputable def accP (k : Int) (V : List ByteArray) (l : List It) : List ByteArray := if k = 3 then l.foldl (fun V x => onceP V x.x) V else V ++ l.map (·.x)
theorem accP_snoc (k : Int) (V : List ByteArray) (l : List It) (x : It) : accP k V (l ++ [x]) = if k = 3 then onceP (accP k V l) x.x else accP k V l ++ [x.x] := by
  unfold accP
  by_cases h : k = 3
  · rw [if_pos h, if_pos h, if_pos h, List.foldl_append]; rfl
  · rw [if_neg h, if_neg h, if_neg h, List.map_append, List.append_assoc]; rfl
theorem accP_rises (V : List ByteArray) (l : List It) (h : risesS V) : risesS (accP 3 V l) := by
  unfold accP
  rw [if_pos rfl]
  have := rises_foldl_once (l := l.map (·.x)) h
  rwa [List.foldl_map] at this
theorem accP_nil (k : Int) (V : List ByteArray) : accP k V [] = V := by
  unfold accP
  split
  · rfl
  · simp
def v0 (k : Int) (v : Lv) : List ByteArray := if k = 2 ∧ 0 < v.l.t then [v.l.x] else []
theorem ask_is {k : Int} (hk : k = 1 ∨ k = 2 ∨ k = 3 ∨ k = 4) {v : Lv} {z : Bool} {g : Option Lv} (h1 : z = true → g = some v) (h2 : z = false → g = none ∧ v = bareV k) (hi : k = 1 ∨ k = 2 → v.l.items = []) :
    askL k (g.map (·.l)) = ⟨if k = 2 then decide (0 < v.l.t) else z, v.l.n, accP k (v0 k v) v.l.items⟩ := by
  have hg : (g.map (·.l)).getD (bare k) = v.l := by
    cases z with
    | true => rw [h1 rfl]; rfl
    | false => obtain ⟨e1, e2⟩ := h2 rfl; rw [e1, e2]; rfl
  have hs : (g.map (·.l)).isSome = z := by
    cases z with
    | true => rw [h1 rfl]; rfl
    | false => rw [(h2 rfl).1]; rfl
  rcases hk with rfl | rfl | rfl | rfl
  · rw [askL_1, hg, hs, hi (.inl rfl), accP_nil]; rfl
  · rw [askL_2, hg, hi (.inr rfl), accP_nil]
    unfold v0
    by_cases ht : 0 < v.l.t
    · simp [ht]
    · simp [ht]
  · rw [askL_3, hg, hs]
    unfold accP v0 oncesP
    rw [if_neg (by decide), if_pos rfl, if_neg (by simp), List.foldl_map]
  · rw [askL_4, hg, hs]
    unfold accP v0
    rw [if_neg (by decide), if_neg (by decide), if_neg (by simp)]; rfl

set_option maxRecDepth 100000 in
set_option maxHeartbeats 2000000 in
theorem rask_any (m : Nat) (a : Option Addr) (c : Nat) (T : List Nd) (pa : Option Addr) (pc : Nat) (P : List ByteArray) (k : Int) (w : World) (hT : TrRd w m a c T) (hB : BdT 1000000 3 T) (hM : MayT 3 T) (hP : Strs w pa pc P) (hcnt : cntT 3 T ≤ 100000) (hI : ∀ v, lookP T P k = some v → v.l.items.length ≤ 90000) :
    Calls Tryz.prog 13 #[.slice a T.length c, .agg #[.int .u8 k, .slice pa P.length pc]] w (AskTo w T k P) := by
  have HT := Lib.hid hT
  have HBd := Lib.hid hB
  have HM := Lib.hid hM
  have HP := Lib.hid hP
  have Hc := Lib.hid hcnt
  have HIt := Lib.hid hI
  clear hT hB hM hP hcnt hI
  go_enter Tryz.func13, Tryz.ntmps13
  go_wp2_with fail
  refine (qmay_any k pa pc P _ (HP.out.below (((Below.refl _ _).alloc (Nat.le_refl _) _).alloc (by simp) _))).mono ?_
  intro e w1 hto
  obtain ⟨z, rfl, hz, hb⟩ := hto
  obtain ⟨x0, x1, s1, B1⟩ := new2 hb
  have d0 := cells_at x0
  have d1 := cells_at x1
  have g1 := free_at x1
  have z1 := heap_lt x1
  have z0 := heap_lt x0
  have HX0 := Lib.hid x0
  have HX1 := Lib.hid x1
  have HB1 := Lib.hid B1
  have Hz := Lib.hid hz
  clear hb x0 x1 B1 hz
  cases z with
  | false =>
    have HQ := Lib.hid (show ¬ MayQ k P from fun h => by have := Hz.out.2 h; cases this)
    have HA := Lib.hid (show askT T k P = (⟨false, 0, []⟩, 2) by unfold askT; rw [if_neg HQ.out])
    go_wp2_with fail
    exact bodyPost_ret (v := .tuple #[.agg #[.bool false, .int .i64 0, .slice none 0 0], .int .i64 2]) (by simp [results, Tryz.results13, go_sem, d1, z1, Nat.ne_of_lt z1]; try rfl) rfl ⟨_, _, none, 0, HA.out, rfl, Sl.nil _ _, ((HB1.out.setCell (by simp) _).setCell (by simp) _).setCell (by simp) _⟩
  | true =>
    have HQ := Lib.hid (Hz.out.1 rfl)
    clear Hz
    go_wp2_with fail
    refine (rmayTop_any m a c T w1 (HT.out.below HB1.out) HBd.out).mono ?_
    intro e w2 hto
    obtain ⟨z, rfl, hz, hb⟩ := hto
    obtain rfl : z = true := hz.2 HM.out
    have HX2 := Lib.hid ((hb.block _ (heap_lt HX0.out)).trans HX0.out)
    have HX3 := Lib.hid ((hb.block _ (heap_lt HX1.out)).trans HX1.out)
    have HB2 := Lib.hid (below2 HB1.out hb HB1.out.size)
    clear hb hz d0 d1 g1 z0 z1 HX0 HX1 HB1 s1
    have d0 := cells_at HX2.out
    have d1 := cells_at HX3.out
    have g1 := free_at HX3.out
    have z1 := heap_lt HX3.out
    have z0 := heap_lt HX2.out
    by_cases h5 : k = 5
    · subst h5
      have HA := Lib.hid (show askT T 5 P = (⟨decide (0 < (belowP T P).length), 0, (belowP T P).map Nd.name⟩, 0) by unfold askT; rw [if_pos HQ.out, if_pos rfl])
      have hW : Below w2.heap.size w2 (w2.alloc (.cells #[.bool false, .int .i64 0, .slice none 0 0] 52)) := (Below.refl _ _).alloc (Nat.le_refl _) _
      go_wp2_with fail
      refine (rnames_any 3 m a c T pa pc P _ ((HT.out.below HB2.out).below hW) HM.out ((HP.out.below HB2.out).below hW) Hc.out).mono ?_
      intro e w3 hto
      obtain ⟨na, nc, L, rfl, hL, hOL, hb3⟩ := hto
      obtain ⟨y6, s3, B3⟩ := new1 hb3
      have HX4 := Lib.hid ((B3.block _ (heap_lt HX2.out)).trans HX2.out)
      have HX5 := Lib.hid ((B3.block _ (heap_lt HX3.out)).trans HX3.out)
      have HX6 := Lib.hid y6
      have HB3 := Lib.hid (below2 HB2.out B3 HB2.out.size)
      have HL := Lib.hid hL
      have HOL := Lib.hid hOL
      clear hW hL hOL hb3 y6 B3 d0 d1 g1 z0 z1
      have d0 := cells_at HX4.out
      have d1 := cells_at HX5.out
      have d6 := cells_at HX6.out
      have g1 := free_at HX5.out
      have g6 := free_at HX6.out
      have z0 := heap_lt HX4.out
      have z1 := heap_lt HX5.out
      have z6 := heap_lt HX6.out
      have z2 := heap_lt HX3.out
      clear HX4 HX5 HX6
      have HA2 := Lib.hid (show askT T 5 P = (⟨decide (0 < L.length), 0, L⟩, 0) by rw [HA.out, HL.out, List.length_map])
      go_wp2_with fail
      refine bodyPost_ret (v := .tuple #[.agg #[.bool (decide (0 < L.length)), .int .i64 0, .slice na L.length nc], .int .i64 0]) (by simp [results, Tryz.results13, go_sem, d1, d6, z1, Nat.ne_of_lt z1]; try rfl) rfl (ask_fin HA2.out ?_ ?_)
      · refine Sl.chg (F := [w2.heap.size, w.heap.size + 1]) HOL.out.strs ((((((Chg.refl _ _).set _ _ (by simp)).set _ _ (by simp)).set _ _ (by simp)).set _ _ (by simp)).set _ _ (by simp)) fun x hx => ?_
        have := (owns_lt HOL.out x hx).1
        simp at this ⊢
        omega
      · exact ((((HB3.out.setCell (by simp; omega) _).setCell (by simp; omega) _).setCell (by simp) _).setCell (by simp) _).setCell (by simp) _
    · have q5 : (k == 5) = false := by simpa using h5
      have hk : k = 1 ∨ k = 2 ∨ k = 3 ∨ k = 4 := by have h1 := HQ.out.1; have h2 := HQ.out.2.1; omega
      have Hk := Lib.hid hk
      have hW : Below w2.heap.size w2 (w2.alloc (.cells #[.bool false, .int .i64 0, .slice none 0 0] 52)) := (Below.refl _ _).alloc (Nat.le_refl _) _
      clear hk
      go_wp2_with fail
      refine (rleafT_any m a c T pa pc P k _ ((HT.out.below HB2.out).below hW) ((HP.out.below HB2.out).below hW) HQ.out.1 (by have := Hk.out; omega)).mono ?_
      intro e w3 hto
      obtain ⟨v, is, rfl, hz1, hz2, hrd, hb3⟩ := hto
      obtain ⟨y6, s3, B3⟩ := new1 hb3
      have HX4 := Lib.hid ((B3.block _ (heap_lt HX2.out)).trans HX2.out)
      have HX5 := Lib.hid ((B3.block _ (heap_lt HX3.out)).trans HX3.out)
      have HX6 := Lib.hid y6
      have HB3 := Lib.hid (below2 HB2.out B3 HB2.out.size)
      have HZ := Lib.hid (And.intro hz1 hz2)
      have HIn := Lib.hid (show v.l.items.length ≤ 90000 ∧ (k = 1 ∨ k = 2 → v.l.items = []) ∧ ∀ W, Below w.heap.size w W → Its W v.ia v.ic v.l.items from by
        cases is with
        | true =>
          have h1 := hz1 rfl
          have h2 := look_may HM.out h1
          refine ⟨HIt.out v h1, fun h => ?_, fun W hb => ((look_rd HT.out h1).below hb).1.its⟩
          rcases h2.1 with h3 | h3 | h3 | h3
          · exact h3.2.2.1
          · exact h3.2.2.2.1
          · have := h3.1; omega
          · have := h3.1; omega
        | false =>
          obtain ⟨_, rfl⟩ := hz2 rfl
          exact ⟨by simp [bareV, bare], fun _ => rfl, fun W hb => Sl.nil _ _⟩)
      clear hW hz1 hz2 hrd hb3 y6 B3 d0 d1 g1 z0 z1
      have d0 := cells_at HX4.out
      have d1 := cells_at HX5.out
      have d6 := cells_at HX6.out
      have g1 := free_at HX5.out
      have g6 := free_at HX6.out
      have z0 := heap_lt HX4.out
      have z1 := heap_lt HX5.out
      have z6 := heap_lt HX6.out
      have z2 := heap_lt HX3.out
      by_cases h2 : k = 2
      · subst h2
        by_cases ht : 0 < v.l.t
        · have qt : decide (0 < v.l.t) = true := by simpa using ht
          have hl0 : v.l.items.length = 0 := by rw [HIn.out.2.1 (.inr rfl)]; rfl
          have HF := Lib.hid (show askT T 2 P = (⟨true, v.l.n, [v.l.x]⟩, 0) by
            unfold askT
            rw [if_pos HQ.out, if_neg h5, ask_is Hk.out HZ.out.1 HZ.out.2 HIn.out.2.1, HIn.out.2.1 (.inr rfl), accP_nil]
            simp [v0, ht])
          go_wp2_with fail
          go_loop [9] (fun i => i = .int .i64 0) (fun _ => 0)
          case atStart => rfl
          case round =>
            subst hrel
            go_wp2_with fail
            refine bodyPost_ret (v := .tuple #[.agg #[.bool true, .int .i64 v.l.n, .slice (some ⟨w3.heap.size + 1, 0, none⟩) ([v.l.x] : List ByteArray).length 1], .int .i64 0]) (by simp [results, Tryz.results13, go_sem, d1, d6, z0, Nat.ne_of_lt z0, z1, Nat.ne_of_lt z1]; try rfl) rfl (ask_fin HF.out ?_ ?_)
            · exact str_new _ _ (by simp)
            exact ((((((((HB3.out.setCell (by simp; omega) _).setCell (by simp; omega) _).setCell (by simp; omega) _).setCell (by simp; omega) _).setCell (by simp) _).setCell (by simp) _).setCell (by simp) _).alloc (by simp; omega) _).alloc (by simp; omega) _
        · have qt : decide (0 < v.l.t) = false := by simpa using ht
          have hl0 : v.l.items.length = 0 := by rw [HIn.out.2.1 (.inr rfl)]; rfl
          have HF := Lib.hid (show askT T 2 P = (⟨false, v.l.n, []⟩, 0) by
            unfold askT
            rw [if_pos HQ.out, if_neg h5, ask_is Hk.out HZ.out.1 HZ.out.2 HIn.out.2.1, HIn.out.2.1 (.inr rfl), accP_nil]
            simp [v0, ht])
          go_wp2_with fail
          go_loop [9] (fun i => i = .int .i64 0) (fun _ => 0)
          case atStart => rfl
          case round =>
            subst hrel
            go_wp2_with fail
            refine bodyPost_ret (v := .tuple #[.agg #[.bool false, .int .i64 v.l.n, .slice none 0 0], .int .i64 0]) (by simp [results, Tryz.results13, go_sem, d1, d6, z1, Nat.ne_of_lt z1]; try rfl) rfl (ask_fin (V := []) HF.out (Sl.nil _ _) ?_)
            exact (((((((HB3.out.setCell (by simp; omega) _).setCell (by simp; omega) _).setCell (by simp; omega) _).setCell (by simp) _).setCell (by simp) _).setCell (by simp) _).alloc (by simp; omega) _)
      · have q2 : (k == 2) = false := by simpa using h2
        go_wp2_with fail
        have hz : v0 k v = [] := by unfold v0; rw [if_neg fun h => h2 h.1]
        have HF := Lib.hid (show askT T k P = (⟨is, v.l.n, accP k [] v.l.items⟩, 0) by
          unfold askT
          rw [if_pos HQ.out, if_neg h5, ask_is Hk.out HZ.out.1 HZ.out.2 HIn.out.2.1, hz, if_neg h2])
        have E := Lib.hid (AskE.first (k := k) (pa := pa) (pc := pc) (P := P) (v := v) HX4.out HX5.out HX6.out HB3.out z2 is v.l.n)
        have hle : v.l.items.length ≤ 90000 := HIn.out.1
        have hic := (HIn.out.2.2 w (Below.refl _ _)).2.2.1
        unfold maxLen at hic
        have HS := Lib.hid (show v.l.items ≠ [] → k = 3 ∨ k = 4 from fun h => by
          have := Hk.out
          have h1 : k ≠ 1 := fun e => h (HIn.out.2.1 (.inl e))
          omega)
        clear hz d0 d1 d6 g1 g6 z0 z1 z6 z2 HX4 HX5 HX6 HX2 HX3 HZ Hk
        generalize hb6 : w2.heap.size = b6 at *
        generalize hb7 : w3.heap.size = b7 at *
        go_loopw [9] (fun i wr => ∃ (q : Nat) (oa : Option Addr) (oc : Nat) (V : List ByteArray), q ≤ v.l.items.length ∧ i = .int .i64 q ∧ Hid (V = accP k [] (v.l.items.take q)) ∧ Hid (V.length ≤ q) ∧ Hid (AskE w wr b6 b7 k pa pc P is v.l.n oa oc V v)) (fun i _ => v.l.items.length - (intOf i).toNat)
        case atStart => exact ⟨0, none, 0, [], Nat.zero_le _, rfl, Lib.hid (by rw [List.take_zero, accP_nil]), Lib.hid (Nat.zero_le _), E⟩
        case round =>
          clear E
          obtain ⟨q, oa, oc, V, hq, rfl, HV, HL, E⟩ := hrel
          have hVl : V.length ≤ 100000 := by have := HL.out; omega
          have d0 := cells_at E.out.r0
          have d1 := cells_at E.out.r1
          have d6 := cells_at E.out.r6
          have d7 := cells_at E.out.r7
          have g1 := free_at E.out.r1
          have g6 := free_at E.out.r6
          have z0 := heap_lt E.out.r0
          have z1 := heap_lt E.out.r1
          have z6 := heap_lt E.out.r6
          have z7 := heap_lt E.out.r7
          have l1 := E.out.l1
          have l2 := E.out.l2
          simp only [lcells] at d7
          by_cases hlt : q < v.l.items.length
          · obtain ⟨x, hx⟩ : ∃ x, v.l.items[q]? = some x := ⟨v.l.items[q], by simp [hlt]⟩
            obtain ⟨ad, had, hit, hlb⟩ := (HIn.out.2.2 _ E.out.bel).at hx
            have c4 := hit.c4
            have Hx := Lib.hid hx
            have hk := HS.out (by intro e; rw [e] at hlt; simp at hlt)
            clear hx
            have hbz : b7 + 1 ≤ wr.heap.size := by omega
            by_cases h3 : k = 3
            · have q3 : (k == 3) = true := by simpa using h3
              have H3 := Lib.hid h3
              clear h3
              go_wp2_with fail
              refine region_text [([0, 1, 2, 3, 4, 5, 6, 7, 8, 9, 10], false)] mixed (by kernel_rfl) ?_
              simp only [wpSegs, List.map_cons, List.map_nil, List.getD_cons_succ, List.getD_cons_zero]
              go_wp2_with fail
              refine (once_any (b7 + 1) oa oc V x.x _ (E.out.own.below ((Below.refl _ _).drew)) hbz hVl).mono ?_
              intro e w4 hto
              obtain ⟨a4, c4', V4, rfl, ho4, hv4, hb4, hn4⟩ := hto
              have hW4 : Below wr.heap.size wr w4 := ((Below.refl _ _).drew).trans hb4
              have hE := E.out.put (hW4.mono hbz) ho4
              have HE4 := Lib.hid hE
              have HE5 := Lib.hid (E.out.step hW4)
              have HV4 := Lib.hid (show V4 = accP k [] (v.l.items.take (q + 1)) by
                rw [take_snoc' Hx.out, accP_snoc, if_pos H3.out, ← HV.out]
                exact hv4 (by rw [HV.out, H3.out]; exact accP_rises [] _ List.Pairwise.nil))
              have HL4 := Lib.hid (show V4.length ≤ q + 1 from by have := HL.out; omega)
              clear hW4 hE ho4 hv4 hb4 hn4 d0 d1 d6 d7 g1 g6 z0 z1 z6 z7 c4
              have d6 := cells_at HE5.out.r6
              have g6 := free_at HE5.out.r6
              have z6 := heap_lt HE5.out.r6
              go_wp2_with fail
              refine And.intro (by kernel_rfl) ?_
              go_wp2_with fail
              go_roundw
              case rel => exact ⟨q + 1, a4, c4', V4, by omega, by go_num, HV4, HL4, HE4⟩
              case measure => simp [intOf]; omega
            · have q3 : (k == 3) = false := by simpa using h3
              have H3 := Lib.hid h3
              clear h3
              go_wp2_with fail
              refine region_text [([0, 1, 2, 3, 4, 5, 6, 7, 8, 9, 10, 11], false)] mixed (by kernel_rfl) ?_
              simp only [wpSegs, List.map_cons, List.map_nil, List.getD_cons_succ, List.getD_cons_zero]
              go_wp2_with (at_builtin; go_must (refine wpList_appS rfl _ _ rfl (b7 + 1) oa oc V rfl ?o1 (some ⟨wr.heap.size, 0, none⟩) 1 [x.x] rfl ?s1 ?n1 ?b1 ?_))
              case o1 => exact E.out.own.below (((Below.refl _ _).alloc (Nat.le_refl _) _).drew)
              case s1 => exact str_one x.x (heap_new wr _)
              case n1 => simp; omega
              case b1 => simp; omega
              intro V4 a4 c4' w4 hv4 ho4 hb4 hC4
              have hW : Below wr.heap.size wr ((wr.alloc (.cells #[.string x.x] 9)).drew) := ((Below.refl _ _).alloc (Nat.le_refl _) _).drew
              have hE := E.out.put ((hW.mono hbz).trans hb4) ho4
              have HE4 := Lib.hid hE
              have hz4 : wr.heap.size ≤ w4.heap.size := by have := hC4.size; simp at this; omega
              have h6 := (hb4.block b6 (by omega)).trans ((hW.block b6 (by omega)).trans E.out.r6)
              have H6 := Lib.hid h6
              have HV4 := Lib.hid (show V4 = accP k [] (v.l.items.take (q + 1)) by
                rw [take_snoc' Hx.out, accP_snoc, if_neg H3.out, ← HV.out]
                exact hv4)
              have HL4 := Lib.hid (show V4.length ≤ q + 1 from by rw [hv4]; have := HL.out; simp; omega)
              clear hW hE ho4 hv4 hb4 hC4 h6 d0 d1 d6 d7 g1 g6 z0 z1 z6 z7 c4
              have d6 := cells_at H6.out
              have g6 := free_at H6.out
              have z6 := heap_lt H6.out
              go_wp2_with fail
              refine And.intro (by kernel_rfl) ?_
              go_wp2_with fail
              go_roundw
              case rel => exact ⟨q + 1, a4, c4', V4, by omega, by go_num, HV4, HL4, HE4⟩
              case measure => simp [intOf]; omega
          · have HV2 := Lib.hid (show accP k [] v.l.items = V by rw [HV.out, List.take_of_length_le (by omega)])
            go_wp2_with fail
            refine bodyPost_ret (v := .tuple #[.agg #[.bool is, .int .i64 v.l.n, .slice oa V.length oc], .int .i64 0]) (by simp [results, Tryz.results13, go_sem, d1, d6, z1, Nat.ne_of_lt z1]; try rfl) rfl (ask_fin (HF.out.trans (by rw [HV2.out])) ?_ ?_)
            · refine Sl.chg (F := [w.heap.size + 1]) E.out.own.strs ((((Chg.refl _ _).set _ _ (by simp)).set _ _ (by simp)).set _ _ (by simp)) fun x hx => ?_
              have := (owns_lt E.out.own x hx).1
              simp at this ⊢
              omega
            · exact ((E.out.bel.setCell (by simp) _).setCell (by simp) _).setCell (by simp) _
end Go.Proofs.YtmabjghjkgicgaaGreat

