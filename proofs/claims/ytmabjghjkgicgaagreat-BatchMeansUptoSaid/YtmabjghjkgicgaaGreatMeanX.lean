/- The reference's node, Leaf. | Nodes, leaves, rows of leaves in memory of one's own; what is behind a place of a slice. -/
import Derived.Test.YtmabjghjkgicgaaGreatMeanV
import Derived.Test.YtmabjghjkgicgaaGreatAqA
import Derived.Test.YtmabjghjkgicgaaGreatBatC
/- MeanX -/
namespace Go.Proofs.YtmabjghjkgicgaaGreat
open Go.RowKit
set_option linter.unusedVariables false
set_option linter.unusedSimpArgs false

def NodeTo (w : World) (T : List Nd) (s : ByteArray) (e : Ending) (w' : World) : Prop :=
  ((∃ x, findN T s = some x ∧ e = .returned (.tuple #[.agg #[.string x.name, .slice x.la x.ls.length x.lc, .slice x.ba x.kids.length x.bc], .bool true])) ∨
   (findN T s = none ∧ e = .returned (.tuple #[.agg #[.string ⟨#[]⟩, .slice none 0 0, .slice none 0 0], .bool false]))) ∧ Below w.heap.size w w'
theorem findN_take {T : List Nd} {s : ByteArray} {q : Nat} {x : Nd} (hx : T[q]? = some x) (h : ∀ y ∈ T.take q, ¬ y.name = s) (hs : x.name = s) : findN T s = some x := by
  have hq := (List.getElem?_eq_some_iff.1 hx).1
  have e : T = T.take q ++ x :: T.drop (q + 1) := by
    rw [← (List.getElem?_eq_some_iff.1 hx).2, List.getElem_cons_drop, List.take_append_drop]
  unfold findN
  rw [e, List.find?_append, List.find?_eq_none.2 fun y hy => by simpa using h y hy, List.find?_cons_of_pos (by simpa using hs)]
  rfl
theorem findL_take {ls : List Lv} {k : Int} {q : Nat} {x : Lv} (hx : ls[q]? = some x) (h : ∀ y ∈ ls.take q, ¬ y.l.k = k) (hs : x.l.k = k) : findL ls k = some x := by
  have hq := (List.getElem?_eq_some_iff.1 hx).1
  have e : ls = ls.take q ++ x :: ls.drop (q + 1) := by
    rw [← (List.getElem?_eq_some_iff.1 hx).2, List.getElem_cons_drop, List.take_append_drop]
  unfold findL
  rw [e, List.find?_append, List.find?_eq_none.2 fun y hy => by simpa using h y hy, List.find?_cons_of_pos (by simpa using hs)]
  rfl
theorem findN_none {T : List Nd} {s : ByteArray} (h : ∀ y ∈ T, ¬ y.name = s) : findN T s = none := by
  unfold findN
  rw [List.find?_eq_none]
  intro x hx
  simpa using h x hx
theorem findL_none {ls : List Lv} {k : Int} (h : ∀ y ∈ ls, ¬ y.l.k = k) : findL ls k = none := by
  unfold findL
  rw [List.find?_eq_none]
  intro x hx
  simpa using h x hx
theorem below_three {B : Nat} {w w1 : World} (h : Below B w w1) {b : Nat} (hb : B ≤ b) (x0 x1 x2 : Value) : Below B w (((w1.setCell ⟨b, 0, none⟩ x0).setCell ⟨b, 1, none⟩ x1).setCell ⟨b, 2, none⟩ x2) :=
  ((h.setCell hb _).setCell hb _).setCell hb _
set_option maxRecDepth 100000 in
set_option maxHeartbeats 1000000 in
theorem rnode_any (a : Option Addr) (c : Nat) (T : List Nd) (s : ByteArray) (w : World) (h : Sl w 3 a T.length c (T.flatMap ndcell)) :
    Calls Tryz.prog 51 #[.slice a T.length c, .string s] w (NodeTo w T s) := by
  have H := Lib.hid h
  have hlen := h.2.1
  have hcap := h.2.2.1
  unfold maxLen at hcap
  clear h
  go_enter Tryz.func51, Tryz.ntmps51
  go_wp2_with fail
  go_loop [6] (fun i => ∃ q : Nat, q ≤ T.length ∧ i = .int .i64 q ∧ Hid (∀ y ∈ T.take q, ¬ y.name = s)) (fun i => T.length - (intOf i).toNat)
  case atStart => exact ⟨0, Nat.zero_le _, rfl, Lib.hid (by simp)⟩
  case round =>
    obtain ⟨q, hq, rfl, HO⟩ := hrel
    have hB0 : Below w.heap.size w (w.alloc (.cells #[.string ⟨#[]⟩, .slice none 0 0, .slice none 0 0] 80)) := (Below.refl _ _).alloc (Nat.le_refl _) _
    have HB0 := Lib.hid hB0
    have b0 := heap_new w (.cells #[.string ⟨#[]⟩, .slice none 0 0, .slice none 0 0] 80)
    have d0 := cells_at b0
    have g0 := free_at b0
    clear b0 hB0
    by_cases hlt : q < T.length
    · obtain ⟨x, hx⟩ : ∃ x, T[q]? = some x := ⟨T[q], by simp [hlt]⟩
      obtain ⟨ad, had, ⟨c0, c1, c2⟩, hlb⟩ := nds_at (H.out.below HB0.out) hx
      subst had
      have Hx := Lib.hid hx
      clear hx
      by_cases he : x.name = s
      · have HF := Lib.hid (findN_take Hx.out HO.out he)
        have He := Lib.hid he
        have e1 : (x.name.toList == s.toList) = true := by rw [he]; simp
        clear he
        go_wp2_with fail
        exact bodyPost_ret (v := .tuple #[.agg #[.string x.name, .slice x.la x.ls.length x.lc, .slice x.ba x.kids.length x.bc], .bool true]) (by simp [results, Tryz.results51, go_sem]; try rfl) rfl ⟨.inl ⟨x, HF.out, rfl⟩, (Below.refl _ _).alloc (Nat.le_refl _) _⟩
      · have e1 : (x.name.toList == s.toList) = false := by rw [beq_bytes]; simpa using he
        have He := Lib.hid he
        clear he
        go_wp2_with fail
        go_round
        case rel => exact ⟨q + 1, by omega, by go_num, Lib.hid (all_snoc (p := fun y : Nd => ¬ y.name = s) Hx.out HO.out He.out)⟩
        case measure => simp [intOf]; omega
    · have HF := Lib.hid (show findN T s = none from findN_none fun y hy => HO.out y (by rw [List.take_of_length_le (by omega)]; exact hy))
      go_wp2_with fail
      exact bodyPost_ret (v := .tuple #[.agg #[.string ⟨#[]⟩, .slice none 0 0, .slice none 0 0], .bool false]) (by simp [results, Tryz.results51, go_sem]; try rfl) rfl ⟨.inr ⟨HF.out, rfl⟩, (Below.refl _ _).alloc (Nat.le_refl _) _⟩
theorem TrRd.in_ {w : World} {n : Nat} {a : Option Addr} {c : Nat} {T : List Nd} (h : TrRd w n a c T) {x : Nd} (hx : x ∈ T) : ∃ n', LvsRd w x.la x.lc x.ls ∧ TrRd w n' x.ba x.bc x.kids := by
  cases n with
  | zero => rw [h.1] at hx; cases hx
  | succ n => exact ⟨n, h.2 x hx⟩
def bareV (k : Int) : Lv := ⟨bare k, none, 0, none, 0⟩
theorem bareV_rd (w : World) {k : Int} (h1 : 1 ≤ k) (h4 : k ≤ 4) : LvRd w (bareV k) := by
  refine ⟨⟨Sl.nil _ _, Sl.nil _ _, ⟨by show 0 ≤ k; omega, by show k ≤ 255; omega⟩, ?_, ?_, ?_, ?_⟩, ?_⟩
  · show isU 0; unfold isU; omega
  · show okD noDot; simp [okD, okA, noDot]
  · intro x hx; cases hx
  · intro d hd; cases hd
  · show IntKind.wrap .i64 0 = 0; decide +kernel
abbrev lagg (v : Lv) : Value := .agg #[.int .u8 v.l.k, .int .i64 v.l.n, .int .u64 v.l.t, .int .u8 v.l.d.1.1, .int .u32 v.l.d.1.2, .int .u64 v.l.d.2, .string v.l.x, .slice v.ia v.l.items.length v.ic, .slice v.ta v.l.tombs.length v.tc]
def LeafTo (w : World) (T : List Nd) (p : List ByteArray) (k : Int) (e : Ending) (w' : World) : Prop :=
  ∃ (v : Lv) (z : Bool), e = .returned (.tuple #[lagg v, .bool z]) ∧ (z = true → lookP T p k = some v) ∧ (z = false → lookP T p k = none ∧ v = bareV k) ∧ LvRd w' v ∧ Below w.heap.size w w'
def zcellsK (k : Int) : Array Value := #[.int .u8 k, .int .i64 0, .int .u64 0, .int .u8 0, .int .u32 0, .int .u64 0, .string ⟨#[]⟩, .slice none 0 0, .slice none 0 0]
structure LkE (w W : World) (b1 b2 : Nat) (k : Int) (n : Nd) : Prop where
  r0 : W.heap[w.heap.size]? = some (.cells zcells1 48 (0, 0))
  r1 : W.heap[b1]? = some (.cells (zcellsK k) 48 (0, 0))
  r2 : W.heap[b2]? = some (.cells #[.string n.name, .slice n.la n.ls.length n.lc, .slice n.ba n.kids.length n.bc] 80 (0, 0))
  l1 : w.heap.size < b1
  l2 : b1 < b2
  bel : Below w.heap.size w W
theorem LkE.step {w W W' : World} {b1 b2 : Nat} {k : Int} {n : Nd} (h : LkE w W b1 b2 k n) (hb : Below W.heap.size W W') : LkE w W' b1 b2 k n :=
  ⟨(hb.block _ (heap_lt h.r0)).trans h.r0, (hb.block _ (heap_lt h.r1)).trans h.r1, (hb.block _ (heap_lt h.r2)).trans h.r2, h.l1, h.l2, below2 h.bel hb h.bel.size⟩
theorem LkE.put {w W : World} {b1 b2 : Nat} {k : Int} {n : Nd} (h : LkE w W b1 b2 k n) (x : Nd) :
    LkE w (((W.setCell ⟨b2, 0, none⟩ (.string x.name)).setCell ⟨b2, 1, none⟩ (.slice x.la x.ls.length x.lc)).setCell ⟨b2, 2, none⟩ (.slice x.ba x.kids.length x.bc)) b1 b2 k x := by
  have hC : Chg [b2] W (((W.setCell ⟨b2, 0, none⟩ (.string x.name)).setCell ⟨b2, 1, none⟩ (.slice x.la x.ls.length x.lc)).setCell ⟨b2, 2, none⟩ (.slice x.ba x.kids.length x.bc)) :=
    (((Chg.setCell W ⟨b2, 0, none⟩ _).set _ _ (by simp)).set _ _ (by simp))
  have h0 := heap_set (heap_set (heap_set h.r2 0 (.string x.name)) 1 (.slice x.la x.ls.length x.lc)) 2 (.slice x.ba x.kids.length x.bc)
  simp only [List.setIfInBounds_toArray, List.set_cons_zero, List.set_cons_succ] at h0
  have := h.l1
  have := h.l2
  exact ⟨(hC.block _ (heap_lt h.r0) (by simp; omega)).trans h.r0, (hC.block _ (heap_lt h.r1) (by simp; omega)).trans h.r1, h0, h.l1, h.l2, below_three h.bel (by omega) _ _ _⟩
theorem lookP_cons (T : List Nd) (s : ByteArray) (p : List ByteArray) (k : Int) : lookP T (s :: p) k = (findN T s).bind fun x => match p with | [] => findL x.ls k | _ :: _ => lookP x.kids p k := rfl
def LookAt (T : List Nd) (P : List ByteArray) (k : Int) (q : Nat) (U : List Nd) (n : Nd) : Prop :=
  (P.drop q ≠ [] → lookP T P k = lookP U (P.drop q) k) ∧ (P.drop q = [] → lookP T P k = findL n.ls k)
theorem LookAt.none {T U : List Nd} {P : List ByteArray} {k : Int} {q : Nat} {n : Nd} {s : ByteArray} (h : LookAt T P k q U n) (hs : P[q]? = some s) (hn : findN U s = none) : lookP T P k = none := by
  have hd : P.drop q = s :: P.drop (q + 1) := by
    rw [← (List.getElem?_eq_some_iff.1 hs).2, List.getElem_cons_drop]
  rw [h.1 (by rw [hd]; simp), hd, lookP_cons, hn]; rfl
theorem LookAt.next {T U : List Nd} {P : List ByteArray} {k : Int} {q : Nat} {n x : Nd} {s : ByteArray} (h : LookAt T P k q U n) (hs : P[q]? = some s) (hn : findN U s = some x) : LookAt T P k (q + 1) x.kids x := by
  have hd : P.drop q = s :: P.drop (q + 1) := by
    rw [← (List.getElem?_eq_some_iff.1 hs).2, List.getElem_cons_drop]
  have h1 := h.1 (by rw [hd]; simp)
  rw [hd, lookP_cons, hn, Option.bind_some] at h1
  refine ⟨fun hne => ?_, fun he => ?_⟩
  · rw [h1]
    cases e : P.drop (q + 1) with
    | nil => exact absurd e hne
    | cons a b => rfl
  · rw [h1, he]
set_option maxRecDepth 100000 in
set_option maxHeartbeats 600000 in
theorem rleafT_any (m : Nat) (a : Option Addr) (c : Nat) (T : List Nd) (pa : Option Addr) (pc : Nat) (P : List ByteArray) (k : Int) (w : World) (hT : TrRd w m a c T) (hP : Strs w pa pc P) (hk1 : 1 ≤ k) (hk4 : k ≤ 4) :
    Calls Tryz.prog 30 #[.slice a T.length c, .slice pa P.length pc, .int .u8 k] w (LeafTo w T P k) := by
  have HT := Lib.hid hT
  have HP := Lib.hid hP
  have hlen := hT.sl.2.1
  have hcap := hT.sl.2.2.1
  have hpl := hP.2.1
  have hpc := hP.2.2.1
  unfold maxLen at hcap hpc
  clear hT hP
  go_enter Tryz.func30, Tryz.ntmps30
  go_wp2_with fail
  refine (newLf_any k _).mono ?_
  rintro e w1 ⟨rfl, hb1⟩
  rw [if_pos ⟨hk1, hk4⟩]
  obtain ⟨x0, s0, B0⟩ := new1 hb1
  have E : Hid (LkE w ((w1.alloc (.cells (zcellsK k) 48)).alloc (.cells #[.string ⟨#[]⟩, .slice none 0 0, .slice none 0 0] 80)) w1.heap.size (w1.heap.size + 1) k (noNd ⟨#[]⟩)) := by
    have hb : Below w1.heap.size w1 ((w1.alloc (.cells (zcellsK k) 48)).alloc (.cells #[.string ⟨#[]⟩, .slice none 0 0, .slice none 0 0] 80)) := ((Below.refl _ _).alloc (Nat.le_refl _) _).alloc (by simp) _
    obtain ⟨h0, h1, _, _⟩ := new2 (Below.refl _ ((w1.alloc (.cells (zcellsK k) 48)).alloc (.cells #[.string ⟨#[]⟩, .slice none 0 0, .slice none 0 0] 80)))
    exact Lib.hid ⟨(hb.block _ (heap_lt x0)).trans x0, h0, h1, heap_lt x0, by omega, below2 B0 hb B0.size⟩
  clear hb1 x0 B0
  go_wp2_with fail
  go_loopw [0, 10] (fun t i wr => ∃ (q m' : Nat) (ta : Option Addr) (tc : Nat) (U : List Nd) (n : Nd), q ≤ P.length ∧ i = .int .i64 q ∧ t = .slice ta U.length tc ∧ Hid (TrRd w m' ta tc U) ∧ Hid (LvsRd w n.la n.lc n.ls) ∧ Hid (LookAt T P k q U n) ∧ Hid (LkE w wr w1.heap.size (w1.heap.size + 1) k n)) (fun _ i _ => P.length - (intOf i).toNat)
  case atStart =>
    exact ⟨0, m, a, c, T, noNd ⟨#[]⟩, Nat.zero_le _, rfl, rfl, HT, Lib.hid ⟨Sl.nil _ _, fun v hv => (by cases hv)⟩, Lib.hid ⟨fun _ => rfl, fun h => by rw [show P = [] from h]; rfl⟩, E⟩
  case round =>
    clear E
    obtain ⟨q, m', ta, tc, U, n, hq, rfl, rfl, HU, HN, HL, E⟩ := hrel
    have hul := HU.out.sl.2.1
    have huc := HU.out.sl.2.2.1
    unfold maxLen at huc
    have d0 := cells_at E.out.r0
    have d1 := cells_at E.out.r1
    have d2 := cells_at E.out.r2
    have g0 := free_at E.out.r0
    have g2 := free_at E.out.r2
    have z0 := heap_lt E.out.r0
    have z1 := heap_lt E.out.r1
    have z2 := heap_lt E.out.r2
    simp only [zcellsK, zcells1] at d0 d1
    by_cases hlt : q < P.length
    · obtain ⟨s, hs⟩ : ∃ s, P[q]? = some s := ⟨P[q], by simp [hlt]⟩
      obtain ⟨ad, had, c0, hlb⟩ := (HP.out.below E.out.bel).at hs
      subst had
      have Hs := Lib.hid hs
      clear hs
      go_wp2_with fail
      refine (rnode_any ta tc U s _ (HU.out.below E.out.bel).sl).mono ?_
      intro e w2 hto
      obtain ⟨hto, hb2⟩ := hto
      have E2 := Lib.hid (E.out.step hb2)
      clear d0 d1 d2 g0 g2 z0 z1 z2 c0 E
      have d0 := cells_at E2.out.r0
      have d1 := cells_at E2.out.r1
      have d2 := cells_at E2.out.r2
      have g0 := free_at E2.out.r0
      have g2 := free_at E2.out.r2
      have z0 := heap_lt E2.out.r0
      have z1 := heap_lt E2.out.r1
      have z2 := heap_lt E2.out.r2
      simp only [zcellsK, zcells1] at d0 d1
      rcases hto with ⟨x, hx, rfl⟩ | ⟨hx, rfl⟩
      · have HX := Lib.hid (HL.out.next Hs.out hx)
        have Hmem := Lib.hid (findN_mem hx).1
        clear hx hb2
        obtain ⟨m2, hL2, hK2⟩ := HU.out.in_ Hmem.out
        have HL2 := Lib.hid hL2
        have HK2 := Lib.hid hK2
        clear hL2 hK2
        go_wp2_with fail
        go_roundw
        case rel => exact ⟨q + 1, m2, x.ba, x.bc, x.kids, x, by omega, by go_num, rfl, HK2, HL2, HX, Lib.hid ((E2.out.put x).step ((Below.refl _ _).alloc (Nat.le_refl _) _))⟩
        case measure => simp [intOf]; omega
      · have HX := Lib.hid (HL.out.none Hs.out hx)
        clear hx hb2
        go_wp2_with fail
        exact bodyPost_ret (v := .tuple #[.agg #[.int .u8 k, .int .i64 0, .int .u64 0, .int .u8 0, .int .u32 0, .int .u64 0, .string ⟨#[]⟩, .slice none 0 0, .slice none 0 0], .bool false]) (by simp [results, Tryz.results30, go_sem, d0, z0, Nat.ne_of_lt z0]; try rfl) rfl ⟨bareV k, false, rfl, nofun, fun _ => ⟨HX.out, rfl⟩, bareV_rd _ hk1 hk4, (fin9 E2.out.bel (Nat.le_refl _) _ _ _ _ _ _ _ _ _).alloc (by simp; omega) _⟩
    · have HF := Lib.hid (HL.out.2 (List.drop_eq_nil_of_le (by omega)))
      have hnl := HN.out.1.2.1
      have hnc := HN.out.1.2.2.1
      unfold maxLen at hnc
      go_wp2_with fail
      go_loop [13] (fun j => ∃ r : Nat, r ≤ n.ls.length ∧ j = .int .i64 r ∧ Hid (∀ y ∈ n.ls.take r, ¬ y.l.k = k)) (fun j => n.ls.length - (intOf j).toNat)
      case atStart => exact ⟨0, Nat.zero_le _, rfl, Lib.hid (by simp)⟩
      case round =>
        obtain ⟨r, hr, rfl, HO⟩ := hrel
        by_cases hlt2 : r < n.ls.length
        · obtain ⟨v, hv⟩ : ∃ v, n.ls[r]? = some v := ⟨n.ls[r], by simp [hlt2]⟩
          obtain ⟨al, hal, ⟨e0, e1, e2, e3, e4, e5, e6, e7, e8⟩, hlv, _⟩ := (HN.out.below E.out.bel).at hv
          rw [hal] at d2
          have Hv := Lib.hid hv
          have Hvr := Lib.hid (HN.out.2 v (List.mem_of_getElem? hv))
          clear hv hal
          by_cases he : v.l.k = k
          · have HF2 := Lib.hid (show lookP T P k = some v from HF.out.trans (findL_take Hv.out HO.out he))
            have q1 : (v.l.k == k) = true := by rw [he]; simp
            clear he
            go_wp2_with fail
            exact bodyPost_ret (v := .tuple #[lagg v, .bool true]) (by simp [results, Tryz.results30, go_sem, d0]; try rfl) rfl ⟨v, true, rfl, fun _ => HF2.out, nofun, Hvr.out.below (fin9 E.out.bel (Nat.le_refl _) _ _ _ _ _ _ _ _ _), fin9 E.out.bel (Nat.le_refl _) _ _ _ _ _ _ _ _ _⟩
          · have q1 : (v.l.k == k) = false := by simpa using he
            have He := Lib.hid he
            clear he
            go_wp2_with fail
            go_round
            case rel => exact ⟨r + 1, by omega, by go_num, Lib.hid (all_snoc (p := fun y : Lv => ¬ y.l.k = k) Hv.out HO.out He.out)⟩
            case measure => simp [intOf]; omega
        · have HF2 := Lib.hid (show lookP T P k = none from HF.out.trans (findL_none fun y hy => HO.out y (by rw [List.take_of_length_le (by omega)]; exact hy)))
          go_wp2_with fail
          exact bodyPost_ret (v := .tuple #[.agg #[.int .u8 k, .int .i64 0, .int .u64 0, .int .u8 0, .int .u32 0, .int .u64 0, .string ⟨#[]⟩, .slice none 0 0, .slice none 0 0], .bool false]) (by simp [results, Tryz.results30, go_sem, d0]; try rfl) rfl ⟨bareV k, false, rfl, nofun, fun _ => ⟨HF2.out, rfl⟩, bareV_rd _ hk1 hk4, fin9 E.out.bel (Nat.le_refl _) _ _ _ _ _ _ _ _ _⟩
end Go.Proofs.YtmabjghjkgicgaaGreat

/- MeanY -/
namespace Go.Proofs.YtmabjghjkgicgaaGreat
open Go.RowKit
set_option linter.unusedVariables false
set_option linter.unusedSimpArgs false

theorem Tryz.info_nd : (Tryz.prog.info? 80).map (fun i => (i.zero, i.size, i.bytes)) = some (some (.agg #[.string ⟨#[]⟩, .slice none 0 0, .slice none 0 0]), 3, 64) := by kernel_rfl
theorem Tryz.info_lf : (Tryz.prog.info? 48).map (fun i => (i.zero, i.size, i.bytes)) = some (some (.agg #[.int .u8 0, .int .i64 0, .int .u64 0, .int .u8 0, .int .u32 0, .int .u64 0, .string ⟨#[]⟩, .slice none 0 0, .slice none 0 0]), 9, 104) := by kernel_rfl
/-- a leaf, and its path -/
structure Rw where
  p : List ByteArray
  pa : Option Addr
  pc : Nat
  v : Lv
def rwcell (r : Rw) : List Value := .slice r.pa r.p.length r.pc :: lvcell r.v
theorem rwcell_len (r : Rw) : (rwcell r).length = 10 := rfl
theorem Tryz.info_rw : (Tryz.prog.info? 50).map (fun i => (i.zero, i.size, i.bytes)) = some (some (.agg #[.slice none 0 0, .int .u8 0, .int .i64 0, .int .u64 0, .int .u8 0, .int .u32 0, .int .u64 0, .string ⟨#[]⟩, .slice none 0 0, .slice none 0 0]), 10, 128) := by kernel_rfl
theorem ndcells_one (T : List Nd) : ∀ u ∈ T.flatMap ndcell, u.oneCell' = true := by
  intro u hu
  simp only [List.mem_flatMap] at hu
  obtain ⟨x, _, hx⟩ := hu
  simp [ndcell] at hx
  rcases hx with rfl | rfl | rfl <;> rfl
theorem lvcell_one (v : Lv) : ∀ u ∈ lvcell v, u.oneCell' = true := by
  intro u hu
  simp [lvcell, lcells] at hu
  rcases hu with rfl | rfl | rfl | rfl | rfl | rfl | rfl | rfl | rfl <;> rfl
theorem lvcells_one (ls : List Lv) : ∀ u ∈ ls.flatMap lvcell, u.oneCell' = true := by
  intro u hu
  simp only [List.mem_flatMap] at hu
  obtain ⟨x, _, hx⟩ := hu
  exact lvcell_one x u hx
theorem rwcells_one (R : List Rw) : ∀ u ∈ R.flatMap rwcell, u.oneCell' = true := by
  intro u hu
  simp only [List.mem_flatMap] at hu
  obtain ⟨x, _, hx⟩ := hu
  rcases List.mem_cons.1 hx with rfl | hx
  · rfl
  · exact lvcell_one x.v u hx
def OwnN (w : World) (base : Nat) (a : Option Addr) (c : Nat) (T : List Nd) : Prop := w.ownsRow base 80 3 (.slice a T.length c) T.length (T.flatMap ndcell)
def OwnF (w : World) (base : Nat) (a : Option Addr) (c : Nat) (ls : List Lv) : Prop := w.ownsRow base 48 9 (.slice a ls.length c) ls.length (ls.flatMap lvcell)
def OwnR (w : World) (base : Nat) (a : Option Addr) (c : Nat) (R : List Rw) : Prop := w.ownsRow base 50 10 (.slice a R.length c) R.length (R.flatMap rwcell)
theorem OwnN.nil (w : World) (base : Nat) : OwnN w base none 0 [] := World.ownsRow_nil _ _ _ _
theorem OwnF.nil (w : World) (base : Nat) : OwnF w base none 0 [] := World.ownsRow_nil _ _ _ _
theorem OwnR.nil (w : World) (base : Nat) : OwnR w base none 0 [] := World.ownsRow_nil _ _ _ _
theorem OwnN.sl {w : World} {base : Nat} {a : Option Addr} {c : Nat} {T : List Nd} (h : OwnN w base a c T) : Sl w 3 a T.length c (T.flatMap ndcell) := Sl.of_owns h
theorem OwnF.sl {w : World} {base : Nat} {a : Option Addr} {c : Nat} {T : List Lv} (h : OwnF w base a c T) : Sl w 9 a T.length c (T.flatMap lvcell) := Sl.of_owns h
theorem OwnR.sl {w : World} {base : Nat} {a : Option Addr} {c : Nat} {T : List Rw} (h : OwnR w base a c T) : Sl w 10 a T.length c (T.flatMap rwcell) := Sl.of_owns h
theorem OwnN.below {w w' : World} {base : Nat} {a : Option Addr} {c : Nat} {T : List Nd} (h : OwnN w base a c T) (hb : Below w.heap.size w w') : OwnN w' base a c T := owns_chg (F := []) h (Chg.of_below hb) (by simp)
theorem OwnF.below {w w' : World} {base : Nat} {a : Option Addr} {c : Nat} {T : List Lv} (h : OwnF w base a c T) (hb : Below w.heap.size w w') : OwnF w' base a c T := owns_chg (F := []) h (Chg.of_below hb) (by simp)
theorem OwnR.below {w w' : World} {base : Nat} {a : Option Addr} {c : Nat} {T : List Rw} (h : OwnR w base a c T) (hb : Below w.heap.size w w') : OwnR w' base a c T := owns_chg (F := []) h (Chg.of_below hb) (by simp)
section
variable {w : World} {ops : Array Oper} {rest : List Oper} {o : Oper} {a : Act} {Q : Exit → Act → World → Prop}
theorem wpList_appN (hgd : o.guard = none) (s x : Operand) (ho : o.op = .call { callee := .builtin .append, args := #[s, x], argTypes := #[23, 23] })
    (base : Nat) (va : Option Addr) (vc : Nat) (v : List Nd) (hs : a.eval s = .slice va v.length vc) (hown : OwnN w base va vc v)
    (sa : Option Addr) (c : Nat) (u : List Nd) (hx : a.eval x = .slice sa u.length c) (hsl : Sl w 3 sa u.length c (u.flatMap ndcell)) (hn : v.length + u.length ≤ 3000000) (hbase : base ≤ w.heap.size)
    (h : ∀ v' a' c' w', v' = v ++ u → OwnN w' base a' c' v' → Below base w w' → Chg (ob va) w w' → (∀ k ∈ ob a', k ∈ ob va ∨ w.heap.size ≤ k) → wpList Tryz.prog ops Q rest (a.put o.dst (.slice a' (List.length v') c')) w') : wpList Tryz.prog ops Q (o :: rest) a w := by
  obtain ⟨i0, hi0, hz0, hz1, hz2⟩ := info_parts Tryz.info_nd
  refine wpList_append_sl hgd s x 23 ho base 80 i0 (.agg #[.string ⟨#[]⟩, .slice none 0 0, .slice none 0 0]) 3 64 Tryz.underlying23 hi0 hz0 hz1 hz2 rfl (by decide) va v.length vc (v.flatMap ndcell) hs hown sa u.length c (u.flatMap ndcell) hx hsl (ndcells_one u) (by unfold maxLen; omega) (by omega) hbase fun a' c' w' h1 h2 h3 => ?_
  have := h (v ++ u) a' c' w' rfl (by unfold OwnN; rw [List.flatMap_append, List.length_append]; exact h1) (h2.below hbase fun k hk => (owns_lt hown k hk).1) h2 h3
  rwa [List.length_append] at this
theorem wpList_appF (hgd : o.guard = none) (s x : Operand) (ho : o.op = .call { callee := .builtin .append, args := #[s, x], argTypes := #[78, 78] })
    (base : Nat) (va : Option Addr) (vc : Nat) (v : List Lv) (hs : a.eval s = .slice va v.length vc) (hown : OwnF w base va vc v)
    (sa : Option Addr) (c : Nat) (u : List Lv) (hx : a.eval x = .slice sa u.length c) (hsl : Sl w 9 sa u.length c (u.flatMap lvcell)) (hn : v.length + u.length ≤ 3000000) (hbase : base ≤ w.heap.size)
    (h : ∀ v' a' c' w', v' = v ++ u → OwnF w' base a' c' v' → Below base w w' → Chg (ob va) w w' → (∀ k ∈ ob a', k ∈ ob va ∨ w.heap.size ≤ k) → wpList Tryz.prog ops Q rest (a.put o.dst (.slice a' (List.length v') c')) w') : wpList Tryz.prog ops Q (o :: rest) a w := by
  obtain ⟨i0, hi0, hz0, hz1, hz2⟩ := info_parts Tryz.info_lf
  refine wpList_append_sl hgd s x 78 ho base 48 i0 (.agg #[.int .u8 0, .int .i64 0, .int .u64 0, .int .u8 0, .int .u32 0, .int .u64 0, .string ⟨#[]⟩, .slice none 0 0, .slice none 0 0]) 9 104 Tryz.underlying78 hi0 hz0 hz1 hz2 rfl (by decide) va v.length vc (v.flatMap lvcell) hs hown sa u.length c (u.flatMap lvcell) hx hsl (lvcells_one u) (by unfold maxLen; omega) (by omega) hbase fun a' c' w' h1 h2 h3 => ?_
  have := h (v ++ u) a' c' w' rfl (by unfold OwnF; rw [List.flatMap_append, List.length_append]; exact h1) (h2.below hbase fun k hk => (owns_lt hown k hk).1) h2 h3
  rwa [List.length_append] at this
theorem wpList_appR (hgd : o.guard = none) (s x : Operand) (ho : o.op = .call { callee := .builtin .append, args := #[s, x], argTypes := #[37, 37] })
    (base : Nat) (va : Option Addr) (vc : Nat) (v : List Rw) (hs : a.eval s = .slice va v.length vc) (hown : OwnR w base va vc v)
    (sa : Option Addr) (c : Nat) (u : List Rw) (hx : a.eval x = .slice sa u.length c) (hsl : Sl w 10 sa u.length c (u.flatMap rwcell)) (hn : v.length + u.length ≤ 3000000) (hbase : base ≤ w.heap.size)
    (h : ∀ v' a' c' w', v' = v ++ u → OwnR w' base a' c' v' → Below base w w' → Chg (ob va) w w' → (∀ k ∈ ob a', k ∈ ob va ∨ w.heap.size ≤ k) → wpList Tryz.prog ops Q rest (a.put o.dst (.slice a' (List.length v') c')) w') : wpList Tryz.prog ops Q (o :: rest) a w := by
  obtain ⟨i0, hi0, hz0, hz1, hz2⟩ := info_parts Tryz.info_rw
  refine wpList_append_sl hgd s x 37 ho base 50 i0 (.agg #[.slice none 0 0, .int .u8 0, .int .i64 0, .int .u64 0, .int .u8 0, .int .u32 0, .int .u64 0, .string ⟨#[]⟩, .slice none 0 0, .slice none 0 0]) 10 128 Tryz.underlying37 hi0 hz0 hz1 hz2 rfl (by decide) va v.length vc (v.flatMap rwcell) hs hown sa u.length c (u.flatMap rwcell) hx hsl (rwcells_one u) (by unfold maxLen; omega) (by omega) hbase fun a' c' w' h1 h2 h3 => ?_
  have := h (v ++ u) a' c' w' rfl (by unfold OwnR; rw [List.flatMap_append, List.length_append]; exact h1) (h2.below hbase fun k hk => (owns_lt hown k hk).1) h2 h3
  rwa [List.length_append] at this
end
theorem nd_one {w : World} {b : Nat} (x : Nd) (h : w.heap[b]? = some (.cells (ndcell x).toArray 80 (0, 0))) : Sl w 3 (some ⟨b, 0, none⟩) 1 1 ([x].flatMap ndcell) := by
  have := Sl.blk (n := 1) (size := 3) h rfl (by unfold maxLen; omega)
  simpa using this
theorem lv_one {w : World} {b : Nat} (x : Lv) (h : w.heap[b]? = some (.cells (lcells x.l x.ia x.ic x.ta x.tc) 48 (0, 0))) : Sl w 9 (some ⟨b, 0, none⟩) 1 1 ([x].flatMap lvcell) := by
  have := Sl.blk (n := 1) (size := 9) h rfl (by unfold maxLen; omega)
  simpa [lvcell] using this
theorem rw_one {w : World} {b : Nat} (x : Rw) (h : w.heap[b]? = some (.cells (rwcell x).toArray 50 (0, 0))) : Sl w 10 (some ⟨b, 0, none⟩) 1 1 ([x].flatMap rwcell) := by
  have := Sl.blk (n := 1) (size := 10) h rfl (by unfold maxLen; omega)
  simpa using this
theorem slice_loN (oa : Option Addr) (n oc j : Nat) (hj : j ≤ n) (hn : n ≤ oc) (W : World) : (Instr.sliceAt 23 (.slice oa n oc) (some (.int .i64 (j : Int))) none none).run Tryz.prog W = .ok (.slice (if oc = j then oa else oa.map (·.add (j * 3))) (n - j) (oc - j)) W := by
  simp [go_sem, Instr.sliceAt, Instr.slice, run_underlying Tryz.underlying23]
  intro h; omega
theorem slice_loF (oa : Option Addr) (n oc j : Nat) (hj : j ≤ n) (hn : n ≤ oc) (W : World) : (Instr.sliceAt 78 (.slice oa n oc) (some (.int .i64 (j : Int))) none none).run Tryz.prog W = .ok (.slice (if oc = j then oa else oa.map (·.add (j * 9))) (n - j) (oc - j)) W := by
  simp [go_sem, Instr.sliceAt, Instr.slice, run_underlying Tryz.underlying78]
  intro h; omega
theorem slice_loS (oa : Option Addr) (n oc j : Nat) (hj : j ≤ n) (hn : n ≤ oc) (W : World) : (Instr.sliceAt 39 (.slice oa n oc) (some (.int .i64 (j : Int))) none none).run Tryz.prog W = .ok (.slice (if oc = j then oa else oa.map (·.add (j * 1))) (n - j) (oc - j)) W := by
  simp [go_sem, Instr.sliceAt, Instr.slice, run_underlying Tryz.underlying39]
  intro h; omega
theorem slice_hiS (oa : Option Addr) (n oc j : Nat) (hj : j ≤ oc) (W : World) : (Instr.sliceAt 39 (.slice oa n oc) none (some (.int .i64 (j : Int))) none).run Tryz.prog W = .ok (.slice oa j oc) W := by
  simp [go_sem, Instr.sliceAt, Instr.slice, run_underlying Tryz.underlying39]
  omega
/-- nodes, leaves, strings behind a place -/
theorem cutN (a : Option Addr) (c : Nat) (V : List Nd) (k : Nat) (hk : k ≤ V.length) (hc : V.length ≤ c) : ∃ sa sc u, u = V.drop k ∧ (∀ W : World, (Instr.sliceAt 23 (.slice a V.length c) (some (.int .i64 (k : Int))) none none).run Tryz.prog W = .ok (.slice sa (List.length u) sc) W) ∧ ∀ w, Sl w 3 a V.length c (V.flatMap ndcell) → Sl w 3 sa u.length sc (u.flatMap ndcell) :=
  ⟨_, _, V.drop k, rfl, fun W => by rw [slice_loN a V.length c k hk hc W, List.length_drop], fun w h => Sl.dropK (enc := ndcell) ndcell_len h hk⟩
theorem cutF (a : Option Addr) (c : Nat) (V : List Lv) (k : Nat) (hk : k ≤ V.length) (hc : V.length ≤ c) : ∃ sa sc u, u = V.drop k ∧ (∀ W : World, (Instr.sliceAt 78 (.slice a V.length c) (some (.int .i64 (k : Int))) none none).run Tryz.prog W = .ok (.slice sa (List.length u) sc) W) ∧ ∀ w, Sl w 9 a V.length c (V.flatMap lvcell) → Sl w 9 sa u.length sc (u.flatMap lvcell) :=
  ⟨_, _, V.drop k, rfl, fun W => by rw [slice_loF a V.length c k hk hc W, List.length_drop], fun w h => Sl.dropK (enc := lvcell) lvcell_len h hk⟩
theorem scells_flat (l : List ByteArray) : scells l = l.flatMap (fun x => [Value.string x]) := by unfold scells; exact strs_flat l
theorem cutS (a : Option Addr) (c : Nat) (V : List ByteArray) (k : Nat) (hk : k ≤ V.length) (hc : V.length ≤ c) : ∃ sa sc u, u = V.drop k ∧ (∀ W : World, (Instr.sliceAt 39 (.slice a V.length c) (some (.int .i64 (k : Int))) none none).run Tryz.prog W = .ok (.slice sa (List.length u) sc) W) ∧ ∀ w, Strs w a c V → Strs w sa sc u :=
  ⟨_, _, V.drop k, rfl, fun W => by rw [slice_loS a V.length c k hk hc W, List.length_drop], fun w h => by
    unfold Strs at h ⊢
    rw [scells_flat] at h ⊢
    exact Sl.dropK (enc := fun x : ByteArray => [Value.string x]) (fun _ => rfl) h hk⟩
theorem takeS {w : World} {a : Option Addr} {c : Nat} {V : List ByteArray} (h : Strs w a c V) {j : Nat} (hj : j ≤ V.length) : Strs w a c (V.take j) := by
  unfold Strs at h ⊢
  rw [scells_flat] at h ⊢
  exact Sl.takeK (enc := fun x : ByteArray => [Value.string x]) (fun _ => rfl) h hj
end Go.Proofs.YtmabjghjkgicgaaGreat
