/- varvelaw15.both: the contract. (printed by wip/tools/genboth.py) | varvelaw15.known: the contract. -/
import Derived.Test.YthdmoplclllhjaaGreatBothA
import Derived.Test.YthdmoplclllhjaaGreatRMbA
import Derived.Test.YthdmoplclllhjaaGreatHeaF
import Derived.Test.YthdmoplclllhjaaGreatGraQ
import Derived.Test.YthdmoplclllhjaaGreatRgA
/- Bo15 -/
namespace Go.Proofs.YthdmoplclllhjaaGreat
open Go.RowKit
set_option linter.unusedVariables false
set_option linter.unusedSimpArgs false

set_option maxRecDepth 100000 in
set_option maxHeartbeats 16000000 in
theorem both15_any (v : Bw) (m : Nat) (la : Option Addr) (lc : Nat) (l : List Cw) (w : World) (h : BwAt w m v) (hl : Cms w la lc l) (htp : v.b.tips.length ≤ 1100000) (hB : BdA 1100000 3 v.b.tr) :
    Calls Tryz.prog 49 #[.agg (bwcells v), .slice la l.length lc] w (PairTo w v m 40) := by
  obtain ⟨⟨num, F, tips, t, tr⟩, fa, fc, ta, tc, ra, rc⟩ := v
  have H := Lib.hid h
  have HL := Lib.hid hl
  have HBd := Lib.hid hB
  have hlm := hl.sl.2.2.1
  have hln := hl.sl.2.1
  have hfm := h.f.2.2.1
  have hfn := h.f.2.1
  unfold maxLen at hlm hfm
  dsimp only at htp hfm hfn
  have E : Hid (BoxE 28 w (w.alloc (.cells (basecells num fa F.length fc ta tips.length tc t ra tr.length rc) 28)) (basecells num fa F.length fc ta tips.length tc t ra tr.length rc)) := Lib.hid ⟨heap_new _ _, (Below.refl _ _).alloc (Nat.le_refl _) _⟩
  clear h hl hB
  simp only [bwcells]
  go_enter Tryz.func49, Tryz.ntmps49
  by_cases h40 : 40 < l.length
  · have x1 : decide ((40 : Int) < (l.length : Int)) = true := decide_eq_true (by omega)
    go_wp2_with fail
    exact bodyPost_ret (v := .tuple #[.pointer none, .pointer none, .bool false]) (by simp [results, Tryz.results49, go_sem]; try rfl) rfl (PairTo.no E.out.bel)
  have x1 : decide ((40 : Int) < (l.length : Int)) = false := decide_eq_false (by omega)
  by_cases h64 : 64 < F.length
  · have x2 : decide ((64 : Int) < (F.length : Int)) = true := decide_eq_true (by omega)
    go_wp2_with fail
    exact bodyPost_ret (v := .tuple #[.pointer none, .pointer none, .bool false]) (by simp [results, Tryz.results49, go_sem]; try rfl) rfl (PairTo.no E.out.bel)
  have x2 : decide ((64 : Int) < (F.length : Int)) = false := decide_eq_false (by omega)
  go_wp2_with fail
  refine (rmayBase_any ⟨⟨num, F, tips, t, tr⟩, fa, fc, ta, tc, ra, rc⟩ m _ (H.out.below E.out.bel) (by show F.length ≤ 1100000; omega) htp HBd.out).mono ?_
  intro e w2 hto
  obtain ⟨z, rfl, hz, hb⟩ := hto
  replace E := Lib.hid (E.out.step hb)
  have Hz := Lib.hid hz
  clear hb hz
  have d0 := cells_at E.out.blk
  simp only [basecells] at d0
  have z0 := heap_lt E.out.blk
  cases z with
  | false =>
    go_wp2_with fail
    exact bodyPost_ret (v := .tuple #[.pointer none, .pointer none, .bool false]) (by simp [results, Tryz.results49, go_sem]; try rfl) rfl (PairTo.no E.out.bel)
  | true =>
    have HP := Lib.hid (Hz.out.1 rfl)
    clear Hz
    go_wp2_with fail
    refine (new_any ⟨⟨num, F, tips, t, tr⟩, fa, fc, ta, tc, ra, rc⟩ m _ (H.out.below E.out.bel) (by show F.length ≤ 1100000; omega) htp HBd.out).mono ?_
    intro e w3 hto
    rcases hto with ⟨_, pg, mb, w0, b, va, vc, rfl, hsame, hG, hb, hold⟩ | ⟨hn, _, _⟩
    rotate_left
    · exact absurd HP.out hn
    have hE2 := E.out.bel.size
    replace E := Lib.hid (E.out.step hb)
    have Hs := Lib.hid hsame
    have HG := Lib.hid hG
    have hold2 : w.heap.size ≤ w0.heap.size := Nat.le_trans hE2 hold
    clear hb hsame hG d0 z0
    have d0 := cells_at E.out.blk
    simp only [basecells] at d0
    have z0 := heap_lt E.out.blk
    have W0 : Hid (PairE w (w3.alloc (.cells (rgcells num fa F.length fc ta tips.length tc t ra tr.length rc none 0 0) 61)) ⟨⟨num, F, tips, t, tr⟩, fa, fc, ta, tc, ra, rc⟩ m pg mb w0 b [] va vc b.b.f w3.heap.size [] none 0) := Lib.hid (by
      have hA : Below w3.heap.size w3 (w3.alloc (.cells (rgcells num fa F.length fc ta tips.length tc t ra tr.length rc none 0 0) 61)) := (Below.refl _ _).alloc (Nat.le_refl _) _
      have hcan : canonV F = F := HP.out.canon
      have hbf : b.b.f = F := Hs.out.f
      exact ⟨HG.out.below hA, ⟨heap_new _ _, below2 E.out.bel hA E.out.bel.size, E.out.bel.size, H.out, OwnC.nil _ _, fun y hy => (by cases hy), List.Pairwise.nil, List.nodup_nil, fun y hy => (by cases hy), Nat.zero_le _, hcan⟩, hbf, Hs.out.tips, Hs.out.tr, List.Perm.refl _, by rw [hbf]; exact HistP.start H.out.okf hcan, HistI.start _, hold2, HG.out.bel.size, below2 E.out.bel hA E.out.bel.size⟩)
    clear E HG
    go_wp2_with fail
    generalize b.b.f = vv0 at W0
    go_loopw [36] (fun j wr => ∃ (q : Nat) (L : List Cw) (va' : Option Addr) (vc' : Nat) (vv : List Dt) (S : List Cw) (la' : Option Addr) (lc' : Nat), q ≤ l.length ∧ j = .int .i64 q ∧ L.length ≤ q ∧ Hid (PairE w wr ⟨⟨num, F, tips, t, tr⟩, fa, fc, ta, tc, ra, rc⟩ m pg mb w0 b L va' vc' vv w3.heap.size S la' lc')) (fun j _ => l.length - (intOf j).toNat)
    case atStart => exact ⟨0, [], va, vc, vv0, [], none, 0, Nat.zero_le _, rfl, Nat.le_refl _, W0⟩
    case round =>
      obtain ⟨q, L, va', vc', vv, S, la', lc', hq, rfl, hLq, W⟩ := hrel
      clear W0 d0 z0
      by_cases hlt : q < l.length
      · obtain ⟨v, hv⟩ : ∃ v, l[q]? = some v := ⟨l[q], by simp [hlt]⟩
        obtain ⟨ad, had, ⟨c0, c1, c2, c3, c4, c5, c6, c7, c8, c9, c10⟩, hlb⟩ := (HL.out.below W.out.bel).at_ hv
        subst had
        have Hat := Lib.hid (HL.out.each v (List.mem_of_getElem? hv))
        clear hv
        obtain ⟨⟨⟨⟨r, i⟩, s⟩, ps, uu, t1, ⟨k, n, x, p, ds⟩⟩, qa, qc, ua, uc, pa, pc, da, dc⟩ := v
        dsimp only at c0 c1 c2 c3 c4 c5 c6 c7 c8 c9 c10
        have b1 := Hat.out.ps.2.2.1
        have b2 := Hat.out.vv.2.2.1
        have b3 := Hat.out.ds.2.2.1
        have b4 := Hat.out.ps.2.1
        have b5 := Hat.out.vv.2.1
        have b6 := Hat.out.ds.2.1
        unfold maxLen at b1 b2 b3
        dsimp only at b1 b2 b3 b4 b5 b6
        have HA : Hid (BoxE 46 wr (wr.alloc (.cells (ccells r i s qa ps.length qc ua uu.length uc t1 k pa p.length pc n x da ds.length dc) 46)) (ccells r i s qa ps.length qc ua uu.length uc t1 k pa p.length pc n x da ds.length dc)) := Lib.hid ⟨heap_new _ _, (Below.refl _ _).alloc (Nat.le_refl _) _⟩
        have WA := Lib.hid (W.out.below HA.out.bel)
        by_cases h1 : 64 < ps.length
        · have y1 : decide ((64 : Int) < (ps.length : Int)) = true := decide_eq_true (by omega)
          go_wp2_with fail
          exact bodyPost_ret (v := .tuple #[.pointer none, .pointer none, .bool false]) (by simp [results, Tryz.results49, go_sem]; try rfl) rfl (PairTo.no WA.out.bel)
        have y1 : decide ((64 : Int) < (ps.length : Int)) = false := decide_eq_false (by omega)
        by_cases h2 : 64 < uu.length
        · have y2 : decide ((64 : Int) < (uu.length : Int)) = true := decide_eq_true (by omega)
          go_wp2_with fail
          exact bodyPost_ret (v := .tuple #[.pointer none, .pointer none, .bool false]) (by simp [results, Tryz.results49, go_sem]; try rfl) rfl (PairTo.no WA.out.bel)
        have y2 : decide ((64 : Int) < (uu.length : Int)) = false := decide_eq_false (by omega)
        by_cases h3 : 100 < ds.length
        · have y3 : decide ((100 : Int) < (ds.length : Int)) = true := decide_eq_true (by omega)
          go_wp2_with fail
          exact bodyPost_ret (v := .tuple #[.pointer none, .pointer none, .bool false]) (by simp [results, Tryz.results49, go_sem]; try rfl) rfl (PairTo.no WA.out.bel)
        have y3 : decide ((100 : Int) < (ds.length : Int)) = false := decide_eq_false (by omega)
        go_wp2_with fail
        refine (insert_G pg mb w0 3 b L va' vc' vv ⟨⟨((r, i), s), ps, uu, t1, ⟨k, n, x, p, ds⟩⟩, qa, qc, ua, uc, pa, pc, da, dc⟩ _ WA.out.gr (Hat.out.below WA.out.bel) (by dsimp only; omega)).mono ?_
        intro e w4 hto
        have HB4 := Lib.hid (hto.keep HA.out.blk (by have := heap_lt W.out.gr.blk; omega) (by have := W.out.gr.map.lt; omega))
        obtain ⟨x1, rfl, hR, hbel, hnext⟩ := WA.out.ins_ (c := ⟨⟨((r, i), s), ps, uu, t1, ⟨k, n, x, p, ds⟩⟩, qa, qc, ua, uc, pa, pc, da, dc⟩) Hat.out.ok.vv hto
        have HR := Lib.hid hR
        have HN := Lib.hid hnext
        clear hto hR hnext c0 c1 c2 c3 c4 c5 c6 c7 c8 c9 c10 hlb WA HA
        have d0 := cells_at HB4.out
        simp only [ccells] at d0
        have z0 := heap_lt HB4.out
        go_wp2_with fail
        refine (insert_R w3.heap.size w m ⟨⟨num, F, tips, t, tr⟩, fa, fc, ta, tc, ra, rc⟩ S la' lc' ⟨⟨((r, i), s), ps, uu, t1, ⟨k, n, x, p, ds⟩⟩, qa, qc, ua, uc, pa, pc, da, dc⟩ _ HR.out Hat.out (by dsimp only; omega)).mono ?_
        intro e w5 hto
        obtain ⟨rfl, hn⟩ := HN.out e w5 hto
        have HW : Hid (∃ (L2 : List Cw) (va2 : Option Addr) (vc2 : Nat) (vv2 : List Dt) (S2 : List Cw) (la2 : Option Addr) (lc2 : Nat), L2.length ≤ q + 1 ∧ PairE w w5 ⟨⟨num, F, tips, t, tr⟩, fa, fc, ta, tc, ra, rc⟩ m pg mb w0 b L2 va2 vc2 vv2 w3.heap.size S2 la2 lc2) := Lib.hid (by
          rcases hn with ⟨_, h⟩ | ⟨_, u, va2, vc2, la2, lc2, _, h⟩
          · exact ⟨L, va', vc', vv, S, la', lc', by omega, h⟩
          · exact ⟨L ++ [u], va2, vc2, _, _, la2, lc2, by simp; omega, h⟩)
        clear hto hn HR HN d0 z0 HB4
        obtain ⟨L2, va2, vc2, vv2, S2, la2, lc2, hl2, hW2⟩ := HW.out
        have W2 := Lib.hid hW2
        clear hW2 HW
        go_wp2_with fail
        go_roundw
        case rel => exact ⟨q + 1, L2, va2, vc2, vv2, S2, la2, lc2, by omega, by go_num, hl2, W2⟩
        case measure => simp [intOf]; omega
      · go_wp2_with fail
        exact bodyPost_ret (v := .tuple #[.pointer (some ⟨pg, 0, none⟩), .pointer (some ⟨w3.heap.size, 0, none⟩), .bool true]) (by simp [results, Tryz.results49, go_sem]; try rfl) rfl (.inr ⟨pg, mb, w0, b, L, va', vc', vv, w3.heap.size, S, la', lc', rfl, W.out, by omega, HP.out⟩)
end Go.Proofs.YthdmoplclllhjaaGreat

/- Kno15 -/
namespace Go.Proofs.YthdmoplclllhjaaGreat
open Go.RowKit
set_option linter.unusedVariables false
set_option linter.unusedSimpArgs false

/-- the example's commits, plainly -/
def kT (i t : Int) : Cm := ⟨((i, 1), 1), [], [((i, 1), 1)], t, kO⟩
def k15 : List Cm := [kT 0 1, kT 1 3, kT 2 2]
theorem kn_T (fd : Fd) (i t : Int) (x : Ac) : knN [] fd (kT i t) (kT i t).ps x = getN (kT i t).vv x := by
  show max (min (getN [((i, 1), 1)] x) (getN [] x)) (getN [((i, 1), 1)] x) = getN [((i, 1), 1)] x
  have := (getN_bd [((i, 1), 1)] x).1
  have h : getN [] x = 0 := rfl
  omega
theorem kT_may0 : CmP (kT 0 1) := ⟨by decide, by decide, by decide, kO_may, by decide +kernel, by decide +kernel, by decide, ⟨List.Pairwise.nil, fun x hx => by cases hx⟩, ⟨List.Pairwise.nil, fun x hx => by cases hx⟩⟩
theorem kT_may1 : CmP (kT 1 3) := ⟨by decide, by decide, by decide, kO_may, by decide +kernel, by decide +kernel, by decide, ⟨List.Pairwise.nil, fun x hx => by cases hx⟩, ⟨List.Pairwise.nil, fun x hx => by cases hx⟩⟩
theorem kT_may2 : CmP (kT 2 2) := ⟨by decide, by decide, by decide, kO_may, by decide +kernel, by decide +kernel, by decide, ⟨List.Pairwise.nil, fun x hx => by cases hx⟩, ⟨List.Pairwise.nil, fun x hx => by cases hx⟩⟩
theorem kT_ok0 : insE [] (findC []) 0 (kT 0 1) = 0 :=
  insE_ok kT_may0 (by decide +kernel) ⟨fun p hp => (by cases hp), fun h => absurd h (by decide), fun x => Int.le_of_eq (kn_T _ _ _ x).symm⟩ ⟨fun x => Int.le_of_eq (kn_T _ _ _ x), ⟨.inl rfl, fun p hp => (by cases hp)⟩⟩ (by decide)
theorem kT_ok1 : insE [] (findC [kT 0 1]) 1 (kT 1 3) = 0 :=
  insE_ok kT_may1 (by decide +kernel) ⟨fun p hp => (by cases hp), fun h => absurd h (by decide), fun x => Int.le_of_eq (kn_T _ _ _ x).symm⟩ ⟨fun x => Int.le_of_eq (kn_T _ _ _ x), ⟨.inl rfl, fun p hp => (by cases hp)⟩⟩ (by decide)
theorem kT_ok2 : insE [] (findC [kT 0 1, kT 1 3]) 2 (kT 2 2) = 0 :=
  insE_ok kT_may2 (by decide +kernel) ⟨fun p hp => (by cases hp), fun h => absurd h (by decide), fun x => Int.le_of_eq (kn_T _ _ _ x).symm⟩ ⟨fun x => Int.le_of_eq (kn_T _ _ _ x), ⟨.inl rfl, fun p hp => (by cases hp)⟩⟩ (by decide)
theorem k15_ok {q : Nat} {c : Cm} (h : k15[q]? = some c) : insE [] (findC (k15.take q)) q c = 0 := by
  match q, h with
  | 0, h => cases h; exact kT_ok0
  | 1, h => cases h; exact kT_ok1
  | 2, h => cases h; exact kT_ok2
  | q + 3, h => simp [k15] at h
theorem k15_sorted {S : List Cm} (hp : S.Perm k15) (hs : SortedC S) : S = [kT 0 1, kT 2 2, kT 1 3] := by
  refine sorted_uniq hp hs (L := k15) ?_ ?_
  · exact List.Perm.cons _ (List.Perm.swap _ _ _)
  · unfold SortedC
    simp only [List.pairwise_cons, List.mem_cons, List.not_mem_nil, or_false, forall_eq_or_imp, forall_eq, ltC_b]
    refine ⟨⟨by decide +kernel, by decide +kernel⟩, by decide +kernel, fun a ha => (by cases ha), List.Pairwise.nil⟩
theorem k15_lack : lackP [kT 0 1, kT 2 2, kT 1 3] [] 2 = [kT 0 1, kT 2 2] := by
  unfold lackP
  have h0 : hasV [] (kT 0 1).d = false := by decide +kernel
  have h1 : hasV [] (kT 2 2).d = false := by decide +kernel
  have h2 : hasV [] (kT 1 3).d = false := by decide +kernel
  simp [h0, h1, h2]
theorem two_of {R : List Cw} {a b : Cm} (h : cms R = [a, b]) : ∃ x y, R = [x, y] ∧ x.c = a ∧ y.c = b := by
  match R, h with
  | [], h => cases h
  | [x], h => simp [cms] at h
  | [x, y], h => simp [cms] at h; exact ⟨x, y, rfl, h.1, h.2⟩
  | x :: y :: z :: r, h => simp [cms] at h
structure K15G (w1 wr : World) (pg mb : Nat) (w0 : World) (b : Bw) (L : List Cw) (va : Option Addr) (vc : Nat) (vv : List Dt) (q : Nat) : Prop where
  gr : GrAt wr pg mb w0 0 b L va vc vv
  cm : cms L = k15.take q
  bel : Below w1.heap.size w1 wr
theorem K15G.below {w1 wr w' : World} {pg mb : Nat} {w0 : World} {b : Bw} {L : List Cw} {va : Option Addr} {vc : Nat} {vv : List Dt} {q : Nat} (h : K15G w1 wr pg mb w0 b L va vc vv q) (hb : Below wr.heap.size wr w') : K15G w1 w' pg mb w0 b L va vc vv q :=
  ⟨h.gr.below hb, h.cm, below2 h.bel hb h.bel.size⟩
theorem K15G.step {w wr w' : World} {pg mb : Nat} {w0 : World} {b : Bw} {L : List Cw} {va : Option Addr} {vc : Nat} {vv : List Dt} {q : Nat} {c : Cm} {e : Ending} (hb : b.b.f = []) (hp : w.heap.size ≤ pg ∧ w.heap.size ≤ mb) (h : K15G w wr pg mb w0 b L va vc vv q) (hc : k15[q]? = some c) (hi : InsTo wr pg mb w0 0 b L vv c e w') :
    ∃ (L' : List Cw) (va' : Option Addr) (vc' : Nat) (vv' : List Dt), e = .returned (.int .i64 0) ∧ K15G w w' pg mb w0 b L' va' vc' vv' (q + 1) := by
  have hq : q ≤ 3 := by have h1 := (List.getElem?_eq_some_iff.1 hc).1; simp [k15] at h1; omega
  have hl : L.length = q := by
    have h1 : (cms L).length = (k15.take q).length := by rw [h.cm]
    simp [cms, k15] at h1
    omega
  have h0 : insE b.b.f (findC (cms L)) L.length c = 0 := by rw [hb, h.cm, hl]; exact k15_ok hc
  obtain ⟨rfl, ⟨hz, _⟩ | ⟨_, u, va', vc', hu, hG, hC⟩⟩ := hi
  · exact absurd h0 hz
  have h1 : cms (L ++ [u]) = cms L ++ [c] := by simp [cms, hu]
  rw [hb] at h0
  refine ⟨L ++ [u], va', vc', joinV vv c.vv, by rw [hb]; rw [h0], hG, ?_, h.bel.trans (hC.below h.bel.size (fun k hk => by simp at hk; rcases hk with rfl | rfl <;> omega))⟩
  rw [h1, h.cm, take_snoc' hc]
/-- the example's commit q, in rows of its own -/
def cw15 (s : Nat) (i t : Int) : Cw := ⟨kT i t, none, 0, some ⟨s + 1, 0, none⟩, 1, some ⟨s + 2, 0, none⟩, 1, none, 0⟩
theorem cw15_at {w : World} {s : Nat} {i t : Int} (h1 : w.heap[s + 1]? = some (.cells #[.int .u8 i, .int .u32 1, .int .u64 1] 41 (0, 0))) (h2 : w.heap[s + 2]? = some (.cells #[.string ⟨#[97]⟩] 9 (0, 0))) (ok : okD ((i, 1), 1)) (ht : 0 ≤ t ∧ t ≤ 18446744073709551615) : CwAt w (cw15 s i t) :=
  ⟨Sl.nil _ _, Sl.blk (n := 1) (size := 3) h1 rfl (by decide), Sl.blk (n := 1) (size := 1) h2 rfl (by decide), Sl.nil _ _, ok, fun d hd => (by cases hd), fun d hd => (by simp [cw15, kT] at hd; subst hd; exact ok), ht, fun d hd => (by cases hd)⟩
@[go_sem] theorem index3_0 (a b c : Value) (w : World) : (Instr.index 139 (.agg #[a, b, c]) (.int .i64 0)).run Tryz.prog w = .ok a w := by kernel_rfl
@[go_sem] theorem index3_1 (a b c : Value) (w : World) : (Instr.index 139 (.agg #[a, b, c]) (.int .i64 1)).run Tryz.prog w = .ok b w := by kernel_rfl
@[go_sem] theorem index3_2 (a b c : Value) (w : World) : (Instr.index 139 (.agg #[a, b, c]) (.int .i64 2)).run Tryz.prog w = .ok c w := by kernel_rfl
theorem three_own (w : World) (a b c : Obj) : Below w.heap.size w (((w.alloc a).alloc b).alloc c) ∧ (((w.alloc a).alloc b).alloc c).heap[w.heap.size + 1]? = some b ∧ (((w.alloc a).alloc b).alloc c).heap[w.heap.size + 2]? = some c := by
  refine ⟨(((Below.refl _ _).alloc (Nat.le_refl _) _).alloc (by simp) _).alloc (by simp <;> omega) _, (heap_old _ _ (by simp <;> omega)).trans (heap_new2 _ _ _), ?_⟩
  have h := heap_new ((w.alloc a).alloc b) c
  have e : ((w.alloc a).alloc b).heap.size = w.heap.size + 2 := by simp
  rw [e] at h
  exact h
set_option maxRecDepth 100000 in
set_option maxHeartbeats 16000000 in
theorem known15_any (w : World) : Calls Tryz.prog 50 #[] w fun e w' => e = .returned (.bool true) ∧ Below w.heap.size w w' := by
  go_enter Tryz.func50, Tryz.ntmps50
  go_wp2_with fail
  refine (newE_any w).mono ?_
  intro e w1 hto
  obtain ⟨pg, mb, w0, b, va, vc, rfl, hbb, hG, hB, hz⟩ := hto
  have Hbf := Lib.hid (show b.b.f = [] by rw [hbb])
  have Hpl := Lib.hid (show w.heap.size ≤ pg ∧ w.heap.size ≤ mb from ⟨Nat.le_trans hz hG.old.1, Nat.le_trans hz hG.old.2⟩)
  have G0 : Hid (K15G w w1 pg mb w0 b [] va vc [] 0) := Lib.hid ⟨hG, rfl, hB⟩
  clear hG hB hbb
  go_wp2_with fail
  go_loopw [15] (fun j wr => ∃ (q : Nat) (L : List Cw) (va' : Option Addr) (vc' : Nat) (vv : List Dt), q ≤ 3 ∧ j = .int .i64 q ∧ Hid (K15G w wr pg mb w0 b L va' vc' vv q)) (fun j _ => 3 - (intOf j).toNat)
  case atStart => exact ⟨0, [], va, vc, [], by omega, rfl, G0⟩
  case round =>
    obtain ⟨q, L, va', vc', vv, hq, rfl, G⟩ := hrel
    clear G0
    by_cases hlt : q < 3
    · obtain rfl | rfl | rfl : q = 0 ∨ q = 1 ∨ q = 2 := by omega
      · obtain ⟨hA, hv, hp⟩ := three_own wr (.cells #[.int .u8 0, .int .u32 1, .int .u64 1] 41) (.cells #[.int .u8 0, .int .u32 1, .int .u64 1] 41) (.cells #[.string ⟨#[97]⟩] 9)
        have HA := Lib.hid hA
        have HC := Lib.hid (cw15_at (i := 0) (t := 1) hv hp ⟨⟨by decide, by decide, by decide⟩, by decide, by decide⟩ (by decide))
        have GA := Lib.hid (G.out.below HA.out)
        clear hA hv hp
        go_wp2_with fail
        refine (insert_G pg mb w0 0 b L va' vc' vv (cw15 wr.heap.size 0 1) _ GA.out.gr HC.out (by simp [cw15, kT])).mono ?_
        intro e w9 hto
        obtain ⟨L', va2, vc2, vv2, rfl, hG⟩ := K15G.step (q := 0) Hbf.out Hpl.out GA.out rfl hto
        have G9 := Lib.hid hG
        clear hto hG HA GA HC
        go_wp2_with fail
        go_roundw
        case rel => exact ⟨0 + 1, L', va2, vc2, vv2, by omega, by go_num, G9⟩
        case measure => simp [intOf]
      · obtain ⟨hA, hv, hp⟩ := three_own wr (.cells #[.int .u8 1, .int .u32 1, .int .u64 1] 41) (.cells #[.int .u8 1, .int .u32 1, .int .u64 1] 41) (.cells #[.string ⟨#[97]⟩] 9)
        have HA := Lib.hid hA
        have HC := Lib.hid (cw15_at (i := 1) (t := 3) hv hp ⟨⟨by decide, by decide, by decide⟩, by decide, by decide⟩ (by decide))
        have GA := Lib.hid (G.out.below HA.out)
        clear hA hv hp
        go_wp2_with fail
        refine (insert_G pg mb w0 0 b L va' vc' vv (cw15 wr.heap.size 1 3) _ GA.out.gr HC.out (by simp [cw15, kT])).mono ?_
        intro e w9 hto
        obtain ⟨L', va2, vc2, vv2, rfl, hG⟩ := K15G.step (q := 1) Hbf.out Hpl.out GA.out rfl hto
        have G9 := Lib.hid hG
        clear hto hG HA GA HC
        go_wp2_with fail
        go_roundw
        case rel => exact ⟨1 + 1, L', va2, vc2, vv2, by omega, by go_num, G9⟩
        case measure => simp [intOf]
      · obtain ⟨hA, hv, hp⟩ := three_own wr (.cells #[.int .u8 2, .int .u32 1, .int .u64 1] 41) (.cells #[.int .u8 2, .int .u32 1, .int .u64 1] 41) (.cells #[.string ⟨#[97]⟩] 9)
        have HA := Lib.hid hA
        have HC := Lib.hid (cw15_at (i := 2) (t := 2) hv hp ⟨⟨by decide, by decide, by decide⟩, by decide, by decide⟩ (by decide))
        have GA := Lib.hid (G.out.below HA.out)
        clear hA hv hp
        go_wp2_with fail
        refine (insert_G pg mb w0 0 b L va' vc' vv (cw15 wr.heap.size 2 2) _ GA.out.gr HC.out (by simp [cw15, kT])).mono ?_
        intro e w9 hto
        obtain ⟨L', va2, vc2, vv2, rfl, hG⟩ := K15G.step (q := 2) Hbf.out Hpl.out GA.out rfl hto
        have G9 := Lib.hid hG
        clear hto hG HA GA HC
        go_wp2_with fail
        go_roundw
        case rel => exact ⟨2 + 1, L', va2, vc2, vv2, by omega, by go_num, G9⟩
        case measure => simp [intOf]
    · obtain rfl : q = 3 := by omega
      clear hlt
      go_wp2_with fail
      refine (lacks_G pg mb w0 0 b L va' vc' vv none 0 [] 2 _ G.out.gr (Sl.nil _ _) (fun d hd => (by cases hd)) (by decide)).mono ?_
      rintro e w2 ⟨ra, rc, R, S, rfl, hp, hs, hr, ho, he, hb⟩
      have hk : cms L = k15 := G.out.cm
      rw [hk] at hp
      rw [k15_sorted hp hs, k15_lack] at hr
      obtain ⟨x, y, rfl, hx, hy⟩ := two_of hr
      obtain ⟨g, rfl⟩ := ho.ptr (by simp)
      have c5 : w2.cell? ⟨g, 5, none⟩ = some (.int .u64 1) := by
        have h9 := OwnC.range ho (q := 0) (v := x) rfl 5 (.int .u64 x.c.t) rfl
        rw [hx] at h9
        simpa [kT] using h9
      have e5 : w2.cell? ⟨g, 16, none⟩ = some (.int .u64 2) := by
        have h9 := OwnC.range ho (q := 1) (v := y) rfl 5 (.int .u64 y.c.t) rfl
        rw [hy] at h9
        simpa [kT] using h9
      have B2 := Lib.hid (below2 G.out.bel hb G.out.bel.size)
      clear hp hs hr ho he hb hk hx hy
      simp only [List.length_cons, List.length_nil, Nat.zero_add, Nat.reduceAdd]
      go_wp2_with fail
      refine (lacks_no none 0 [] 9 _ (Sl.nil _ _) (fun d hd => (by cases hd)) (by decide)).mono ?_
      rintro e w3 ⟨ra2, rc2, R2, S2, rfl, hp, hs, hr, ho, he, hb⟩
      obtain rfl : R2 = [] := by
        rw [List.Perm.eq_nil hp] at hr
        have h1 : cms R2 = [] := hr
        unfold cms at h1
        simpa using h1
      have B3 := Lib.hid (below2 B2.out hb B2.out.size)
      clear hp hs hr ho he hb
      simp only [List.length_nil]
      go_wp2_with fail
      go_ret
      exact ⟨rfl, B3.out⟩
end Go.Proofs.YthdmoplclllhjaaGreat
