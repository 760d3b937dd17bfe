/- varvelaw37.both: the contract. (printed by wip/tools/genbo37.py) -/
import Derived.Test.YtaandcblndldmaaGreatWitA
import Derived.Test.YtaandcblndldmaaGreatRMbA
import Derived.Test.YtaandcblndldmaaGreatMeanW
import Derived.Test.YtaandcblndldmaaGreatAudB
namespace Go.Proofs.YtaandcblndldmaaGreat
open Go.RowKit
set_option linter.unusedVariables false
set_option linter.unusedSimpArgs false

/-- both graphs, or none; which commits are there -/
def PairTo37 (w : World) (v : Bw) (m : Nat) (l : List Cw) (e : Ending) (w' : World) : Prop :=
  (e = .returned (.tuple #[.pointer none, .pointer none, .bool false]) ∧ Below w.heap.size w w') ∨
  ∃ (pg mb : Nat) (w0 : World) (b : Bw) (L : List Cw) (va : Option Addr) (vc : Nat) (vv : List Dt) (pw : Nat) (S : List Cw) (la : Option Addr) (lc : Nat),
    e = .returned (.tuple #[.pointer (some ⟨pg, 0, none⟩), .pointer (some ⟨pw, 0, none⟩), .bool true]) ∧ PairE w w' v m pg mb w0 b L va vc vv pw S la lc ∧ L.length ≤ 24 ∧ BaseP v.b ∧ cms L = (auF v.b.f (cms l)).L
theorem PairTo37.no {w w' : World} {v : Bw} {m : Nat} {l : List Cw} (hb : Below w.heap.size w w') : PairTo37 w v m l (.returned (.tuple #[.pointer none, .pointer none, .bool false])) w' := .inl ⟨rfl, hb⟩
theorem auF_L (F : List Dt) {cs : List Cm} {k : Nat} {c : Cm} (h : cs[k]? = some c) : (auF F (cs.take (k + 1))).L = if insE F (findC (auF F (cs.take k)).L) (auF F (cs.take k)).L.length c = 0 then (auF F (cs.take k)).L ++ [c] else (auF F (cs.take k)).L := by
  rw [auF_take F h]
  unfold auStep
  split <;> rfl
set_option maxRecDepth 100000 in
set_option maxHeartbeats 16000000 in
theorem both37_any (v : Bw) (m : Nat) (la : Option Addr) (lc : Nat) (l : List Cw) (w : World) (h : BwAt w m v) (hl : Cms w la lc l) (htp : v.b.tips.length ≤ 1100000) (hB : BdA 1100000 3 v.b.tr) (hsz : szT 10 v.b.tr ≤ 1100000) :
    Calls Tryz.prog 18 #[.agg (bwcells v), .slice la l.length lc] w (PairTo37 w v m l) := by
  obtain ⟨⟨num, F, tips, t, tr⟩, fa, fc, ta, tc, ra, rc⟩ := v
  have H := Lib.hid h
  have HL := Lib.hid hl
  have HBd := Lib.hid hB
  have Hsz := Lib.hid hsz
  have HTr := Lib.hid h.tr
  have hlm := hl.sl.2.2.1
  have hln := hl.sl.2.1
  have hfm := h.f.2.2.1
  have hfn := h.f.2.1
  unfold maxLen at hlm hfm
  dsimp only at htp hfm hfn
  have E : Hid (BoxE 32 w (w.alloc (.cells (basecells num fa F.length fc ta tips.length tc t ra tr.length rc) 32)) (basecells num fa F.length fc ta tips.length tc t ra tr.length rc)) := Lib.hid ⟨heap_new _ _, (Below.refl _ _).alloc (Nat.le_refl _) _⟩
  clear h hl hB hsz
  simp only [bwcells]
  go_enter Tryz.func18, Tryz.ntmps18
  by_cases h12 : 24 < l.length
  · have x1 : decide ((24 : Int) < (l.length : Int)) = true := decide_eq_true (by omega)
    go_wp2_with fail
    exact bodyPost_ret (v := .tuple #[.pointer none, .pointer none, .bool false]) (by simp [results, Tryz.results18, go_sem]; try rfl) rfl (PairTo37.no E.out.bel)
  have x1 : decide ((24 : Int) < (l.length : Int)) = false := decide_eq_false (by omega)
  by_cases h64 : 64 < F.length
  · have x2 : decide ((64 : Int) < (F.length : Int)) = true := decide_eq_true (by omega)
    go_wp2_with fail
    exact bodyPost_ret (v := .tuple #[.pointer none, .pointer none, .bool false]) (by simp [results, Tryz.results18, go_sem]; try rfl) rfl (PairTo37.no E.out.bel)
  have x2 : decide ((64 : Int) < (F.length : Int)) = false := decide_eq_false (by omega)
  go_wp2_with fail
  refine (greatT_any m ra rc tr _ (HTr.out.below E.out.bel) Hsz.out).mono ?_
  rintro e w9 ⟨zg, rfl, _, hb⟩
  replace E := Lib.hid (E.out.step hb)
  clear hb HTr
  have d0 := cells_at E.out.blk
  simp only [basecells] at d0
  have z0 := heap_lt E.out.blk
  cases zg with
  | true =>
    go_wp2_with fail
    exact bodyPost_ret (v := .tuple #[.pointer none, .pointer none, .bool false]) (by simp [results, Tryz.results18, go_sem]; try rfl) rfl (PairTo37.no E.out.bel)
  | false =>
  go_wp2_with fail
  refine (rmayBase_any ⟨⟨num, F, tips, t, tr⟩, fa, fc, ta, tc, ra, rc⟩ m _ (H.out.below E.out.bel) (by show F.length ≤ 1100000; omega) htp HBd.out).mono ?_
  intro e w2 hto
  obtain ⟨z, rfl, hz, hb⟩ := hto
  replace E := Lib.hid (E.out.step hb)
  have Hz := Lib.hid hz
  clear hb hz d0 z0
  have d0 := cells_at E.out.blk
  simp only [basecells] at d0
  have z0 := heap_lt E.out.blk
  cases z with
  | false =>
    go_wp2_with fail
    exact bodyPost_ret (v := .tuple #[.pointer none, .pointer none, .bool false]) (by simp [results, Tryz.results18, go_sem]; try rfl) rfl (PairTo37.no E.out.bel)
  | true =>
    have HP := Lib.hid (Hz.out.1 rfl)
    clear Hz
    go_wp2_with fail
    refine (new_any ⟨⟨num, F, tips, t, tr⟩, fa, fc, ta, tc, ra, rc⟩ m _ (H.out.below E.out.bel) (by show F.length ≤ 1100000; omega) htp HBd.out).mono ?_
    intro e w3 hto
    rcases hto with ⟨_, pg, mb, w0, b, va, vc, rfl, hsame, hG, hb, hold⟩ | ⟨hn, _, _⟩
    rotate_left
    · exact absurd HP.out hn
    have hE2 := E.out.bel.size
    replace E := Lib.hid (E.out.step hb)
    have Hs := Lib.hid hsame
    have HG := Lib.hid hG
    have hold2 : w.heap.size ≤ w0.heap.size := Nat.le_trans hE2 hold
    clear hb hsame hG d0 z0
    have d0 := cells_at E.out.blk
    simp only [basecells] at d0
    have z0 := heap_lt E.out.blk
    have W0 : Hid (PairE w (w3.alloc (.cells (rgcells num fa F.length fc ta tips.length tc t ra tr.length rc none 0 0) 61)) ⟨⟨num, F, tips, t, tr⟩, fa, fc, ta, tc, ra, rc⟩ m pg mb w0 b [] va vc b.b.f w3.heap.size [] none 0) := Lib.hid (by
      have hA : Below w3.heap.size w3 (w3.alloc (.cells (rgcells num fa F.length fc ta tips.length tc t ra tr.length rc none 0 0) 61)) := (Below.refl _ _).alloc (Nat.le_refl _) _
      have hcan : canonV F = F := HP.out.canon
      have hbf : b.b.f = F := Hs.out.f
      exact ⟨HG.out.below hA, ⟨heap_new _ _, below2 E.out.bel hA E.out.bel.size, E.out.bel.size, H.out, OwnC.nil _ _, fun y hy => (by cases hy), List.Pairwise.nil, List.nodup_nil, fun y hy => (by cases hy), Nat.zero_le _, hcan⟩, hbf, Hs.out.tips, Hs.out.tr, List.Perm.refl _, by rw [hbf]; exact HistP.start H.out.okf hcan, HistI.start _, hold2, HG.out.bel.size, below2 E.out.bel hA E.out.bel.size⟩)
    clear E HG
    go_wp2_with fail
    generalize b.b.f = vv0 at W0
    go_loopw [41] (fun j wr => ∃ (q : Nat) (L : List Cw) (va' : Option Addr) (vc' : Nat) (vv : List Dt) (S : List Cw) (la' : Option Addr) (lc' : Nat), q ≤ l.length ∧ j = .int .i64 q ∧ L.length ≤ q ∧ Hid (cms L = (auF F (cms (l.take q))).L) ∧ Hid (PairE w wr ⟨⟨num, F, tips, t, tr⟩, fa, fc, ta, tc, ra, rc⟩ m pg mb w0 b L va' vc' vv w3.heap.size S la' lc')) (fun j _ => l.length - (intOf j).toNat)
    case atStart => exact ⟨0, [], va, vc, vv0, [], none, 0, Nat.zero_le _, rfl, Nat.le_refl _, Lib.hid rfl, W0⟩
    case round =>
      obtain ⟨q, L, va', vc', vv, S, la', lc', hq, rfl, hLq, HA7, W⟩ := hrel
      clear W0 d0 z0
      by_cases hlt : q < l.length
      · obtain ⟨v, hv⟩ : ∃ v, l[q]? = some v := ⟨l[q], by simp [hlt]⟩
        obtain ⟨ad, had, ⟨c0, c1, c2, c3, c4, c5, c6, c7, c8, c9, c10⟩, hlb⟩ := (HL.out.below W.out.bel).at_ hv
        subst had
        have Hat := Lib.hid (HL.out.each v (List.mem_of_getElem? hv))
        have HL7 := Lib.hid (auF_L F (cs := cms l) (k := q) (c := v.c) (by simp [cms, hv]))
        clear hv
        obtain ⟨⟨⟨⟨r, i⟩, s⟩, ps, uu, t1, ⟨k, n, x, p, ds⟩⟩, qa, qc, ua, uc, pa, pc, da, dc⟩ := v
        dsimp only at c0 c1 c2 c3 c4 c5 c6 c7 c8 c9 c10
        have b1 := Hat.out.ps.2.2.1
        have b2 := Hat.out.vv.2.2.1
        have b3 := Hat.out.ds.2.2.1
        have b4 := Hat.out.ps.2.1
        have b5 := Hat.out.vv.2.1
        have b6 := Hat.out.ds.2.1
        unfold maxLen at b1 b2 b3
        dsimp only at b1 b2 b3 b4 b5 b6
        have HA : Hid (BoxE 54 wr (wr.alloc (.cells (ccells r i s qa ps.length qc ua uu.length uc t1 k pa p.length pc n x da ds.length dc) 54)) (ccells r i s qa ps.length qc ua uu.length uc t1 k pa p.length pc n x da ds.length dc)) := Lib.hid ⟨heap_new _ _, (Below.refl _ _).alloc (Nat.le_refl _) _⟩
        have WA := Lib.hid (W.out.below HA.out.bel)
        by_cases h1 : 64 < ps.length
        · have y1 : decide ((64 : Int) < (ps.length : Int)) = true := decide_eq_true (by omega)
          go_wp2_with fail
          exact bodyPost_ret (v := .tuple #[.pointer none, .pointer none, .bool false]) (by simp [results, Tryz.results18, go_sem]; try rfl) rfl (PairTo37.no WA.out.bel)
        have y1 : decide ((64 : Int) < (ps.length : Int)) = false := decide_eq_false (by omega)
        by_cases h2 : 64 < uu.length
        · have y2 : decide ((64 : Int) < (uu.length : Int)) = true := decide_eq_true (by omega)
          go_wp2_with fail
          exact bodyPost_ret (v := .tuple #[.pointer none, .pointer none, .bool false]) (by simp [results, Tryz.results18, go_sem]; try rfl) rfl (PairTo37.no WA.out.bel)
        have y2 : decide ((64 : Int) < (uu.length : Int)) = false := decide_eq_false (by omega)
        by_cases h3 : 100 < ds.length
        · have y3 : decide ((100 : Int) < (ds.length : Int)) = true := decide_eq_true (by omega)
          go_wp2_with fail
          exact bodyPost_ret (v := .tuple #[.pointer none, .pointer none, .bool false]) (by simp [results, Tryz.results18, go_sem]; try rfl) rfl (PairTo37.no WA.out.bel)
        have y3 : decide ((100 : Int) < (ds.length : Int)) = false := decide_eq_false (by omega)
        go_wp2_with fail
        refine (insert_G pg mb w0 3 b L va' vc' vv ⟨⟨((r, i), s), ps, uu, t1, ⟨k, n, x, p, ds⟩⟩, qa, qc, ua, uc, pa, pc, da, dc⟩ _ WA.out.gr (Hat.out.below WA.out.bel) (by dsimp only; omega)).mono ?_
        intro e w4 hto
        have HB4 := Lib.hid (hto.keep HA.out.blk (by have := heap_lt W.out.gr.blk; omega) (by have := W.out.gr.map.lt; omega))
        have hx1 := hto.1
        obtain ⟨x1, rfl, hR, hbel, hnext⟩ := WA.out.ins_ (c := ⟨⟨((r, i), s), ps, uu, t1, ⟨k, n, x, p, ds⟩⟩, qa, qc, ua, uc, pa, pc, da, dc⟩) Hat.out.ok.vv hto
        have HR := Lib.hid hR
        have HN := Lib.hid hnext
        have hx2 : x1 = insE b.b.f (findC (cms L)) L.length ⟨((r, i), s), ps, uu, t1, ⟨k, n, x, p, ds⟩⟩ := by
          injection hx1 with h
          injection h
        have HX7 := Lib.hid hx2
        have HF7 := Lib.hid W.out.same
        clear hx1 hx2 hto hR hnext c0 c1 c2 c3 c4 c5 c6 c7 c8 c9 c10 hlb WA HA
        have d0 := cells_at HB4.out
        simp only [ccells] at d0
        have z0 := heap_lt HB4.out
        go_wp2_with fail
        refine (insert_R w3.heap.size w m ⟨⟨num, F, tips, t, tr⟩, fa, fc, ta, tc, ra, rc⟩ S la' lc' ⟨⟨((r, i), s), ps, uu, t1, ⟨k, n, x, p, ds⟩⟩, qa, qc, ua, uc, pa, pc, da, dc⟩ _ HR.out Hat.out (by dsimp only; omega)).mono ?_
        intro e w5 hto
        obtain ⟨rfl, hn⟩ := HN.out e w5 hto
        have HW : Hid (∃ (L2 : List Cw) (va2 : Option Addr) (vc2 : Nat) (vv2 : List Dt) (S2 : List Cw) (la2 : Option Addr) (lc2 : Nat), L2.length ≤ q + 1 ∧ cms L2 = (auF F (cms (l.take (q + 1)))).L ∧ PairE w w5 ⟨⟨num, F, tips, t, tr⟩, fa, fc, ta, tc, ra, rc⟩ m pg mb w0 b L2 va2 vc2 vv2 w3.heap.size S2 la2 lc2) := Lib.hid (by
          have e1 : cms (l.take (q + 1)) = (cms l).take (q + 1) := by simp [cms, List.map_take]
          have e2 : cms (l.take q) = (cms l).take q := by simp [cms, List.map_take]
          have h7 := HL7.out
          have ha := HA7.out
          rw [e2] at ha
          have hlen : (auF F ((cms l).take q)).L.length = L.length := by rw [← ha]; simp [cms]
          rw [hlen, ← ha] at h7
          have hF : b.b.f = F := HF7.out
          rw [e1]
          rcases hn with ⟨h0, h⟩ | ⟨h0, u, va2, vc2, la2, lc2, hu, h⟩
          · rw [HX7.out, hF] at h0
            exact ⟨L, va', vc', vv, S, la', lc', by omega, by rw [h7, if_neg h0], h⟩
          · rw [HX7.out, hF] at h0
            exact ⟨L ++ [u], va2, vc2, _, _, la2, lc2, by simp; omega, by rw [h7, if_pos h0]; simp [cms, hu], h⟩)
        clear hto hn HR HN d0 z0 HB4
        obtain ⟨L2, va2, vc2, vv2, S2, la2, lc2, hl2, hA2, hW2⟩ := HW.out
        have W2 := Lib.hid hW2
        have HA2 := Lib.hid hA2
        clear hW2 hA2 HW
        go_wp2_with fail
        go_roundw
        case rel => exact ⟨q + 1, L2, va2, vc2, vv2, S2, la2, lc2, by omega, by go_num, hl2, HA2, W2⟩
        case measure => simp [intOf]; omega
      · go_wp2_with fail
        exact bodyPost_ret (v := .tuple #[.pointer (some ⟨pg, 0, none⟩), .pointer (some ⟨w3.heap.size, 0, none⟩), .bool true]) (by simp [results, Tryz.results18, go_sem]; try rfl) rfl (.inr ⟨pg, mb, w0, b, L, va', vc', vv, w3.heap.size, S, la', lc', rfl, W.out, by omega, HP.out, by rw [HA7.out, List.take_of_length_le (by omega)]⟩)
end Go.Proofs.YtaandcblndldmaaGreat
