/- A graph of the program's and the document's, with the same commits. | varvelaw13.both: the contract. (printed by wip/tools/genboth.py) -/
import Derived.Test.YthdmoplclllhjaaGreatRgE
import Derived.Test.YthdmoplclllhjaaGreatGraC
import Derived.Test.YthdmoplclllhjaaGreatBasB
import Derived.Test.YthdmoplclllhjaaGreatRMbA
/- BothA -/
namespace Go.Proofs.YthdmoplclllhjaaGreat
open Go.RowKit
set_option linter.unusedVariables false
set_option linter.unusedSimpArgs false

theorem BdA.same {b : Nat} : ∀ {n : Nat} {T U : List Nd}, BdA b n T → sameT n T U → BdA b n U
  | 0, _, _, h, hs => by rw [hs.2]; exact Nat.zero_le _
  | n + 1, T, U, h, hs => by
    obtain ⟨hl, he⟩ := hs
    refine ⟨by rw [← hl]; exact h.1, fun y hy => ?_⟩
    obtain ⟨i, hi⟩ := List.getElem?_of_mem hy
    have hi2 := (List.getElem?_eq_some_iff.1 hi).1
    obtain ⟨x, hx⟩ : ∃ x, T[i]? = some x := ⟨T[i]'(by omega), List.getElem?_eq_getElem (by omega)⟩
    obtain ⟨_, h2, h3⟩ := he i x y hx hi
    obtain ⟨k1, k2, k3⟩ := h.2 x (List.mem_of_getElem? hx)
    refine ⟨?_, fun v hv => ?_, BdA.same k3 h3⟩
    · have := congrArg List.length h2
      simp at this
      omega
    · have h4 : v.l ∈ x.ls.map (·.l) := by rw [h2]; exact List.mem_map.2 ⟨v, hv, rfl⟩
      obtain ⟨u, hu, e⟩ := List.mem_map.1 h4
      rw [← e]
      exact k2 u hu
/-- a graph at pg, and the document's at pw, with the same commits: L as they were inserted, S in order -/
structure PairE (w wr : World) (v : Bw) (m : Nat) (pg mb : Nat) (w0 : World) (b : Bw) (L : List Cw) (va : Option Addr) (vc : Nat) (vv : List Dt) (pw : Nat) (S : List Cw) (la : Option Addr) (lc : Nat) : Prop where
  gr : GrAt wr pg mb w0 3 b L va vc vv
  rg : RgAt wr pw w m v S la lc
  same : b.b.f = v.b.f
  tips : b.b.tips = v.b.tips
  tr : sameT 3 v.b.tr b.b.tr
  perm : (cms S).Perm (cms L)
  hist : HistP v.b.f (cms L) vv
  ins : HistI v.b.f (cms L)
  old : w.heap.size ≤ w0.heap.size
  pwl : w0.heap.size ≤ pw
  bel : Below w.heap.size w wr
theorem PairE.below {w wr w' : World} {v : Bw} {m pg mb : Nat} {w0 : World} {b : Bw} {L : List Cw} {va : Option Addr} {vc : Nat} {vv : List Dt} {pw : Nat} {S : List Cw} {la : Option Addr} {lc : Nat} (h : PairE w wr v m pg mb w0 b L va vc vv pw S la lc) (hb : Below wr.heap.size wr w') : PairE w w' v m pg mb w0 b L va vc vv pw S la lc :=
  ⟨h.gr.below hb, h.rg.below hb, h.same, h.tips, h.tr, h.perm, h.hist, h.ins, h.old, h.pwl, below2 h.bel hb h.bel.size⟩
theorem noRow_ref {w : World} {pw : Nat} {C : Array Value} {fr : Nat × Nat} (h : w.heap[pw]? = some (.cells C 61 fr)) : NoRow w [pw] := fun k hk C' t fr' hh => by
  rw [List.mem_singleton] at hk
  subst hk
  rw [h] at hh
  injection hh with hh
  injection hh with _ h2 _
  subst h2
  exact ⟨by decide, by decide⟩
theorem PairE.nd {w wr : World} {v : Bw} {m pg mb : Nat} {w0 : World} {b : Bw} {L : List Cw} {va : Option Addr} {vc : Nat} {vv : List Dt} {pw : Nat} {S : List Cw} {la : Option Addr} {lc : Nat} (h : PairE w wr v m pg mb w0 b L va vc vv pw S la lc) : findC (cms S) = findC (cms L) := findC_perm h.perm h.rg.nodup
theorem PairE.len {w wr : World} {v : Bw} {m pg mb : Nat} {w0 : World} {b : Bw} {L : List Cw} {va : Option Addr} {vc : Nat} {vv : List Dt} {pw : Nat} {S : List Cw} {la : Option Addr} {lc : Nat} (h : PairE w wr v m pg mb w0 b L va vc vv pw S la lc) : S.length = L.length := by
  have := h.perm.length_eq
  simpa [cms] using this
theorem PairE.ne {w wr : World} {v : Bw} {m pg mb : Nat} {w0 : World} {b : Bw} {L : List Cw} {va : Option Addr} {vc : Nat} {vv : List Dt} {pw : Nat} {S : List Cw} {la : Option Addr} {lc : Nat} (h : PairE w wr v m pg mb w0 b L va vc vv pw S la lc) : pw ≠ pg ∧ pw ≠ mb ∧ ∀ k ∈ ob la, k ≠ pg ∧ k ≠ mb := by
  obtain ⟨es, clock, hm⟩ := h.gr.map.block
  refine ⟨fun e => ?_, fun e => ?_, fun k hk => ⟨fun e => ?_, fun e => ?_⟩⟩
  · have h1 := h.rg.blk
    rw [e, h.gr.blk] at h1
    injection h1 with h1
    injection h1 with _ h2 _
    exact absurd h2 (by decide)
  · have h1 := h.rg.blk
    rw [e, hm] at h1
    cases h1
  · obtain ⟨C, fr, hh⟩ := ob_row h.rg.row k hk
    rw [e, h.gr.blk] at hh
    injection hh with hh
    injection hh with _ h2 _
    exact absurd h2 (by decide)
  · obtain ⟨C, fr, hh⟩ := ob_row h.rg.row k hk
    rw [e, hm] at hh
    cases hh
/-- one commit more: into the graph, then into the document's -/
theorem PairE.ins_ {w wr w1 : World} {v : Bw} {m pg mb : Nat} {w0 : World} {b : Bw} {L : List Cw} {va : Option Addr} {vc : Nat} {vv : List Dt} {pw : Nat} {S : List Cw} {la : Option Addr} {lc : Nat} {c : Cw} {e : Ending} (h : PairE w wr v m pg mb w0 b L va vc vv pw S la lc) (okc : okV c.c.vv) (hi : InsTo wr pg mb w0 3 b L vv c.c e w1) :
    ∃ x : Int, e = .returned (.int .i64 x) ∧ RgAt w1 pw w m v S la lc ∧ Below w.heap.size w w1 ∧ ∀ (e2 : Ending) (w2 : World), RInsTo w1 pw w m v S c e2 w2 → e2 = .returned (.int .i64 x) ∧
      ((x ≠ 0 ∧ PairE w w2 v m pg mb w0 b L va vc vv pw S la lc) ∨ (x = 0 ∧ ∃ (u : Cw) (va' : Option Addr) (vc' : Nat) (la' : Option Addr) (lc' : Nat), u.c = c.c ∧ PairE w w2 v m pg mb w0 b (L ++ [u]) va' vc' (joinV vv c.c.vv) pw (putC S c) la' lc')) := by
  have hs := h.same
  have hnd := h.nd
  have hlen := h.len
  have hne := h.ne
  have o1 := h.gr.old
  have o2 := h.old
  obtain ⟨rfl, hi⟩ := hi
  refine ⟨_, rfl, ?_⟩
  rw [hs] at hi ⊢
  rcases hi with ⟨hz, hb⟩ | ⟨hz, u, va', vc', hu, hG, hc⟩
  · refine ⟨h.rg.below hb, below2 h.bel hb h.bel.size, fun e2 w2 h2 => ?_⟩
    obtain ⟨h2, h3⟩ := h2
    rw [hnd, hlen] at h2 h3
    refine ⟨h2, .inl ⟨hz, ?_⟩⟩
    rcases h3 with ⟨_, hb2⟩ | ⟨hz2, _⟩
    · exact (h.below hb).below hb2
    · exact absurd hz2 hz
  · have hR : RgAt w1 pw w m v S la lc := h.rg.chg hc (by simp; exact ⟨hne.1, hne.2.1⟩) (fun k hk => by simp; exact hne.2.2 k hk) (fun k hk => by simp at hk; rcases hk with rfl | rfl <;> omega)
    refine ⟨hR, h.bel.trans (hc.below h.bel.size (fun k hk => by simp at hk; rcases hk with rfl | rfl <;> omega)), fun e2 w2 h2 => ?_⟩
    obtain ⟨h2, h3⟩ := h2
    rw [hnd, hlen] at h2 h3
    refine ⟨h2, .inr ⟨hz, u, va', vc', ?_⟩⟩
    rcases h3 with ⟨hz2, _⟩ | ⟨_, la', lc', hR2, hc2⟩
    · exact absurd hz hz2
    have hcs : cms (L ++ [u]) = cms L ++ [c.c] := by simp [cms, hu]
    have hG2 : GrAt w2 pg mb w0 3 b (L ++ [u]) va' vc' (joinV vv c.c.vv) := hG.chg hc2 (by simpa using fun e => hne.1 e.symm) (by simpa using fun e => hne.2.1 e.symm) (noRow_ref hR.blk) (by simpa using h.pwl)
    refine ⟨la', lc', hu, hG2, hR2, hs, h.tips, h.tr, ?_, ?_, ?_, o2, h.pwl, ?_⟩
    · rw [hcs]
      exact (putC_perm S c).trans (h.perm.append_right _)
    · rw [hcs]
      have := h.gr.okv
      exact h.hist.step this okc hz
    · rw [hcs]
      exact h.ins.step hz
    · refine (h.bel.trans (hc.below h.bel.size (fun k hk => by simp at hk; rcases hk with rfl | rfl <;> omega))).trans (hc2.below (Nat.le_trans h.bel.size hc.size) (fun k hk => by simp at hk; subst hk; have := h.pwl; omega))
theorem InsTo.keep {w w' : World} {pg mb : Nat} {w0 : World} {m : Nat} {b : Bw} {L : List Cw} {vv : List Dt} {c : Cm} {e : Ending} (h : InsTo w pg mb w0 m b L vv c e w') {k : Nat} {o : Obj} (hk : w.heap[k]? = some o) (h1 : k ≠ pg) (h2 : k ≠ mb) : w'.heap[k]? = some o := by
  obtain ⟨_, ⟨_, hb⟩ | ⟨_, u, va', vc', _, _, hc⟩⟩ := h
  · exact (hb.block _ (heap_lt hk)).trans hk
  · exact (hc.block _ (heap_lt hk) (by simp; exact ⟨h1, h2⟩)).trans hk
/-- both graphs, or none -/
def PairTo (w : World) (v : Bw) (m n : Nat) (e : Ending) (w' : World) : Prop :=
  (e = .returned (.tuple #[.pointer none, .pointer none, .bool false]) ∧ Below w.heap.size w w') ∨
  ∃ (pg mb : Nat) (w0 : World) (b : Bw) (L : List Cw) (va : Option Addr) (vc : Nat) (vv : List Dt) (pw : Nat) (S : List Cw) (la : Option Addr) (lc : Nat),
    e = .returned (.tuple #[.pointer (some ⟨pg, 0, none⟩), .pointer (some ⟨pw, 0, none⟩), .bool true]) ∧ PairE w w' v m pg mb w0 b L va vc vv pw S la lc ∧ L.length ≤ n ∧ BaseP v.b
theorem PairTo.no {w w' : World} {v : Bw} {m n : Nat} (hb : Below w.heap.size w w') : PairTo w v m n (.returned (.tuple #[.pointer none, .pointer none, .bool false])) w' := .inl ⟨rfl, hb⟩
end Go.Proofs.YthdmoplclllhjaaGreat

/- Bo13 -/
namespace Go.Proofs.YthdmoplclllhjaaGreat
open Go.RowKit
set_option linter.unusedVariables false
set_option linter.unusedSimpArgs false

set_option maxRecDepth 100000 in
set_option maxHeartbeats 16000000 in
theorem both13_any (v : Bw) (m : Nat) (la : Option Addr) (lc : Nat) (l : List Cw) (w : World) (h : BwAt w m v) (hl : Cms w la lc l) (htp : v.b.tips.length ≤ 1100000) (hB : BdA 1100000 3 v.b.tr) :
    Calls Tryz.prog 24 #[.agg (bwcells v), .slice la l.length lc] w (PairTo w v m 40) := by
  obtain ⟨⟨num, F, tips, t, tr⟩, fa, fc, ta, tc, ra, rc⟩ := v
  have H := Lib.hid h
  have HL := Lib.hid hl
  have HBd := Lib.hid hB
  have hlm := hl.sl.2.2.1
  have hln := hl.sl.2.1
  have hfm := h.f.2.2.1
  have hfn := h.f.2.1
  unfold maxLen at hlm hfm
  dsimp only at htp hfm hfn
  have E : Hid (BoxE 28 w (w.alloc (.cells (basecells num fa F.length fc ta tips.length tc t ra tr.length rc) 28)) (basecells num fa F.length fc ta tips.length tc t ra tr.length rc)) := Lib.hid ⟨heap_new _ _, (Below.refl _ _).alloc (Nat.le_refl _) _⟩
  clear h hl hB
  simp only [bwcells]
  go_enter Tryz.func24, Tryz.ntmps24
  by_cases h40 : 40 < l.length
  · have x1 : decide ((40 : Int) < (l.length : Int)) = true := decide_eq_true (by omega)
    go_wp2_with fail
    exact bodyPost_ret (v := .tuple #[.pointer none, .pointer none, .bool false]) (by simp [results, Tryz.results24, go_sem]; try rfl) rfl (PairTo.no E.out.bel)
  have x1 : decide ((40 : Int) < (l.length : Int)) = false := decide_eq_false (by omega)
  by_cases h64 : 64 < F.length
  · have x2 : decide ((64 : Int) < (F.length : Int)) = true := decide_eq_true (by omega)
    go_wp2_with fail
    exact bodyPost_ret (v := .tuple #[.pointer none, .pointer none, .bool false]) (by simp [results, Tryz.results24, go_sem]; try rfl) rfl (PairTo.no E.out.bel)
  have x2 : decide ((64 : Int) < (F.length : Int)) = false := decide_eq_false (by omega)
  go_wp2_with fail
  refine (rmayBase_any ⟨⟨num, F, tips, t, tr⟩, fa, fc, ta, tc, ra, rc⟩ m _ (H.out.below E.out.bel) (by show F.length ≤ 1100000; omega) htp HBd.out).mono ?_
  intro e w2 hto
  obtain ⟨z, rfl, hz, hb⟩ := hto
  replace E := Lib.hid (E.out.step hb)
  have Hz := Lib.hid hz
  clear hb hz
  have d0 := cells_at E.out.blk
  simp only [basecells] at d0
  have z0 := heap_lt E.out.blk
  cases z with
  | false =>
    go_wp2_with fail
    exact bodyPost_ret (v := .tuple #[.pointer none, .pointer none, .bool false]) (by simp [results, Tryz.results24, go_sem]; try rfl) rfl (PairTo.no E.out.bel)
  | true =>
    have HP := Lib.hid (Hz.out.1 rfl)
    clear Hz
    go_wp2_with fail
    refine (new_any ⟨⟨num, F, tips, t, tr⟩, fa, fc, ta, tc, ra, rc⟩ m _ (H.out.below E.out.bel) (by show F.length ≤ 1100000; omega) htp HBd.out).mono ?_
    intro e w3 hto
    rcases hto with ⟨_, pg, mb, w0, b, va, vc, rfl, hsame, hG, hb, hold⟩ | ⟨hn, _, _⟩
    rotate_left
    · exact absurd HP.out hn
    have hE2 := E.out.bel.size
    replace E := Lib.hid (E.out.step hb)
    have Hs := Lib.hid hsame
    have HG := Lib.hid hG
    have hold2 : w.heap.size ≤ w0.heap.size := Nat.le_trans hE2 hold
    clear hb hsame hG d0 z0
    have d0 := cells_at E.out.blk
    simp only [basecells] at d0
    have z0 := heap_lt E.out.blk
    have W0 : Hid (PairE w (w3.alloc (.cells (rgcells num fa F.length fc ta tips.length tc t ra tr.length rc none 0 0) 61)) ⟨⟨num, F, tips, t, tr⟩, fa, fc, ta, tc, ra, rc⟩ m pg mb w0 b [] va vc b.b.f w3.heap.size [] none 0) := Lib.hid (by
      have hA : Below w3.heap.size w3 (w3.alloc (.cells (rgcells num fa F.length fc ta tips.length tc t ra tr.length rc none 0 0) 61)) := (Below.refl _ _).alloc (Nat.le_refl _) _
      have hcan : canonV F = F := HP.out.canon
      have hbf : b.b.f = F := Hs.out.f
      exact ⟨HG.out.below hA, ⟨heap_new _ _, below2 E.out.bel hA E.out.bel.size, E.out.bel.size, H.out, OwnC.nil _ _, fun y hy => (by cases hy), List.Pairwise.nil, List.nodup_nil, fun y hy => (by cases hy), Nat.zero_le _, hcan⟩, hbf, Hs.out.tips, Hs.out.tr, List.Perm.refl _, by rw [hbf]; exact HistP.start H.out.okf hcan, HistI.start _, hold2, HG.out.bel.size, below2 E.out.bel hA E.out.bel.size⟩)
    clear E HG
    go_wp2_with fail
    generalize b.b.f = vv0 at W0
    go_loopw [36] (fun j wr => ∃ (q : Nat) (L : List Cw) (va' : Option Addr) (vc' : Nat) (vv : List Dt) (S : List Cw) (la' : Option Addr) (lc' : Nat), q ≤ l.length ∧ j = .int .i64 q ∧ L.length ≤ q ∧ Hid (PairE w wr ⟨⟨num, F, tips, t, tr⟩, fa, fc, ta, tc, ra, rc⟩ m pg mb w0 b L va' vc' vv w3.heap.size S la' lc')) (fun j _ => l.length - (intOf j).toNat)
    case atStart => exact ⟨0, [], va, vc, vv0, [], none, 0, Nat.zero_le _, rfl, Nat.le_refl _, W0⟩
    case round =>
      obtain ⟨q, L, va', vc', vv, S, la', lc', hq, rfl, hLq, W⟩ := hrel
      clear W0 d0 z0
      by_cases hlt : q < l.length
      · obtain ⟨v, hv⟩ : ∃ v, l[q]? = some v := ⟨l[q], by simp [hlt]⟩
        obtain ⟨ad, had, ⟨c0, c1, c2, c3, c4, c5, c6, c7, c8, c9, c10⟩, hlb⟩ := (HL.out.below W.out.bel).at_ hv
        subst had
        have Hat := Lib.hid (HL.out.each v (List.mem_of_getElem? hv))
        clear hv
        obtain ⟨⟨⟨⟨r, i⟩, s⟩, ps, uu, t1, ⟨k, n, x, p, ds⟩⟩, qa, qc, ua, uc, pa, pc, da, dc⟩ := v
        dsimp only at c0 c1 c2 c3 c4 c5 c6 c7 c8 c9 c10
        have b1 := Hat.out.ps.2.2.1
        have b2 := Hat.out.vv.2.2.1
        have b3 := Hat.out.ds.2.2.1
        have b4 := Hat.out.ps.2.1
        have b5 := Hat.out.vv.2.1
        have b6 := Hat.out.ds.2.1
        unfold maxLen at b1 b2 b3
        dsimp only at b1 b2 b3 b4 b5 b6
        have HA : Hid (BoxE 46 wr (wr.alloc (.cells (ccells r i s qa ps.length qc ua uu.length uc t1 k pa p.length pc n x da ds.length dc) 46)) (ccells r i s qa ps.length qc ua uu.length uc t1 k pa p.length pc n x da ds.length dc)) := Lib.hid ⟨heap_new _ _, (Below.refl _ _).alloc (Nat.le_refl _) _⟩
        have WA := Lib.hid (W.out.below HA.out.bel)
        by_cases h1 : 64 < ps.length
        · have y1 : decide ((64 : Int) < (ps.length : Int)) = true := decide_eq_true (by omega)
          go_wp2_with fail
          exact bodyPost_ret (v := .tuple #[.pointer none, .pointer none, .bool false]) (by simp [results, Tryz.results24, go_sem]; try rfl) rfl (PairTo.no WA.out.bel)
        have y1 : decide ((64 : Int) < (ps.length : Int)) = false := decide_eq_false (by omega)
        by_cases h2 : 64 < uu.length
        · have y2 : decide ((64 : Int) < (uu.length : Int)) = true := decide_eq_true (by omega)
          go_wp2_with fail
          exact bodyPost_ret (v := .tuple #[.pointer none, .pointer none, .bool false]) (by simp [results, Tryz.results24, go_sem]; try rfl) rfl (PairTo.no WA.out.bel)
        have y2 : decide ((64 : Int) < (uu.length : Int)) = false := decide_eq_false (by omega)
        go_wp2_with fail
        refine (insert_G pg mb w0 3 b L va' vc' vv ⟨⟨((r, i), s), ps, uu, t1, ⟨k, n, x, p, ds⟩⟩, qa, qc, ua, uc, pa, pc, da, dc⟩ _ WA.out.gr (Hat.out.below WA.out.bel) (by dsimp only; omega)).mono ?_
        intro e w4 hto
        have HB4 := Lib.hid (hto.keep HA.out.blk (by have := heap_lt W.out.gr.blk; omega) (by have := W.out.gr.map.lt; omega))
        obtain ⟨x1, rfl, hR, hbel, hnext⟩ := WA.out.ins_ (c := ⟨⟨((r, i), s), ps, uu, t1, ⟨k, n, x, p, ds⟩⟩, qa, qc, ua, uc, pa, pc, da, dc⟩) Hat.out.ok.vv hto
        have HR := Lib.hid hR
        have HN := Lib.hid hnext
        clear hto hR hnext c0 c1 c2 c3 c4 c5 c6 c7 c8 c9 c10 hlb WA HA
        have d0 := cells_at HB4.out
        simp only [ccells] at d0
        have z0 := heap_lt HB4.out
        go_wp2_with fail
        refine (insert_R w3.heap.size w m ⟨⟨num, F, tips, t, tr⟩, fa, fc, ta, tc, ra, rc⟩ S la' lc' ⟨⟨((r, i), s), ps, uu, t1, ⟨k, n, x, p, ds⟩⟩, qa, qc, ua, uc, pa, pc, da, dc⟩ _ HR.out Hat.out (by dsimp only; omega)).mono ?_
        intro e w5 hto
        obtain ⟨rfl, hn⟩ := HN.out e w5 hto
        have HW : Hid (∃ (L2 : List Cw) (va2 : Option Addr) (vc2 : Nat) (vv2 : List Dt) (S2 : List Cw) (la2 : Option Addr) (lc2 : Nat), L2.length ≤ q + 1 ∧ PairE w w5 ⟨⟨num, F, tips, t, tr⟩, fa, fc, ta, tc, ra, rc⟩ m pg mb w0 b L2 va2 vc2 vv2 w3.heap.size S2 la2 lc2) := Lib.hid (by
          rcases hn with ⟨_, h⟩ | ⟨_, u, va2, vc2, la2, lc2, _, h⟩
          · exact ⟨L, va', vc', vv, S, la', lc', by omega, h⟩
          · exact ⟨L ++ [u], va2, vc2, _, _, la2, lc2, by simp; omega, h⟩)
        clear hto hn HR HN d0 z0 HB4
        obtain ⟨L2, va2, vc2, vv2, S2, la2, lc2, hl2, hW2⟩ := HW.out
        have W2 := Lib.hid hW2
        clear hW2 HW
        go_wp2_with fail
        go_roundw
        case rel => exact ⟨q + 1, L2, va2, vc2, vv2, S2, la2, lc2, by omega, by go_num, hl2, W2⟩
        case measure => simp [intOf]; omega
      · go_wp2_with fail
        exact bodyPost_ret (v := .tuple #[.pointer (some ⟨pg, 0, none⟩), .pointer (some ⟨w3.heap.size, 0, none⟩), .bool true]) (by simp [results, Tryz.results24, go_sem]; try rfl) rfl (.inr ⟨pg, mb, w0, b, L, va', vc', vv, w3.heap.size, S, la', lc', rfl, W.out, by omega, HP.out⟩)
end Go.Proofs.YthdmoplclllhjaaGreat
