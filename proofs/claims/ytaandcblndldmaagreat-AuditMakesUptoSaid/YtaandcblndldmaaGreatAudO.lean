/- varveref12.Graph.Insert: the contract, with the word that its row is new (genrgn.py). | varveref36.Walk: the contract. | varveref36.Check, Salvage: the contracts (genaudn.py). | varveref36.Salvage: the contract (genaudo.py). -/
import Derived.Test.YtaandcblndldmaaGreatRgE
import Derived.Test.YtaandcblndldmaaGreatAudL
/- RgN -/
namespace Go.Proofs.YtaandcblndldmaaGreat
open Go.RowKit
set_option linter.unusedVariables false
set_option linter.unusedSimpArgs false

/-- what the document's Insert leaves behind; the row is new -/
def RInsN (w : World) (pw : Nat) (w0 : World) (m : Nat) (b : Bw) (S : List Cw) (v : Cw) (e : Ending) (w' : World) : Prop :=
  e = .returned (.int .i64 (insE b.b.f (findC (cms S)) S.length v.c)) ∧ ((insE b.b.f (findC (cms S)) S.length v.c ≠ 0 ∧ Below w.heap.size w w') ∨
    (insE b.b.f (findC (cms S)) S.length v.c = 0 ∧ ∃ (la' : Option Addr) (lc' : Nat), RgAt w' pw w0 m b (putC S v) la' lc' ∧ Chg [pw] w w' ∧ ∀ k ∈ ob la', w.heap.size ≤ k))
theorem RInsN.no {w : World} {pw : Nat} {w0 : World} {m : Nat} {b : Bw} {S : List Cw} {v : Cw} {w' : World} {k : Int} (h : insE b.b.f (findC (cms S)) S.length v.c = k) (hk : k ≠ 0) (hb : Below w.heap.size w w') : RInsN w pw w0 m b S v (.returned (.int .i64 k)) w' :=
  ⟨by rw [h], .inl ⟨by rw [h]; exact hk, hb⟩⟩
set_option maxRecDepth 100000 in
set_option maxHeartbeats 16000000 in
theorem insert_RN (pw : Nat) (w0 : World) (m : Nat) (b : Bw) (S : List Cw) (la : Option Addr) (lc : Nat) (v : Cw) (w : World) (h : RgAt w pw w0 m b S la lc) (hv : CwAt w0 v) (hn : v.c.vv.length ≤ 1100000) :
    Calls Tryz.prog 55 #[.pointer (some ⟨pw, 0, none⟩), .agg (cwcells v)] w (RInsN w pw w0 m b S v) := by
  obtain ⟨⟨⟨⟨r, i⟩, s⟩, ps, uu, t, ⟨k, n, x, p, ds⟩⟩, qa, qc, ua, uc, pa, pc, da, dc⟩ := v
  have H := Lib.hid h
  have HV0 := Lib.hid hv
  have HV := Lib.hid (hv.below h.bel)
  have hpg := heap_lt h.blk
  have hfew := h.few
  have hll := h.row.cms.2.1
  have B0 : Hid (BoxE 54 w (w.alloc (.cells (ccells r i s qa ps.length qc ua uu.length uc t k pa p.length pc n x da ds.length dc) 54)) (ccells r i s qa ps.length qc ua uu.length uc t k pa p.length pc n x da ds.length dc)) := Lib.hid ⟨heap_new _ _, (Below.refl _ _).alloc (Nat.le_refl _) _⟩
  dsimp only at hn
  clear h hv
  simp only [cwcells]
  go_enter Tryz.func55, Tryz.ntmps55
  go_wp2_with fail
  refine (rmayC_any ⟨⟨((r, i), s), ps, uu, t, ⟨k, n, x, p, ds⟩⟩, qa, qc, ua, uc, pa, pc, da, dc⟩ _ (HV.out.below B0.out.bel) (by dsimp only; omega)).mono ?_
  intro e w1 hto
  obtain ⟨z, rfl, hz, hb⟩ := hto
  have B := Lib.hid (B0.out.step hb)
  have Hz := Lib.hid hz
  clear hb hz B0
  have d0 := cells_at B.out.blk
  simp only [ccells] at d0
  have z0 := heap_lt B.out.blk
  cases z with
  | false =>
    have Hn := Lib.hid (show ¬ CmP ⟨((r, i), s), ps, uu, t, ⟨k, n, x, p, ds⟩⟩ from fun h => by have := Hz.out.2 h; cases this)
    go_wp2_with fail
    go_ret
    exact RInsN.no (insE_may Hn.out) (by decide) B.out.bel
  | true =>
    have HM := Lib.hid (Hz.out.1 rfl)
    clear Hz
    go_wp2_with fail
    refine (has_R pw w0 m b S la lc r i s _ (H.out.below B.out.bel)).mono ?_
    rintro e w2 ⟨rfl, hb⟩
    replace B := Lib.hid (B.out.step hb)
    clear hb d0 z0
    have d0 := cells_at B.out.blk
    simp only [ccells] at d0
    have z0 := heap_lt B.out.blk
    cases hh : hasG b.b.f (findC (cms S)) ((r, i), s) with
    | true =>
      have Hh := Lib.hid hh
      go_wp2_with fail
      go_ret
      exact RInsN.no (insE_twice HM.out Hh.out) (by decide) B.out.bel
    | false =>
      have Hh := Lib.hid hh
      have hs1 : 1 ≤ s := ((may_iff _).1 HM.out.dot).2.1
      have hs2 : s ≤ 1048576 := ((may_iff _).1 HM.out.dot).2.2
      have hf1 : ps.length ≤ 64 := HM.out.few
      have hf2 : uu.length ≤ 64 := by
        have h1 : (canonV uu).length ≤ 64 := vecOf_length _
        rwa [show canonV uu = uu from HM.out.canon] at h1
      have Hnd := Lib.hid (show ps.Nodup from ltD_nodup HM.out.ps.1)
      have HA : Hid (Below w2.heap.size w2 (w2.alloc (.cells #[.int .u8 r, .int .u32 i, .int .u64 (s - 1)] 49))) := Lib.hid ((Below.refl _ _).alloc (Nat.le_refl _) _)
      have HA2 := Lib.hid (below2 B.out.bel HA.out B.out.bel.size)
      clear hh
      go_wp2_with fail
      refine (gap_R pw w0 m b S la lc ⟨⟨((r, i), s), ps, uu, t, ⟨k, n, x, p, ds⟩⟩, qa, qc, ua, uc, pa, pc, da, dc⟩ r i s _ (H.out.below HA2.out) (HV.out.below HA2.out) rfl hs1 (by dsimp only; omega) (by dsimp only; omega)).mono ?_
      intro e w3 hto
      obtain ⟨z, rfl, hz, hb⟩ := hto
      have Hz := Lib.hid hz
      have D0 : Hid (BoxE 49 w2 w3 #[.int .u8 r, .int .u32 i, .int .u64 (s - 1)]) := Lib.hid (BoxE.of hb)
      replace B := Lib.hid (B.out.step D0.out.bel)
      clear hb hz d0 z0 HA HA2
      have d0 := cells_at B.out.blk
      simp only [ccells] at d0
      have z0 := heap_lt B.out.blk
      have d1 := cells_at D0.out.blk
      have z1 := heap_lt D0.out.blk
      cases z with
      | true =>
        have Hn := Lib.hid (Hz.out.1 rfl)
        go_wp2_with fail
        go_ret
        exact RInsN.no (insE_gap HM.out Hh.out Hn.out) (by decide) B.out.bel
      | false =>
        have HG := Lib.hid (show GapP b.b.f (findC (cms S)) ⟨((r, i), s), ps, uu, t, ⟨k, n, x, p, ds⟩⟩ from Classical.byContradiction fun h => by have := Hz.out.2 h; cases this)
        clear Hz
        go_wp2_with fail
        refine (wrong_R pw w0 m b S la lc ⟨⟨((r, i), s), ps, uu, t, ⟨k, n, x, p, ds⟩⟩, qa, qc, ua, uc, pa, pc, da, dc⟩ r i s _ (H.out.below B.out.bel) (HV.out.below B.out.bel) rfl hs1 Hnd.out (by dsimp only; omega) (by dsimp only; omega)).mono ?_
        intro e w4 hto
        obtain ⟨z, rfl, hz, hb⟩ := hto
        have Hz := Lib.hid hz
        replace B := Lib.hid (B.out.step hb)
        clear hb hz d0 z0 d1 z1 D0
        have d0 := cells_at B.out.blk
        simp only [ccells] at d0
        have z0 := heap_lt B.out.blk
        cases z with
        | true =>
          have Hn := Lib.hid (Hz.out.1 rfl)
          go_wp2_with fail
          go_ret
          exact RInsN.no (insE_form HM.out Hh.out HG.out Hn.out) (by decide) B.out.bel
        | false =>
          have HF := Lib.hid (show (∀ y, knN b.b.f (findC (cms S)) ⟨((r, i), s), ps, uu, t, ⟨k, n, x, p, ds⟩⟩ ps y ≤ getN uu y) ∧ FollowsP b.b.f (findC (cms S)) ⟨((r, i), s), ps, uu, t, ⟨k, n, x, p, ds⟩⟩ from Classical.byContradiction fun h => by have := Hz.out.2 h; cases this)
          clear Hz
          have RB := Lib.hid (H.out.below B.out.bel)
          have g0 := cells_at RB.out.blk
          simp only [rgcells] at g0
          have gz := heap_lt RB.out.blk
          by_cases hfull : 200 ≤ S.length
          · have Hfull := Lib.hid hfull
            have x1 : decide ((200 : Int) ≤ (S.length : Int)) = true := decide_eq_true (by omega)
            go_wp2_with fail
            go_ret
            exact RInsN.no (insE_full HM.out Hh.out HG.out HF.out Hfull.out) (by decide) B.out.bel
          · have x1 : decide ((200 : Int) ≤ (S.length : Int)) = false := decide_eq_false (by omega)
            have HO := Lib.hid (insE_ok HM.out Hh.out HG.out HF.out (by omega : S.length < 200))
            go_wp2_with fail
            clear d0 z0 g0 gz RB x1
            go_loopw [6] (fun j wr => ∃ q : Nat, q ≤ S.length ∧ j = .int .i64 q ∧ Hid (∀ y ∈ (cms S).take q, ltCb y ⟨((r, i), s), ps, uu, t, ⟨k, n, x, p, ds⟩⟩ = true) ∧ Hid (BoxE 54 w wr (ccells r i s qa ps.length qc ua uu.length uc t k pa p.length pc n x da ds.length dc))) (fun j _ => S.length - (intOf j).toNat)
            case atStart => exact ⟨0, Nat.zero_le _, rfl, Lib.hid (by simp), B⟩
            case round =>
              obtain ⟨q, hq, rfl, HL, B2⟩ := hrel
              clear B
              have B2D := Lib.hid (B2.out.step ((Below.refl _ _).drew))
              have d0 := cells_at B2.out.blk
              simp only [ccells] at d0
              have z0 := heap_lt B2.out.blk
              have RB := Lib.hid (H.out.below B2.out.bel)
              have g0 := cells_at RB.out.blk
              simp only [rgcells] at g0
              have gz := heap_lt RB.out.blk
              go_upto_region 14 with (fail)
              go_cut [80] (fun u wx => u = .bool (goB S ⟨((r, i), s), ps, uu, t, ⟨k, n, x, p, ds⟩⟩ q) ∧ Hid (BoxE 54 w wx (ccells r i s qa ps.length qc ua uu.length uc t k pa p.length pc n x da ds.length dc)))
              case first =>
                by_cases hlt : q < S.length
                · have x1 : decide ((q : Int) < (S.length : Int)) = true := decide_eq_true (by omega)
                  obtain ⟨v1, hv1⟩ : ∃ v, S[q]? = some v := ⟨S[q], by simp [hlt]⟩
                  obtain ⟨ag, hag, ⟨c0, c1, c2, c3, c4, c5, c6, c7, c8, c9, c10⟩, hlb⟩ := RB.out.rows.at_ hv1
                  subst hag
                  have HG1 := Lib.hid (goB_some (c := ⟨((r, i), s), ps, uu, t, ⟨k, n, x, p, ds⟩⟩) hv1)
                  clear hv1 c3 c4 c6 c7 c8 c9 c10
                  obtain ⟨⟨⟨⟨r1, i1⟩, s1⟩, ps1, uu1, t1, ⟨k1, n1, x1', p1, ds1⟩⟩, qa1, qc1, ua1, uc1, pa1, pc1, da1, dc1⟩ := v1
                  dsimp only at c0 c1 c2 c5
                  by_cases ht : t1 < t
                  · have x2 : decide (t1 < t) = true := decide_eq_true ht
                    have Ht := Lib.hid ht
                    clear ht
                    go_wp2_with fail
                    refine region_text [([0, 1, 2, 3, 4, 5, 6, 7, 8, 9, 10, 11, 12, 13, 14, 15, 16, 17, 18, 19, 20, 21, 22, 23, 24, 25, 26, 27, 28, 29, 30, 31, 32, 33, 34, 35, 36, 37, 38, 39, 40, 41, 42, 43, 44, 45], false)] mixed (by kernel_rfl) ?_
                    simp only [wpSegs, List.map_cons, List.map_nil, List.getD_cons_succ, List.getD_cons_zero]
                    go_wp2_with fail
                    refine And.intro (by kernel_rfl) ?_
                    go_wp2_with fail
                    go_meet
                    refine ⟨?_, B2D⟩
                    rw [HG1.out]; unfold ltCb
                    rw [decide_eq_true (show t1 < t from Ht.out)]; rfl
                  · have x2 : decide (t1 < t) = false := decide_eq_false ht
                    by_cases he : t1 = t
                    · have x3 : (t1 == t) = true := by rw [beq_iff_eq]; exact he
                      have He := Lib.hid he
                      have Ht := Lib.hid ht
                      clear he ht
                      go_wp2_with fail
                      refine region_text [([0, 1, 2, 3, 4, 5, 6, 7, 8, 9, 10, 11, 12, 13, 14, 15, 16, 17, 18, 19, 20, 21, 22, 23, 24, 25, 26, 27, 28, 29, 30, 31, 32, 33, 34, 35, 36, 37, 38, 39, 40, 41, 42, 43, 44, 45], false)] mixed (by kernel_rfl) ?_
                      simp only [wpSegs, List.map_cons, List.map_nil, List.getD_cons_succ, List.getD_cons_zero]
                      go_wp2_with fail
                      refine (rless_any r1 i1 s1 r i s _).mono ?_
                      rintro e w6 ⟨rfl, hb⟩
                      have B3 := Lib.hid (B2.out.step (((Below.refl _ _).drew).trans hb))
                      clear hb
                      go_wp2_with fail
                      refine And.intro (by kernel_rfl) ?_
                      go_wp2_with fail
                      go_meet
                      refine ⟨?_, B3⟩
                      rw [HG1.out]; unfold ltCb
                      rw [decide_eq_false (show ¬ t1 < t by have := Ht.out; omega), decide_eq_true (show t1 = t from He.out)]; rfl
                    · have x3 : (t1 == t) = false := by rw [beq_eq_false_iff_ne]; exact he
                      have He := Lib.hid he
                      have Ht := Lib.hid ht
                      clear he ht
                      go_wp2_with fail
                      refine region_text [([0, 1, 2, 3, 4, 5, 6, 7, 8, 9, 10, 11, 12, 13, 14, 15, 16, 17, 18, 19, 20, 21, 22, 23, 24, 25, 26, 27, 28, 29, 30, 31, 32, 33, 34, 35, 36, 37, 38, 39, 40, 41, 42, 43, 44, 45], false)] mixed (by kernel_rfl) ?_
                      simp only [wpSegs, List.map_cons, List.map_nil, List.getD_cons_succ, List.getD_cons_zero]
                      go_wp2_with fail
                      refine And.intro (by kernel_rfl) ?_
                      go_wp2_with fail
                      go_meet
                      refine ⟨?_, B2D⟩
                      rw [HG1.out]; unfold ltCb
                      rw [decide_eq_false (show ¬ t1 < t by have := Ht.out; omega), decide_eq_false (show ¬ t1 = t from He.out)]; rfl
                · have x1 : decide ((q : Int) < (S.length : Int)) = false := decide_eq_false (by omega)
                  have HG1 := Lib.hid (goB_none (c := ⟨((r, i), s), ps, uu, t, ⟨k, n, x, p, ds⟩⟩) (by omega : S.length ≤ q))
                  go_wp2_with fail
                  refine region_text [([0, 1, 2, 3, 4, 5, 6, 7, 8, 9, 10, 11, 12, 13, 14, 15, 16, 17, 18, 19, 20, 21, 22, 23, 24, 25, 26, 27, 28, 29, 30, 31, 32, 33, 34, 35, 36, 37, 38, 39, 40, 41, 42, 43, 44, 45], false)] mixed (by kernel_rfl) ?_
                  simp only [wpSegs, List.map_cons, List.map_nil, List.getD_cons_succ, List.getD_cons_zero]
                  go_wp2_with fail
                  refine And.intro (by kernel_rfl) ?_
                  go_wp2_with fail
                  go_meet
                  exact ⟨by rw [HG1.out], B2D⟩
              case rest =>
                obtain ⟨rfl, B3⟩ := hcut
                clear d0 z0 g0 gz RB B2 B2D
                cases hgo : goB S ⟨((r, i), s), ps, uu, t, ⟨k, n, x, p, ds⟩⟩ q with
                | true =>
                  have hlt : q < S.length := Classical.byContradiction fun h => by rw [goB_none (by omega)] at hgo; cases hgo
                  have HL' := Lib.hid (show ∀ y ∈ (cms S).take (q + 1), ltCb y ⟨((r, i), s), ps, uu, t, ⟨k, n, x, p, ds⟩⟩ = true from by
                    obtain ⟨v1, hv1⟩ : ∃ v, S[q]? = some v := ⟨S[q], by simp [hlt]⟩
                    rw [goB_some hv1] at hgo
                    exact all_snoc (p := fun y : Cm => ltCb y ⟨((r, i), s), ps, uu, t, ⟨k, n, x, p, ds⟩⟩ = true) (getD_at hv1) HL.out hgo)
                  clear hgo
                  go_wp2_with fail
                  go_roundw
                  case rel => exact ⟨q + 1, by omega, by go_num, HL', B3⟩
                  case measure => simp [intOf]; omega
                | false =>
                  have HPl := Lib.hid (show plC (cms S) ⟨((r, i), s), ps, uu, t, ⟨k, n, x, p, ds⟩⟩ = q from plC_of (by unfold cms; simpa using hq) HL.out (fun y hy => by unfold goB at hgo; rw [hy] at hgo; exact hgo))
                  clear hgo
                  obtain ⟨U, hU, hUr, hUs⟩ := keepC la lc S q hq hll
                  obtain ⟨xa, xc, V, hV, hVr, hVs⟩ := cutC la lc S q hq hll
                  have HPut := Lib.hid (show putC S ⟨⟨((r, i), s), ps, uu, t, ⟨k, n, x, p, ds⟩⟩, qa, qc, ua, uc, pa, pc, da, dc⟩ = (U ++ [⟨⟨((r, i), s), ps, uu, t, ⟨k, n, x, p, ds⟩⟩, qa, qc, ua, uc, pa, pc, da, dc⟩]) ++ V from by unfold putC; dsimp only; rw [HPl.out, hU, hV]; simp)
                  have hUl : U.length ≤ 200 := by rw [hU]; simp; omega
                  have hVl : V.length ≤ 200 := by rw [hV]; simp; omega
                  have HUs := Lib.hid hUs
                  have HVs := Lib.hid hVs
                  clear hU hV hUs hVs
                  obtain ⟨wa, hwa⟩ : ∃ wa, wa = wc := ⟨_, rfl⟩
                  subst hwa
                  have d0 := cells_at B3.out.blk
                  simp only [ccells] at d0
                  have z0 := heap_lt B3.out.blk
                  have RB := Lib.hid (H.out.below B3.out.bel)
                  have g0 := cells_at RB.out.blk
                  simp only [rgcells] at g0
                  have gz := heap_lt RB.out.blk
                  have A1 : Hid (Below wa.heap.size wa (wa.alloc (.cells #[] 54))) := Lib.hid ((Below.refl _ _).alloc (Nat.le_refl _) _)
                  go_wp2_with (at_builtin; go_must (refine wpList_appC rfl _ _ rfl wa.heap.size (some ⟨wa.heap.size, 0, none⟩) 0 [] rfl (OwnC.made wa (Nat.le_refl _)) la lc U rfl (HUs.out _ (RB.out.below A1.out).row.cms) ?n1 ?b1 ?_))
                  case n1 => simp; omega
                  case b1 => simp
                  intro v1 a1 c1 wb hv1 ho1 hb1 hc1 hn1
                  have Hv1 := Lib.hid (show v1 = U from hv1)
                  have hl1 : v1.length ≤ 200 := by rw [Hv1.out]; exact hUl
                  have Hb1 := Lib.hid (A1.out.trans hb1)
                  have Ho1 := Lib.hid ho1
                  have B4 := Lib.hid (B3.out.step Hb1.out)
                  clear hv1 ho1 hb1 hc1 hn1 d0 z0 g0 gz hUr
                  have d0 := cells_at B4.out.blk
                  simp only [ccells] at d0
                  have z0 := heap_lt B4.out.blk
                  have A2 : Hid (Below wb.heap.size wb (wb.alloc (.cells (ccells r i s qa ps.length qc ua uu.length uc t k pa p.length pc n x da ds.length dc) 54))) := Lib.hid ((Below.refl _ _).alloc (Nat.le_refl _) _)
                  go_wp2_with (at_builtin; go_must (refine wpList_appC rfl _ _ rfl wa.heap.size a1 c1 v1 rfl (OwnC.below Ho1.out A2.out) (some ⟨wb.heap.size, 0, none⟩) 1 [⟨⟨((r, i), s), ps, uu, t, ⟨k, n, x, p, ds⟩⟩, qa, qc, ua, uc, pa, pc, da, dc⟩] rfl (cm_one ⟨⟨((r, i), s), ps, uu, t, ⟨k, n, x, p, ds⟩⟩, qa, qc, ua, uc, pa, pc, da, dc⟩ (heap_new _ _)) ?n2 ?b2 ?_))
                  case n2 => simp; omega
                  case b2 => exact Nat.le_trans Hb1.out.size A2.out.size
                  intro v2 a2 c2 wd hv2 ho2 hb2 hc2 hn2
                  have Hv2 := Lib.hid (show v2 = U ++ [⟨⟨((r, i), s), ps, uu, t, ⟨k, n, x, p, ds⟩⟩, qa, qc, ua, uc, pa, pc, da, dc⟩] by rw [hv2, Hv1.out])
                  have hl2 : v2.length ≤ 201 := by rw [Hv2.out]; simp; omega
                  have Hb2 := Lib.hid ((below2 Hb1.out A2.out Hb1.out.size).trans hb2)
                  have Ho2 := Lib.hid ho2
                  have RB2 := Lib.hid (RB.out.below Hb2.out)
                  clear hv2 ho2 hb2 hc2 hn2 d0 z0 A2 B4 Ho1
                  have g0 := cells_at RB2.out.blk
                  simp only [rgcells] at g0
                  have gz := heap_lt RB2.out.blk
                  go_wp2_with (at_builtin; go_must (refine wpList_appC rfl _ _ rfl wa.heap.size a2 c2 v2 rfl Ho2.out xa xc V rfl (HVs.out _ RB2.out.row.cms) ?n3 ?b3 ?_))
                  case n3 => omega
                  case b3 => exact Hb2.out.size
                  intro v3 a3 c3 we hv3 ho3 hb3 hc3 hn3
                  have Hv3 := Lib.hid (show v3 = putC S ⟨⟨((r, i), s), ps, uu, t, ⟨k, n, x, p, ds⟩⟩, qa, qc, ua, uc, pa, pc, da, dc⟩ by rw [hv3, Hv2.out, HPut.out])
                  have Hb3 := Lib.hid (Hb2.out.trans hb3)
                  have Ho3 := Lib.hid ho3
                  clear hv3 ho3 hb3 hc3 hn3 g0 gz Ho2
                  have RB3 := Lib.hid (RB.out.below Hb3.out)
                  have g0 := cells_at RB3.out.blk
                  simp only [rgcells] at g0
                  have gf := free_at RB3.out.blk
                  have gz := heap_lt RB3.out.blk
                  go_wp2_with fail
                  have HBl := Lib.hid (below2 B3.out.bel Hb3.out B3.out.bel.size)
                  have hba := B3.out.bel.size
                  have Hfin := Lib.hid (RgAt.put (v := ⟨⟨((r, i), s), ps, uu, t, ⟨k, n, x, p, ds⟩⟩, qa, qc, ua, uc, pa, pc, da, dc⟩) (la' := a3) (lc' := c3) (base := wa.heap.size) H.out HBl.out HV0.out HM.out (by
                    have h1 := Hh.out
                    unfold hasG at h1
                    rw [Bool.or_eq_false_iff] at h1
                    cases hf : findC (cms S) ((r, i), s) with
                    | none => rfl
                    | some y => rw [hf] at h1; cases h1.1) (by omega) hpg hba (by rw [← Hv3.out]; exact Ho3.out) rfl)
                  go_ret
                  refine ⟨by rw [HO.out]; rfl, .inr ⟨HO.out, a3, c3, ?_⟩⟩
                  have h9 := Hfin.out
                  rw [← Hv3.out] at h9
                  rw [← Hv3.out]
                  exact ⟨h9.1, h9.2, fun k hk => Nat.le_trans hba (owns_lt Ho3.out k hk).1⟩
end Go.Proofs.YtaandcblndldmaaGreat

/- AudM -/
namespace Go.Proofs.YtaandcblndldmaaGreat
open Go.RowKit
set_option linter.unusedVariables false
set_option linter.unusedSimpArgs false
set_option linter.unnecessarySimpa false

/-- what the document's walk has in memory: the graph at pg, flaws, gone commits -/
structure WkE (w wr : World) (v : Sw) (m pg : Nat) (S : List Cw) (la : Option Addr) (lc : Nat) (fa : Option Addr) (fc : Nat) (Fl : List Fw) (ga : Option Addr) (gc : Nat) (R : List Cw) : Prop where
  box : wr.heap[w.heap.size]? = some (.cells (swcells v) 35 (0, 0))
  gr : RgAt wr pg w m v.b S la lc
  bel : Below w.heap.size w wr
  lo : w.heap.size < pg
  fl : OwnFl wr (pg + 1) fa fc Fl
  go : OwnC wr (pg + 1) ga gc R
  each : ∀ u ∈ R, u ∈ v.l
  sub : ∀ u ∈ S, u ∈ v.l
  d1 : ∀ k ∈ ob fa, k ∉ ob la
  d2 : ∀ k ∈ ob ga, k ∉ ob la
  d3 : ∀ k ∈ ob ga, k ∉ ob fa
section
variable {w wr w' : World} {v : Sw} {m pg : Nat} {S : List Cw} {la : Option Addr} {lc : Nat} {fa : Option Addr} {fc : Nat} {Fl : List Fw} {ga : Option Addr} {gc : Nat} {R : List Cw}
theorem WkE.below (h : WkE w wr v m pg S la lc fa fc Fl ga gc R) (hb : Below wr.heap.size wr w') : WkE w w' v m pg S la lc fa fc Fl ga gc R :=
  ⟨(hb.block _ (heap_lt h.box)).trans h.box, h.gr.below hb, below2 h.bel hb h.bel.size, h.lo, h.fl.below hb, h.go.below hb, h.each, h.sub, h.d1, h.d2, h.d3⟩
theorem WkE.put {S' : List Cw} {la' : Option Addr} {lc' : Nat} (h : WkE w wr v m pg S la lc fa fc Fl ga gc R) (hR : RgAt w' pg w m v.b S' la' lc') (hC : Chg [pg] wr w') (hn : ∀ k ∈ ob la', wr.heap.size ≤ k) (hS : ∀ u ∈ S', u ∈ v.l) :
    WkE w w' v m pg S' la' lc' fa fc Fl ga gc R := by
  have hp := h.lo
  refine ⟨heap_chg h.box hC (by simp; omega), hR, h.bel.trans (hC.below h.bel.size (by simp; omega)), h.lo, owns_chg h.fl hC (fun k hk => ?_), OwnC.chg h.go hC (fun k hk => ?_), h.each, hS, fun k hk hm => ?_, fun k hk hm => ?_, h.d3⟩
  · have := (owns_lt h.fl k hk).1; simp; omega
  · have := (owns_lt h.go k hk).1; simp; omega
  · have := (owns_lt h.fl k hk).2; have := hn k hm; omega
  · have := (owns_lt h.go k hk).2; have := hn k hm; omega
theorem WkE.appF {a' : Option Addr} {c' : Nat} {F' : List Fw} (h : WkE w wr v m pg S la lc fa fc Fl ga gc R) (ho : OwnFl w' (pg + 1) a' c' F') (hC : Chg (ob fa) wr w') (hn : ∀ k ∈ ob a', k ∈ ob fa ∨ wr.heap.size ≤ k) :
    WkE w w' v m pg S la lc a' c' F' ga gc R := by
  have hp := h.lo
  have h0 : ∀ k ∈ ob fa, w.heap.size ≤ k := fun k hk => by have := (owns_lt h.fl k hk).1; omega
  refine ⟨heap_chg h.box hC (fun hm => ?_), h.gr.chg hC (fun hm => ?_) (fun k hk hm => h.d1 k hm hk) h0, h.bel.trans (hC.below h.bel.size h0), h.lo, ho, OwnC.chg h.go hC (fun k hk hm => h.d3 k hk hm), h.each, h.sub, fun k hk hm => ?_, h.d2, fun k hk hm => ?_⟩
  · have := (owns_lt h.fl _ hm).1; omega
  · have := (owns_lt h.fl _ hm).1; omega
  · rcases hn k hk with h1 | h1
    · exact h.d1 k h1 hm
    · have := (owns_lt h.gr.row k hm).2; omega
  · rcases hn k hm with h1 | h1
    · exact h.d3 k hk h1
    · have := (owns_lt h.go k hk).2; omega
theorem WkE.appG {a' : Option Addr} {c' : Nat} {R' : List Cw} (h : WkE w wr v m pg S la lc fa fc Fl ga gc R) (ho : OwnC w' (pg + 1) a' c' R') (hC : Chg (ob ga) wr w') (hn : ∀ k ∈ ob a', k ∈ ob ga ∨ wr.heap.size ≤ k) (hR : ∀ u ∈ R', u ∈ v.l) :
    WkE w w' v m pg S la lc fa fc Fl a' c' R' := by
  have hp := h.lo
  have h0 : ∀ k ∈ ob ga, w.heap.size ≤ k := fun k hk => by have := (owns_lt h.go k hk).1; omega
  refine ⟨heap_chg h.box hC (fun hm => ?_), h.gr.chg hC (fun hm => ?_) (fun k hk hm => h.d2 k hm hk) h0, h.bel.trans (hC.below h.bel.size h0), h.lo, owns_chg h.fl hC (fun k hk hm => h.d3 k hm hk), ho, hR, h.sub, h.d1, fun k hk hm => ?_, fun k hk hm => ?_⟩
  · have := (owns_lt h.go _ hm).1; omega
  · have := (owns_lt h.go _ hm).1; omega
  · rcases hn k hk with h1 | h1
    · exact h.d2 k h1 hm
    · have := (owns_lt h.gr.row k hm).2; omega
  · rcases hn k hk with h1 | h1
    · exact h.d3 k h1 hm
    · have := (owns_lt h.fl k hm).2; omega
end
/-- what it tells, plainly -/
structure WkP (v : Sw) (s : Au) (z : Value) (S : List Cw) (Fl : List Fw) (R : List Cw) : Prop where
  perm : (cms S).Perm s.L
  fl : Fl = flw s.fl
  gone : cms R = s.gone.filterMap fun k => (cms v.l)[k]?
  last : (s.last = none ∧ z = .int .i64 (-1)) ∨ ∃ (i : Nat) (u : Cw), s.last = some u.c ∧ z = .int .i64 (i : Int) ∧ v.l[i]? = some u
theorem WkP.ne {v : Sw} {s : Au} {z : Value} {S : List Cw} {Fl : List Fw} {R : List Cw} {F : List Dt} {q : Nat} {u : Cw} (h : WkP v s z S Fl R) (hq : v.l[q]? = some u) (hc : insE F (findC s.L) s.L.length u.c ≠ 0) :
    WkP v (auStep F s q u.c) z S (Fl ++ [((q : Int), insE F (findC s.L) s.L.length u.c)]) (R ++ [u]) := by
  unfold auStep
  rw [if_neg hc]
  refine ⟨h.perm, ?_, ?_, h.last⟩
  · rw [flw_snoc, ← h.fl]
  · rw [List.filterMap_append, ← h.gone]
    simp [cms, hq]
theorem WkP.ok {v : Sw} {s : Au} {z : Value} {S : List Cw} {Fl : List Fw} {R : List Cw} {F : List Dt} {q : Nat} {u : Cw} (h : WkP v s z S Fl R) (hq : v.l[q]? = some u) (hc : insE F (findC s.L) s.L.length u.c = 0) (hb : auBad s.last u.c = false) :
    WkP v (auStep F s q u.c) (.int .i64 (q : Int)) (putC S u) Fl R := by
  unfold auStep
  rw [if_pos hc, if_neg (by rw [hb]; simp)]
  exact ⟨(putC_perm S u).trans (h.perm.append_right _), h.fl, h.gone, .inr ⟨q, u, rfl, rfl, hq⟩⟩
theorem WkP.bad {v : Sw} {s : Au} {z : Value} {S : List Cw} {Fl : List Fw} {R : List Cw} {F : List Dt} {q : Nat} {u : Cw} (h : WkP v s z S Fl R) (hq : v.l[q]? = some u) (hc : insE F (findC s.L) s.L.length u.c = 0) (hb : auBad s.last u.c = true) :
    WkP v (auStep F s q u.c) (.int .i64 (q : Int)) (putC S u) (Fl ++ [((q : Int), 16)]) R := by
  unfold auStep
  rw [if_pos hc, if_pos hb]
  exact ⟨(putC_perm S u).trans (h.perm.append_right _), by rw [flw_snoc, ← h.fl], h.gone, .inr ⟨q, u, rfl, rfl, hq⟩⟩
theorem WkP.ins {v : Sw} {s : Au} {z : Value} {S : List Cw} {Fl : List Fw} {R : List Cw} {F : List Dt} {c : Cm} (h : WkP v s z S Fl R) (hn : ((cms S).map (·.d)).Nodup) : insE F (findC (cms S)) S.length c = insE F (findC s.L) s.L.length c := by
  rw [findC_perm h.perm hn, ← h.perm.length_eq]
  simp [cms]
theorem WkP.lens {v : Sw} {F : List Dt} {q : Nat} {z : Value} {S : List Cw} {Fl : List Fw} {R : List Cw} (h : WkP v (auF F ((cms v.l).take q)) z S Fl R) : Fl.length ≤ q ∧ R.length ≤ q := by
  have h1 := auF_flen F ((cms v.l).take q)
  have h2 := (auF_P F ((cms v.l).take q)).len
  have h3 : ((cms v.l).take q).length ≤ q := by rw [List.length_take]; omega
  have h4 : R.length = (cms R).length := by simp [cms]
  have h5 := List.length_filterMap_le (fun k => (cms v.l)[k]?) (auF F ((cms v.l).take q)).gone
  rw [h.fl, h4, h.gone]
  refine ⟨?_, by omega⟩
  unfold flw
  rw [List.length_map]; omega
def WkTo (w : World) (v : Sw) (m : Nat) (e : Ending) (w' : World) : Prop :=
  ∃ (pg : Nat) (S : List Cw) (la : Option Addr) (lc : Nat) (fa : Option Addr) (fc : Nat) (Fl : List Fw) (ga : Option Addr) (gc : Nat) (R : List Cw) (z : Value),
    e = .returned (.tuple #[.pointer (some ⟨pg, 0, none⟩), .slice fa Fl.length fc, .slice ga R.length gc]) ∧ WkP v (auF v.b.b.f (cms v.l)) z S Fl R ∧ WkE w w' v m pg S la lc fa fc Fl ga gc R
set_option maxRecDepth 100000 in
set_option maxHeartbeats 16000000 in
theorem walk36_any (v : Sw) (m : Nat) (w : World) (h : SwAt w m v) (hN : SwN v) (hP : BaseP v.b.b) (hfew : v.l.length ≤ 20) : Calls Tryz.prog 41 #[.agg (swcells v)] w (WkTo w v m) := by
  obtain ⟨kk, ip, ia, ic, incs, ⟨⟨num, F, tips, t, tr⟩, fa0, fc0, ta, tc, ra, rc⟩, la0, lc0, l⟩ := v
  have H := Lib.hid h
  have HN := Lib.hid hN
  have HP := Lib.hid hP
  have m0 := h.cms.sl.2.1
  have m1 := h.cms.sl.2.2.1
  unfold maxLen at m1
  dsimp only at m0 m1 hfew
  have B0 : Hid (BoxE 35 w (w.alloc (.cells (sncells kk ip ia incs.length ic num fa0 F.length fc0 ta tips.length tc t ra tr.length rc la0 l.length lc0) 35)) (sncells kk ip ia incs.length ic num fa0 F.length fc0 ta tips.length tc t ra tr.length rc la0 l.length lc0)) := Lib.hid ⟨heap_new _ _, (Below.refl _ _).alloc (Nat.le_refl _) _⟩
  have hs0 : w.heap.size < (w.alloc (.cells (sncells kk ip ia incs.length ic num fa0 F.length fc0 ta tips.length tc t ra tr.length rc la0 l.length lc0) 35)).heap.size := by simp
  clear h hN hP
  simp only [swcells]
  go_enter Tryz.func41, Tryz.ntmps41
  go_upto_region 1 with (fail)
  generalize (w.alloc (.cells (sncells kk ip ia incs.length ic num fa0 F.length fc0 ta tips.length tc t ra tr.length rc la0 l.length lc0) 35)) = wa at B0 hs0 ⊢
  have d0 := cells_at B0.out.blk
  simp only [sncells] at d0
  have z0 := heap_lt B0.out.blk
  have W0 : Hid (WkE w (wa.alloc (.cells (rgcells num fa0 F.length fc0 ta tips.length tc t ra tr.length rc none 0 0) 61)) ⟨kk, ip, ia, ic, incs, ⟨⟨num, F, tips, t, tr⟩, fa0, fc0, ta, tc, ra, rc⟩, la0, lc0, l⟩ m wa.heap.size [] none 0 none 0 [] none 0 []) := Lib.hid (by
    have hA : Below wa.heap.size wa (wa.alloc (.cells (rgcells num fa0 F.length fc0 ta tips.length tc t ra tr.length rc none 0 0) 61)) := (Below.refl _ _).alloc (Nat.le_refl _) _
    have hB := below2 B0.out.bel hA B0.out.bel.size
    exact ⟨(hA.block _ z0).trans B0.out.blk, ⟨heap_new _ _, hB, B0.out.bel.size, H.out.b, OwnC.nil _ _, fun y hy => (by cases hy), List.Pairwise.nil, List.nodup_nil, fun y hy => (by cases hy), Nat.zero_le _, HP.out.canon⟩, hB, hs0, OwnFl.nil _ _, OwnC.nil _ _, fun y hy => (by cases hy), fun y hy => (by cases hy), fun k hk => (by cases hk), fun k hk => (by cases hk), fun k hk => (by cases hk)⟩)
  have P0 : Hid (WkP ⟨kk, ip, ia, ic, incs, ⟨⟨num, F, tips, t, tr⟩, fa0, fc0, ta, tc, ra, rc⟩, la0, lc0, l⟩ (auF F ((cms l).take 0)) (.int .i64 (-1)) [] [] []) := Lib.hid ⟨List.Perm.refl _, rfl, rfl, .inl ⟨rfl, rfl⟩⟩
  go_wp2_with fail
  clear B0 d0 z0
  have hpg := W0.out.lo
  go_loopw [9, 6, 7, 8] (fun j fv gv z wr => ∃ (q : Nat) (S : List Cw) (la : Option Addr) (lc : Nat) (fa : Option Addr) (fc : Nat) (Fl : List Fw) (ga : Option Addr) (gc : Nat) (R : List Cw), q ≤ l.length ∧ j = .int .i64 q ∧ fv = .slice fa Fl.length fc ∧ gv = .slice ga R.length gc ∧ Hid (WkP ⟨kk, ip, ia, ic, incs, ⟨⟨num, F, tips, t, tr⟩, fa0, fc0, ta, tc, ra, rc⟩, la0, lc0, l⟩ (auF F ((cms l).take q)) z S Fl R) ∧ Hid (WkE w wr ⟨kk, ip, ia, ic, incs, ⟨⟨num, F, tips, t, tr⟩, fa0, fc0, ta, tc, ra, rc⟩, la0, lc0, l⟩ m wa.heap.size S la lc fa fc Fl ga gc R)) (fun j _ _ _ _ => l.length - (intOf j).toNat)
  case atStart => exact ⟨0, [], none, 0, none, 0, [], none, 0, [], Nat.zero_le _, rfl, rfl, rfl, P0, W0⟩
  case round =>
    obtain ⟨q, S, la, lc, fa, fc, Fl, ga, gc, R, hq, rfl, rfl, rfl, P, W⟩ := hrel
    clear W0 P0
    have hlens := Lib.hid P.out.lens
    have d0 := cells_at W.out.box
    simp only [swcells, sncells] at d0
    have z0 := heap_lt W.out.box
    by_cases hlt : q < l.length
    · obtain ⟨v1, hv1⟩ : ∃ v, l[q]? = some v := ⟨l[q], by simp [hlt]⟩
      obtain ⟨ad, had, ⟨c0, c1, c2, c3, c4, c5, c6, c7, c8, c9, c10⟩, hlb⟩ := (H.out.cms.below W.out.bel).at_ hv1
      subst had
      have Hat := Lib.hid (H.out.cms.each v1 (List.mem_of_getElem? hv1))
      have HcB := Lib.hid (HN.out.each v1 (List.mem_of_getElem? hv1))
      have hcs : (cms l)[q]? = some v1.c := getD_at hv1
      have Htk := Lib.hid (auF_take F hcs)
      have Hv1 := Lib.hid hv1
      clear hv1 hcs
      obtain ⟨⟨⟨⟨r, i⟩, s⟩, ps, uu, t1, ⟨k, n, x, p, ds⟩⟩, qa, qc, ua, uc, pa, pc, da, dc⟩ := v1
      dsimp only at c0 c1 c2 c3 c4 c5 c6 c7 c8 c9 c10
      have hvl : uu.length ≤ 1100000 := HcB.out.2.1
      have HA : Hid (BoxE 54 wr (wr.alloc (.cells (ccells r i s qa ps.length qc ua uu.length uc t1 k pa p.length pc n x da ds.length dc) 54)) (ccells r i s qa ps.length qc ua uu.length uc t1 k pa p.length pc n x da ds.length dc)) := Lib.hid ⟨heap_new _ _, (Below.refl _ _).alloc (Nat.le_refl _) _⟩
      have WA := Lib.hid (W.out.below HA.out.bel)
      have hwr := heap_lt W.out.gr.blk
      go_wp2_with fail
      refine (insert_RN wa.heap.size w m ⟨⟨num, F, tips, t, tr⟩, fa0, fc0, ta, tc, ra, rc⟩ S la lc ⟨⟨((r, i), s), ps, uu, t1, ⟨k, n, x, p, ds⟩⟩, qa, qc, ua, uc, pa, pc, da, dc⟩ _ WA.out.gr Hat.out (by dsimp only; omega)).mono ?_
      intro e w4 hto
      obtain ⟨rfl, hn⟩ := hto
      have hins := P.out.ins (F := F) (c := ⟨((r, i), s), ps, uu, t1, ⟨k, n, x, p, ds⟩⟩) W.out.gr.nodup
      dsimp only at hn
      rw [hins] at hn
      rw [show insE (⟨⟨num, F, tips, t, tr⟩, fa0, fc0, ta, tc, ra, rc⟩ : Bw).b.f (findC (cms S)) S.length (⟨⟨((r, i), s), ps, uu, t1, ⟨k, n, x, p, ds⟩⟩, qa, qc, ua, uc, pa, pc, da, dc⟩ : Cw).c = _ from hins]
      clear hins
      have HB4 : Hid (w4.heap[wr.heap.size]? = some (.cells (ccells r i s qa ps.length qc ua uu.length uc t1 k pa p.length pc n x da ds.length dc) 54 (0, 0))) := Lib.hid (by
        rcases hn with ⟨_, hb⟩ | ⟨_, la', lc', _, hC, _⟩
        · exact (hb.block _ (heap_lt HA.out.blk)).trans HA.out.blk
        · exact heap_chg HA.out.blk hC (by simp; omega))
      have Hn := Lib.hid hn
      clear hn c0 c1 c2 c3 c4 c5 c6 c7 c8 c9 c10 hlb d0 z0
      obtain ⟨s0, hs0e⟩ : ∃ s0, s0 = auF F ((cms l).take q) := ⟨_, rfl⟩
      rw [← hs0e] at P Htk Hn ⊢
      clear hs0e
      obtain ⟨X, hX⟩ : ∃ X, X = insE F (findC s0.L) s0.L.length ⟨((r, i), s), ps, uu, t1, ⟨k, n, x, p, ds⟩⟩ := ⟨_, rfl⟩
      rw [← hX] at Hn ⊢
      have HX := Lib.hid hX
      clear hX
      by_cases hz : X = 0
      rotate_left
      · have yz : (X != 0) = true := by rw [bne_iff_ne]; exact hz
        have Hz := Lib.hid hz
        have W4 := Lib.hid (WA.out.below (Hn.out.elim (fun h => h.2) (fun h => absurd h.1 hz)))
        have PN := Lib.hid (P.out.ne (F := F) (u := ⟨⟨((r, i), s), ps, uu, t1, ⟨k, n, x, p, ds⟩⟩, qa, qc, ua, uc, pa, pc, da, dc⟩) Hv1.out (by rw [← HX.out]; exact hz))
        clear hz Hn
        have e0 := cells_at HB4.out
        simp only [ccells] at e0
        have ez := heap_lt HB4.out
        go_wp2_with (at_builtin; go_must (refine wpList_appFl rfl _ _ rfl (wa.heap.size + 1) fa fc Fl rfl ?o1 (some ⟨w4.heap.size, 0, none⟩) 1 [((q : Int), X)] rfl (flv_one (heap_new _ _)) ?n1 ?b1 ?_))
        case o1 => exact W4.out.fl.below ((Below.refl _ _).alloc (Nat.le_refl _) _)
        case n1 => have := hlens.out.1; simp; omega
        case b1 => have := heap_lt W4.out.gr.blk; simp; omega
        intro v5 a5 c5 w5 hv ho hb5 hc5 hn5
        have W5 := Lib.hid ((W4.out.below ((Below.refl _ _).alloc (Nat.le_refl _) _)).appF ho hc5 (fun kq hk => (hn5 kq hk).imp id (fun h => by simp; omega)))
        have HB5 := Lib.hid (heap_chg ((((Below.refl w4.heap.size w4).alloc (Nat.le_refl _) (.cells #[.int .i64 q, .int .i64 X] 77)).block _ (heap_lt HB4.out)).trans HB4.out) hc5 (fun hm => by have := (owns_lt W.out.fl _ hm).2; omega))
        have Hv5 := Lib.hid hv
        have l5 : v5.length ≤ q + 1 := by have := hlens.out.1; rw [hv]; simp; omega
        clear hv ho hb5 hc5 hn5 e0 ez
        have e0 := cells_at HB5.out
        simp only [ccells] at e0
        have ez := heap_lt HB5.out
        go_wp2_with (at_builtin; go_must (refine wpList_appC rfl _ _ rfl (wa.heap.size + 1) ga gc R rfl ?o2 (some ⟨w5.heap.size, 0, none⟩) 1 [⟨⟨((r, i), s), ps, uu, t1, ⟨k, n, x, p, ds⟩⟩, qa, qc, ua, uc, pa, pc, da, dc⟩] rfl (cm_one _ (heap_new _ _)) ?n2 ?b2 ?_))
        case o2 => exact W5.out.go.below ((Below.refl _ _).alloc (Nat.le_refl _) _)
        case n2 => have := hlens.out.2; simp; omega
        case b2 => have := heap_lt W5.out.gr.blk; simp; omega
        intro v6 a6 c6 w6 hv ho hb6 hc6 hn6
        have W6 := Lib.hid ((W5.out.below ((Below.refl _ _).alloc (Nat.le_refl _) _)).appG ho hc6 (fun kq hk => (hn6 kq hk).imp id (fun h => by simp; omega)) (fun u hu => by
          rw [hv, List.mem_append] at hu
          rcases hu with hu | hu
          · exact W5.out.each u hu
          · rw [List.mem_singleton] at hu; subst hu; exact List.mem_of_getElem? Hv1.out))
        have Hv6 := Lib.hid hv
        clear hv ho hb6 hc6 hn6 e0 ez
        go_wp2_with fail
        go_roundw
        case rel => exact ⟨q + 1, S, la, lc, a5, c5, v5, a6, c6, v6, by omega, by go_num, rfl, rfl, Lib.hid (by rw [Htk.out, Hv5.out, Hv6.out, HX.out]; exact PN.out), W6⟩
        case measure => simp [intOf]; omega
      have yz : (X != 0) = false := by rw [hz]; rfl
      have Hz := Lib.hid (show insE F (findC s0.L) s0.L.length ⟨((r, i), s), ps, uu, t1, ⟨k, n, x, p, ds⟩⟩ = 0 by rw [← HX.out]; exact hz)
      obtain ⟨la', lc', hRg, hC4, hnew⟩ := Hn.out.elim (fun h => absurd hz h.1) (fun h => h.2)
      have W4 := Lib.hid (WA.out.put hRg hC4 hnew (fun u hu => (putC_mem hu).elim (W.out.sub u) (fun e => by rw [e]; exact List.mem_of_getElem? Hv1.out)))
      clear hRg hC4 hnew Hn hz
      have e0 := cells_at HB4.out
      simp only [ccells] at e0
      have ez := heap_lt HB4.out
      have d0 := cells_at W4.out.box
      simp only [swcells, sncells] at d0
      have z0 := heap_lt W4.out.box
      have DW := Lib.hid (show Below w4.heap.size w4 w4.drew from (Below.refl _ _).drew)
      rcases P.out.last with ⟨hl1, rfl⟩ | ⟨ix, u, hl1, rfl, hu⟩
      · have PN := Lib.hid (P.out.ok (F := F) (u := ⟨⟨((r, i), s), ps, uu, t1, ⟨k, n, x, p, ds⟩⟩, qa, qc, ua, uc, pa, pc, da, dc⟩) Hv1.out Hz.out (by rw [hl1]; rfl))
        have W9 := Lib.hid (W4.out.below DW.out)
        clear hl1
        go_wp2_with fail
        refine region_text [([0, 1, 2, 3, 4, 5, 6, 7, 8, 9, 10], false)] mixed (by kernel_rfl) ?_
        simp only [wpSegs, List.map_cons, List.map_nil, List.getD_cons_succ, List.getD_cons_zero]
        go_wp2_with fail
        refine And.intro (by kernel_rfl) ?_
        go_wp2_with fail
        go_roundw
        case rel => exact ⟨q + 1, putC S ⟨⟨((r, i), s), ps, uu, t1, ⟨k, n, x, p, ds⟩⟩, qa, qc, ua, uc, pa, pc, da, dc⟩, la', lc', fa, fc, Fl, ga, gc, R, by omega, by go_num, rfl, rfl, Lib.hid (by rw [Htk.out]; exact PN.out), W9⟩
        case measure => simp [intOf]; omega
      · have y0 : decide ((0 : Int) ≤ (ix : Int)) = true := decide_eq_true (by omega)
        have hix := (List.getElem?_eq_some_iff.1 hu).1
        obtain ⟨af, haf, ⟨c0, c1, c2, c3, c4, c5, c6, c7, c8, c9, c10⟩, hlb⟩ := (H.out.cms.below W4.out.bel).at_ hu
        cases haf
        have Hbad := Lib.hid (show auBad s0.last ⟨((r, i), s), ps, uu, t1, ⟨k, n, x, p, ds⟩⟩ = ltCb ⟨((r, i), s), ps, uu, t1, ⟨k, n, x, p, ds⟩⟩ u.c by rw [hl1]; rfl)
        clear hl1 hu
        obtain ⟨⟨⟨⟨r', i'⟩, s'⟩, ps', uu', t', ⟨k', n', x', p', ds'⟩⟩, qa', qc', ua', uc', pa', pc', da', dc'⟩ := u
        dsimp only at c0 c1 c2 c3 c4 c5 c6 c7 c8 c9 c10
        go_wp2_with fail
        refine region_text [([0, 1, 2, 3, 4, 5, 6, 7, 8, 9, 10], false)] mixed (by kernel_rfl) ?_
        simp only [wpSegs, List.map_cons, List.map_nil, List.getD_cons_succ, List.getD_cons_zero]
        go_wp2_with fail
        refine (ahead36_any ⟨⟨((r, i), s), ps, uu, t1, ⟨k, n, x, p, ds⟩⟩, qa, qc, ua, uc, pa, pc, da, dc⟩ ⟨⟨((r', i'), s'), ps', uu', t', ⟨k', n', x', p', ds'⟩⟩, qa', qc', ua', uc', pa', pc', da', dc'⟩ _).mono ?_
        rintro e w5 ⟨rfl, hb⟩
        have D5 := Lib.hid (below2 DW.out hb DW.out.size)
        have W5 := Lib.hid (W4.out.below D5.out)
        clear hb c0 c1 c2 c3 c4 c5 c6 c7 c8 c9 c10 hlb d0 e0 z0 ez
        try dsimp only at Hbad
        try dsimp only
        obtain ⟨bb, hbb⟩ : ∃ bb, bb = ltCb ⟨((r, i), s), ps, uu, t1, ⟨k, n, x, p, ds⟩⟩ ⟨((r', i'), s'), ps', uu', t', ⟨k', n', x', p', ds'⟩⟩ := ⟨_, rfl⟩
        rw [← hbb]
        replace Hbad := Lib.hid (Hbad.out.trans hbb.symm)
        clear hbb
        cases bb
        case false =>
          have PN := Lib.hid (P.out.ok (F := F) (u := ⟨⟨((r, i), s), ps, uu, t1, ⟨k, n, x, p, ds⟩⟩, qa, qc, ua, uc, pa, pc, da, dc⟩) Hv1.out Hz.out Hbad.out)
          go_wp2_with fail
          refine And.intro (by kernel_rfl) ?_
          go_wp2_with fail
          go_roundw
          case rel => exact ⟨q + 1, putC S ⟨⟨((r, i), s), ps, uu, t1, ⟨k, n, x, p, ds⟩⟩, qa, qc, ua, uc, pa, pc, da, dc⟩, la', lc', fa, fc, Fl, ga, gc, R, by omega, by go_num, rfl, rfl, Lib.hid (by rw [Htk.out]; exact PN.out), W5⟩
          case measure => simp [intOf]; omega
        case true =>
          have PN := Lib.hid (P.out.bad (F := F) (u := ⟨⟨((r, i), s), ps, uu, t1, ⟨k, n, x, p, ds⟩⟩, qa, qc, ua, uc, pa, pc, da, dc⟩) Hv1.out Hz.out Hbad.out)
          go_wp2_with fail
          refine And.intro (by kernel_rfl) ?_
          go_wp2_with (at_builtin; go_must (refine wpList_appFl rfl _ _ rfl (wa.heap.size + 1) fa fc Fl rfl ?o1 (some ⟨w5.heap.size, 0, none⟩) 1 [((q : Int), 16)] rfl (flv_one (heap_new _ _)) ?n1 ?b1 ?_))
          case o1 => exact W5.out.fl.below ((Below.refl _ _).alloc (Nat.le_refl _) _)
          case n1 => have := hlens.out.1; simp; omega
          case b1 => have := heap_lt W5.out.gr.blk; simp; omega
          intro v5 a5 c5 w6 hv ho hb5 hc5 hn5
          have W6 := Lib.hid ((W5.out.below ((Below.refl _ _).alloc (Nat.le_refl _) _)).appF ho hc5 (fun kq hk => (hn5 kq hk).imp id (fun h => by simp; omega)))
          have Hv5 := Lib.hid hv
          clear hv ho hb5 hc5 hn5
          go_wp2_with fail
          go_roundw
          case rel => exact ⟨q + 1, putC S ⟨⟨((r, i), s), ps, uu, t1, ⟨k, n, x, p, ds⟩⟩, qa, qc, ua, uc, pa, pc, da, dc⟩, la', lc', a5, c5, v5, ga, gc, R, by omega, by go_num, rfl, rfl, Lib.hid (by rw [Htk.out, Hv5.out]; exact PN.out), W6⟩
          case measure => simp [intOf]; omega
    · go_wp2_with fail
      refine bodyPost_ret (v := .tuple #[.pointer (some ⟨wa.heap.size, 0, none⟩), .slice fa Fl.length fc, .slice ga R.length gc]) (by simp [results, Tryz.results41, go_sem]; try rfl) rfl ?_
      have h9 := P.out
      rw [List.take_of_length_le (by simp [cms]; omega)] at h9
      exact ⟨wa.heap.size, S, la, lc, fa, fc, Fl, ga, gc, R, _, rfl, h9, W.out⟩
end Go.Proofs.YtaandcblndldmaaGreat

/- AudN -/
namespace Go.Proofs.YtaandcblndldmaaGreat
open Go.RowKit
set_option linter.unusedVariables false
set_option linter.unusedSimpArgs false

def RChkTo (w : World) (v : Sw) (e : Ending) (w' : World) : Prop :=
  ∃ (a : Option Addr) (c : Nat) (q : Bool) (L : List Fw), e = .returned (.slice a L.length c) ∧ (q = true ↔ BaseP v.b.b) ∧ L = headL (whoB v) q ++ (if q = true then flw (auF v.b.b.f (cms v.l)).fl else []) ∧ FlV w' a c L ∧ Below w.heap.size w w'
theorem WkP.lens' {v : Sw} {F : List Dt} {z : Value} {S : List Cw} {Fl : List Fw} {R : List Cw} (h : WkP v (auF F (cms v.l)) z S Fl R) : Fl.length ≤ v.l.length ∧ R.length ≤ v.l.length := by
  have h' : WkP v (auF F ((cms v.l).take v.l.length)) z S Fl R := by rwa [List.take_of_length_le (by simp [cms])]
  exact h'.lens
set_option maxRecDepth 100000 in
set_option maxHeartbeats 16000000 in
theorem check36_any (v : Sw) (m : Nat) (w : World) (h : SwAt w m v) (hN : SwN v) (hfew : v.l.length ≤ 20) : Calls Tryz.prog 12 #[.agg (swcells v)] w (RChkTo w v) := by
  obtain ⟨kk, ip, ia, ic, incs, ⟨⟨num, F, tips, t, tr⟩, fa0, fc0, ta, tc, ra, rc⟩, la0, lc0, l⟩ := v
  have H := Lib.hid h
  have HN := Lib.hid hN
  dsimp only at hfew
  have n2 : F.length ≤ 1100000 := hN.f
  have n3 : tips.length ≤ 1100000 := hN.tips
  have B0 : Hid (BoxE 35 w (w.alloc (.cells (sncells kk ip ia incs.length ic num fa0 F.length fc0 ta tips.length tc t ra tr.length rc la0 l.length lc0) 35)) (sncells kk ip ia incs.length ic num fa0 F.length fc0 ta tips.length tc t ra tr.length rc la0 l.length lc0)) := Lib.hid ⟨heap_new _ _, (Below.refl _ _).alloc (Nat.le_refl _) _⟩
  clear h hN
  simp only [swcells]
  go_enter Tryz.func12, Tryz.ntmps12
  go_upto_region 1 with (fail)
  generalize (w.alloc (.cells (sncells kk ip ia incs.length ic num fa0 F.length fc0 ta tips.length tc t ra tr.length rc la0 l.length lc0) 35)) = wa at B0 ⊢
  have d0 := cells_at B0.out.blk
  simp only [sncells] at d0
  have z0 := heap_lt B0.out.blk
  go_wp2_with fail
  refine (who36_any ⟨kk, ip, ia, ic, incs, ⟨⟨num, F, tips, t, tr⟩, fa0, fc0, ta, tc, ra, rc⟩, la0, lc0, l⟩ m _ (H.out.below B0.out.bel) HN.out).mono ?_
  rintro e w1 ⟨rfl, hb⟩
  have B1 := Lib.hid (B0.out.step hb)
  clear hb d0 z0
  have d0 := cells_at B1.out.blk
  simp only [sncells] at d0
  have z0 := heap_lt B1.out.blk
  obtain ⟨ww, hww⟩ : ∃ ww, ww = whoB ⟨kk, ip, ia, ic, incs, ⟨⟨num, F, tips, t, tr⟩, fa0, fc0, ta, tc, ra, rc⟩, la0, lc0, l⟩ := ⟨_, rfl⟩
  rw [← hww]
  have Hww := Lib.hid hww
  clear hww
  cases ww
  case true =>
    go_wp2_with fail
    refine (rmayBase_any ⟨⟨num, F, tips, t, tr⟩, fa0, fc0, ta, tc, ra, rc⟩ m _ (H.out.b.below B1.out.bel) (by dsimp only; omega) (by dsimp only; omega) HN.out.tr).mono ?_
    rintro e w5 ⟨q, rfl, hq, hb⟩
    have HQ := Lib.hid hq
    have B5 := Lib.hid (B1.out.step hb)
    have HO5 : Hid (OwnFl w5 w.heap.size none 0 []) := Lib.hid ((OwnFl.nil w1 w.heap.size).below hb)
    clear hb hq d0 z0
    have d0 := cells_at B5.out.blk
    simp only [sncells] at d0
    have z0 := heap_lt B5.out.blk
    cases q
    case false =>
      go_wp2_with (at_builtin; go_must (refine wpList_appFl rfl _ _ rfl w.heap.size none 0 [] rfl ?o2 (some ⟨w5.heap.size, 0, none⟩) 1 [(-1, 4)] rfl (flv_one (heap_new _ _)) ?n2 ?b2 ?_))
      case o2 => exact HO5.out.below ((Below.refl _ _).alloc (Nat.le_refl _) _)
      case n2 => simp; try omega
      case b2 => have := B5.out.bel.size; simp; omega
      intro v2 a2 c2 w6 hv ho hb6 _ _
      have Hv2 := Lib.hid hv
      have HO2 := Lib.hid ho
      have BB2 := Lib.hid ((B5.out.bel.alloc B5.out.bel.size _).trans hb6)
      clear ho hb6 hv d0 z0
      go_wp2_with fail
      go_ret
      exact ⟨a2, c2, false, v2, rfl, HQ.out, by rw [Hv2.out, ← Hww.out]; rfl, HO2.out.sl, BB2.out⟩
    case true =>
      have HT := Lib.hid (show BaseP ⟨num, F, tips, t, tr⟩ by simpa using HQ.out)
      go_wp2_with fail
      refine (walk36_any ⟨kk, ip, ia, ic, incs, ⟨⟨num, F, tips, t, tr⟩, fa0, fc0, ta, tc, ra, rc⟩, la0, lc0, l⟩ m _ (H.out.below B5.out.bel) HN.out HT.out hfew).mono ?_
      rintro e w6 ⟨pg, S, la, lc, fa, fc, Fl, ga, gc, R, z, rfl, hP, hE⟩
      have B6 := Lib.hid (B5.out.step hE.bel)
      have HO6 := Lib.hid (HO5.out.below hE.bel)
      have HFl := Lib.hid hE.fl.sl
      have HP := Lib.hid hP.fl
      have hFl : Fl.length ≤ 20 := by have := (hP.lens' ).1; dsimp only at this; omega
      clear hP hE d0 z0
      go_wp2_with (at_builtin; go_must (refine wpList_appFl rfl _ _ rfl w.heap.size none 0 [] rfl ?o2 fa fc Fl rfl HFl.out ?n2 ?b2 ?_))
      case o2 => exact HO6.out
      case n2 => simp; try omega
      case b2 => exact B6.out.bel.size
      intro v2 a2 c2 w7 hv ho hb6 _ _
      have Hv2 := Lib.hid hv
      have HO2 := Lib.hid ho
      have BB2 := Lib.hid (B6.out.bel.trans hb6)
      clear ho hb6 hv
      go_wp2_with fail
      go_ret
      exact ⟨a2, c2, true, v2, rfl, ⟨fun _ => HT.out, fun _ => rfl⟩, by rw [Hv2.out, ← Hww.out, HP.out]; rfl, HO2.out.sl, BB2.out⟩
  case false =>
    go_wp2_with (at_builtin; go_must (refine wpList_appFl rfl _ _ rfl w.heap.size none 0 [] rfl (OwnFl.nil _ _) (some ⟨w1.heap.size, 0, none⟩) 1 [(-1, 2)] rfl (flv_one (heap_new _ _)) ?n1 ?b1 ?_))
    case n1 => simp
    case b1 => have := B1.out.bel.size; simp; omega
    intro v1 a1 c1 w4 hv ho hb6 hc4 _
    have hv1 : v1 = [(-1, 2)] := hv
    subst hv1
    have HO1 := Lib.hid ho
    have HK4 := Lib.hid (heap_chg ((((Below.refl w1.heap.size w1).alloc (Nat.le_refl _) (.cells #[.int .i64 (-1), .int .i64 2] 77)).block _ z0).trans B1.out.blk) hc4 (by simp [ob]))
    have B4 : Hid (BoxE 35 w w4 (sncells kk ip ia incs.length ic num fa0 F.length fc0 ta tips.length tc t ra tr.length rc la0 l.length lc0)) := Lib.hid ⟨HK4.out, (B1.out.bel.alloc B1.out.bel.size _).trans hb6⟩
    clear ho hb6 hv hc4 HK4 d0 z0
    have d0 := cells_at B4.out.blk
    simp only [sncells] at d0
    have z0 := heap_lt B4.out.blk
    go_wp2_with fail
    refine (rmayBase_any ⟨⟨num, F, tips, t, tr⟩, fa0, fc0, ta, tc, ra, rc⟩ m _ (H.out.b.below B4.out.bel) (by dsimp only; omega) (by dsimp only; omega) HN.out.tr).mono ?_
    rintro e w5 ⟨q, rfl, hq, hb⟩
    have HQ := Lib.hid hq
    have B5 := Lib.hid (B4.out.step hb)
    have HO5 : Hid (OwnFl w5 w.heap.size a1 c1 [(-1, 2)]) := Lib.hid (HO1.out.below hb)
    clear hb hq d0 z0
    have d0 := cells_at B5.out.blk
    simp only [sncells] at d0
    have z0 := heap_lt B5.out.blk
    cases q
    case false =>
      go_wp2_with (at_builtin; go_must (refine wpList_appFl rfl _ _ rfl w.heap.size a1 c1 [(-1, 2)] rfl ?o2 (some ⟨w5.heap.size, 0, none⟩) 1 [(-1, 4)] rfl (flv_one (heap_new _ _)) ?n2 ?b2 ?_))
      case o2 => exact HO5.out.below ((Below.refl _ _).alloc (Nat.le_refl _) _)
      case n2 => simp; try omega
      case b2 => have := B5.out.bel.size; simp; omega
      intro v2 a2 c2 w6 hv ho hb6 _ _
      have Hv2 := Lib.hid hv
      have HO2 := Lib.hid ho
      have BB2 := Lib.hid ((B5.out.bel.alloc B5.out.bel.size _).trans hb6)
      clear ho hb6 hv d0 z0
      go_wp2_with fail
      go_ret
      exact ⟨a2, c2, false, v2, rfl, HQ.out, by rw [Hv2.out, ← Hww.out]; rfl, HO2.out.sl, BB2.out⟩
    case true =>
      have HT := Lib.hid (show BaseP ⟨num, F, tips, t, tr⟩ by simpa using HQ.out)
      go_wp2_with fail
      refine (walk36_any ⟨kk, ip, ia, ic, incs, ⟨⟨num, F, tips, t, tr⟩, fa0, fc0, ta, tc, ra, rc⟩, la0, lc0, l⟩ m _ (H.out.below B5.out.bel) HN.out HT.out hfew).mono ?_
      rintro e w6 ⟨pg, S, la, lc, fa, fc, Fl, ga, gc, R, z, rfl, hP, hE⟩
      have B6 := Lib.hid (B5.out.step hE.bel)
      have HO6 := Lib.hid (HO5.out.below hE.bel)
      have HFl := Lib.hid hE.fl.sl
      have HP := Lib.hid hP.fl
      have hFl : Fl.length ≤ 20 := by have := (hP.lens' ).1; dsimp only at this; omega
      clear hP hE d0 z0
      go_wp2_with (at_builtin; go_must (refine wpList_appFl rfl _ _ rfl w.heap.size a1 c1 [(-1, 2)] rfl ?o2 fa fc Fl rfl HFl.out ?n2 ?b2 ?_))
      case o2 => exact HO6.out
      case n2 => simp; try omega
      case b2 => exact B6.out.bel.size
      intro v2 a2 c2 w7 hv ho hb6 _ _
      have Hv2 := Lib.hid hv
      have HO2 := Lib.hid ho
      have BB2 := Lib.hid (B6.out.bel.trans hb6)
      clear ho hb6 hv
      go_wp2_with fail
      go_ret
      exact ⟨a2, c2, true, v2, rfl, ⟨fun _ => HT.out, fun _ => rfl⟩, by rw [Hv2.out, ← Hww.out, HP.out]; rfl, HO2.out.sl, BB2.out⟩
end Go.Proofs.YtaandcblndldmaaGreat

/- AudO -/
namespace Go.Proofs.YtaandcblndldmaaGreat
open Go.RowKit
set_option linter.unusedVariables false
set_option linter.unusedSimpArgs false

/-- what the document saves: as it lies, but for the graph's commits -/
def RSalvTo (w : World) (v : Sw) (m : Nat) (e : Ending) (w' : World) : Prop :=
  (∃ code : Int, e = .returned (.tuple #[.agg zero9, .slice none 0 0, .int .i64 code]) ∧ ((whoB v = false ∧ code = 2) ∨ (whoB v = true ∧ ¬ BaseP v.b.b ∧ code = 4)) ∧ Below w.heap.size w w') ∨
  (whoB v = true ∧ BaseP v.b.b ∧ ∃ (la : Option Addr) (lc : Nat) (S : List Cw) (ga : Option Addr) (gc : Nat) (R : List Cw), e = .returned (.tuple #[.agg (swcells ⟨v.k, v.ip, v.ia, v.ic, v.incs, v.b, la, lc, S⟩), .slice ga (List.length R) gc, .int .i64 0]) ∧
    (cms S).Perm (auF v.b.b.f (cms v.l)).L ∧ SortedC (cms S) ∧ (cms R = (auF v.b.b.f (cms v.l)).gone.filterMap fun k => (cms v.l)[k]?) ∧ Cms w' la lc S ∧ Cms w' ga gc R ∧ (∀ u ∈ S, u ∈ v.l) ∧ (∀ u ∈ R, u ∈ v.l) ∧ Below w.heap.size w w')
theorem held_2 {w w' : World} {q r : Nat} {C C' : Array Value} {t t' : TypeId} {fr fr' : Nat × Nat} (h : w.heap[q]? = some (.cells C t fr)) (h' : w'.heap[q]? = some (.cells C t fr)) (g : w.heap[r]? = some (.cells C' t' fr')) (g' : w'.heap[r]? = some (.cells C' t' fr')) : Held (fun k => k = q ∨ k = r) w w' := by
  refine .inr fun k o hk ho => ?_
  rcases hk with rfl | rfl
  · refine ⟨fun at_ u e => ?_, (h'.trans h.symm).trans ho⟩
    rw [h] at ho; rw [e] at ho; exact absurd (Option.some.inj ho) (by simp)
  · refine ⟨fun at_ u e => ?_, (g'.trans g.symm).trans ho⟩
    rw [g] at ho; rw [e] at ho; exact absurd (Option.some.inj ho) (by simp)
set_option maxRecDepth 100000 in
set_option maxHeartbeats 16000000 in
theorem salvage36_any (v : Sw) (m : Nat) (w : World) (h : SwAt w m v) (hN : SwN v) (hfew : v.l.length ≤ 20) : Calls Tryz.prog 9 #[.agg (swcells v)] w (RSalvTo w v m) := by
  have H := Lib.hid h
  have HN := Lib.hid hN
  have E0 : Hid (((w.alloc (.cells (swcells v) 35)).alloc (.cells zero9 35)).heap[w.heap.size]? = some (.cells (swcells v) 35 (0, 0)) ∧ ((w.alloc (.cells (swcells v) 35)).alloc (.cells zero9 35)).heap[w.heap.size + 1]? = some (.cells zero9 35 (0, 0)) ∧ Below w.heap.size w ((w.alloc (.cells (swcells v) 35)).alloc (.cells zero9 35))) :=
    Lib.hid ⟨(heap_old _ _ (by simp)).trans (heap_new _ _), heap_new2 _ _ _, ((Below.refl _ _).alloc (Nat.le_refl _) _).alloc (by simp) _⟩
  clear h hN
  go_enter Tryz.func9, Tryz.ntmps9
  go_upto_region 1 with (fail)
  generalize ((w.alloc (.cells (swcells v) 35)).alloc (.cells zero9 35)) = wa at E0 ⊢
  have X0 := Lib.hid E0.out.1
  have Y0 := Lib.hid E0.out.2.1
  have B0 := Lib.hid E0.out.2.2
  clear E0
  have d0 := cells_at X0.out
  have z0 := heap_lt X0.out
  simp only [swcells, sncells] at d0
  go_wp2_with fail
  refine (who36_any v m _ (H.out.below B0.out) HN.out).mono ?_
  rintro e w1 ⟨rfl, hb⟩
  have X1 := Lib.hid ((hb.block _ (heap_lt X0.out)).trans X0.out)
  have Y1 := Lib.hid ((hb.block _ (heap_lt Y0.out)).trans Y0.out)
  have B1 := Lib.hid (below2 B0.out hb B0.out.size)
  clear hb d0 z0
  have d0 := cells_at X1.out
  have z0 := heap_lt X1.out
  simp only [swcells, sncells] at d0
  cases hw : whoB v
  case false =>
    have Hw := Lib.hid hw
    clear hw
    have d1 := cells_at Y1.out
    have f1 := free_at Y1.out
    have z1 := heap_lt Y1.out
    have hS9 := Lib.hid (set9 Y1.out rfl (.int .u8 0) (.int .u32 0) (.slice none 0 0) (.int .u64 0) (.slice none 0 0) (.slice none 0 0) (.int .u64 0) (.slice none 0 0) (.slice none 0 0))
    go_wp2_with fail
    have h9 := hS9.out
    clear hS9
    generalize (((((((((w1.setCell ⟨w.heap.size + 1, 0, none⟩ (.int .u8 0)).setCell ⟨w.heap.size + 1, 1, none⟩ (.int .u32 0)).setCell ⟨w.heap.size + 1, 2, none⟩ (.slice none 0 0)).setCell ⟨w.heap.size + 1, 3, none⟩ (.int .u64 0)).setCell ⟨w.heap.size + 1, 4, none⟩ (.slice none 0 0)).setCell ⟨w.heap.size + 1, 5, none⟩ (.slice none 0 0)).setCell ⟨w.heap.size + 1, 6, none⟩ (.int .u64 0)).setCell ⟨w.heap.size + 1, 7, none⟩ (.slice none 0 0)).setCell ⟨w.heap.size + 1, 8, none⟩ (.slice none 0 0)) = w9 at h9 ⊢
    obtain ⟨h9, h9c⟩ := h9
    have d2 := cells_at h9
    exact bodyPost_ret (v := .tuple #[.agg zero9, .slice none 0 0, .int .i64 2]) (by simp [results, Tryz.results9, go_sem, d2]; try rfl) rfl (.inl ⟨2, rfl, .inl ⟨Hw.out, rfl⟩, B1.out.trans (h9c.below B1.out.size (by simp))⟩)
  case true =>
    have Hw := Lib.hid hw
    clear hw
    go_wp2_with fail
    refine (rmayBase_any v.b m _ (H.out.b.below B1.out) HN.out.f HN.out.tips HN.out.tr).mono ?_
    rintro e w2 ⟨q, rfl, hq, hb⟩
    have X2 := Lib.hid ((hb.block _ (heap_lt X1.out)).trans X1.out)
    have Y2 := Lib.hid ((hb.block _ (heap_lt Y1.out)).trans Y1.out)
    have B2 := Lib.hid (below2 B1.out hb B1.out.size)
    have HQ := Lib.hid hq
    clear hb hq d0 z0
    have d0 := cells_at X2.out
    have z0 := heap_lt X2.out
    simp only [swcells, sncells] at d0
    cases q
    case false =>
      have HT := Lib.hid (show ¬ BaseP v.b.b by simpa using HQ.out)
      have d1 := cells_at Y2.out
      have f1 := free_at Y2.out
      have z1 := heap_lt Y2.out
      have hS9 := Lib.hid (set9 Y2.out rfl (.int .u8 0) (.int .u32 0) (.slice none 0 0) (.int .u64 0) (.slice none 0 0) (.slice none 0 0) (.int .u64 0) (.slice none 0 0) (.slice none 0 0))
      go_wp2_with fail
      have h9 := hS9.out
      clear hS9
      generalize (((((((((w2.setCell ⟨w.heap.size + 1, 0, none⟩ (.int .u8 0)).setCell ⟨w.heap.size + 1, 1, none⟩ (.int .u32 0)).setCell ⟨w.heap.size + 1, 2, none⟩ (.slice none 0 0)).setCell ⟨w.heap.size + 1, 3, none⟩ (.int .u64 0)).setCell ⟨w.heap.size + 1, 4, none⟩ (.slice none 0 0)).setCell ⟨w.heap.size + 1, 5, none⟩ (.slice none 0 0)).setCell ⟨w.heap.size + 1, 6, none⟩ (.int .u64 0)).setCell ⟨w.heap.size + 1, 7, none⟩ (.slice none 0 0)).setCell ⟨w.heap.size + 1, 8, none⟩ (.slice none 0 0)) = w9 at h9 ⊢
      obtain ⟨h9, h9c⟩ := h9
      have d2 := cells_at h9
      exact bodyPost_ret (v := .tuple #[.agg zero9, .slice none 0 0, .int .i64 4]) (by simp [results, Tryz.results9, go_sem, d2]; try rfl) rfl (.inl ⟨4, rfl, .inr ⟨Hw.out, HT.out, rfl⟩, B2.out.trans (h9c.below B2.out.size (by simp))⟩)
    case true =>
      have HT := Lib.hid (show BaseP v.b.b by simpa using HQ.out)
      go_wp2_with fail
      refine (walk36_any v m _ (H.out.below B2.out) HN.out HT.out hfew).mono ?_
      rintro e w3 ⟨pg, S, la, lc, fa, fc, Fl, ga, gc, R, z, rfl, hP, hE⟩
      have hb := hE.bel
      have X3 := Lib.hid ((hb.block _ (heap_lt X2.out)).trans X2.out)
      have Y3 := Lib.hid ((hb.block _ (heap_lt Y2.out)).trans Y2.out)
      have B3 := Lib.hid (below2 B2.out hb B2.out.size)
      have HP := Lib.hid hP
      have HE := Lib.hid hE
      have hpg : w.heap.size + 1 < pg := by have := hE.lo; have := heap_lt Y2.out; omega
      clear hb hP hE d0 z0
      have d0 := cells_at X3.out
      have z0 := heap_lt X3.out
      simp only [swcells, sncells] at d0
      have g0 := cells_at HE.out.gr.blk
      simp only [rgcells] at g0
      have gz := heap_lt HE.out.gr.blk
      have d1 := cells_at Y3.out
      have f1 := free_at Y3.out
      have z1 := heap_lt Y3.out
      have hS9 := Lib.hid (set9 Y3.out rfl (.int .u8 v.k) (.int .u32 v.ip) (.slice v.ia v.incs.length v.ic) (.int .u64 v.b.b.num) (.slice v.b.fa v.b.b.f.length v.b.fc) (.slice v.b.ta v.b.b.tips.length v.b.tc) (.int .u64 v.b.b.t) (.slice v.b.ra v.b.b.tr.length v.b.rc) (.slice la S.length lc))
      go_wp2_with fail
      refine region_tree_at (fun k => k = w.heap.size ∨ k = pg) (sgOf [([0, 1, 2, 3, 4, 5, 6, 7, 8, 9, 10, 11], false), ([12], true), ([13, 14], false)]) mixed (by kernel_rfl) ?_
      simp only [sgOf, wpSgB, List.map_cons, List.map_nil, List.getD_cons_succ, List.getD_cons_zero]
      go_wp2_with fail
      have h9 := hS9.out
      clear hS9
      generalize (((((((((w3.setCell ⟨w.heap.size + 1, 0, none⟩ (.int .u8 v.k)).setCell ⟨w.heap.size + 1, 1, none⟩ (.int .u32 v.ip)).setCell ⟨w.heap.size + 1, 2, none⟩ (.slice v.ia v.incs.length v.ic)).setCell ⟨w.heap.size + 1, 3, none⟩ (.int .u64 v.b.b.num)).setCell ⟨w.heap.size + 1, 4, none⟩ (.slice v.b.fa v.b.b.f.length v.b.fc)).setCell ⟨w.heap.size + 1, 5, none⟩ (.slice v.b.ta v.b.b.tips.length v.b.tc)).setCell ⟨w.heap.size + 1, 6, none⟩ (.int .u64 v.b.b.t)).setCell ⟨w.heap.size + 1, 7, none⟩ (.slice v.b.ra v.b.b.tr.length v.b.rc)).setCell ⟨w.heap.size + 1, 8, none⟩ (.slice la S.length lc)) = w9 at h9 ⊢
      obtain ⟨h9, h9c⟩ := h9
      have hk1 := heap_chg X3.out h9c (by simp)
      have hk2 := heap_chg HE.out.gr.blk h9c (by simp; omega)
      have hHe : Held (fun k => k = w.heap.size ∨ k = pg) w3.drew w9.drew := held_2 (show w3.drew.heap[w.heap.size]? = _ from X3.out) (show w9.drew.heap[w.heap.size]? = _ from hk1) (show w3.drew.heap[pg]? = _ from HE.out.gr.blk) (show w9.drew.heap[pg]? = _ from hk2)
      have HBB := Lib.hid (show Below w.heap.size w w9.drew from (B3.out.trans (h9c.below B3.out.size (by simp))).drew)
      refine And.intro hHe ?_
      clear hHe d1 f1 z1 hk1 hk2 d0 g0
      go_wp2_with fail
      refine And.intro (And.intro (by kernel_rfl) (reads_of ?rds)) ?_
      case rds => exact ⟨trivial, .inl rfl, trivial, .inl rfl, trivial, .inl rfl, trivial, trivial, trivial, .inr rfl, trivial, trivial, trivial, trivial, trivial, trivial⟩
      go_wp2_with fail
      have d2 := cells_at (show w9.drew.heap[w.heap.size + 1]? = _ from h9)
      have hrS : Cms w9.drew la lc S := by
        have h6 : Chg [w.heap.size + 1] w3 w9.drew := h9c.trans (Chg.of_below ((Below.refl w9.heap.size w9).drew)) (fun x hx _ => hx)
        exact ⟨(OwnC.chg HE.out.gr.row h6 (fun k hk => by have := (owns_lt HE.out.gr.row k hk).1; simp; omega)).cms, fun u hu => (H.out.cms.each u (HE.out.sub u hu)).below HBB.out⟩
      have hrR : Cms w9.drew ga gc R := by
        have h6 : Chg [w.heap.size + 1] w3 w9.drew := h9c.trans (Chg.of_below ((Below.refl w9.heap.size w9).drew)) (fun x hx _ => hx)
        exact ⟨(OwnC.chg HE.out.go h6 (fun k hk => by have := (owns_lt HE.out.go k hk).1; simp; omega)).cms, fun u hu => (H.out.cms.each u (HE.out.each u hu)).below HBB.out⟩
      exact bodyPost_ret (v := .tuple #[.agg (swcells ⟨v.k, v.ip, v.ia, v.ic, v.incs, v.b, la, lc, S⟩), .slice ga R.length gc, .int .i64 0]) (by simp [results, Tryz.results9, go_sem, d2]; try rfl) rfl (.inr ⟨Hw.out, HT.out, la, lc, S, ga, gc, R, rfl, HP.out.perm, HE.out.gr.sorted, HP.out.gone, hrS, hrR, HE.out.sub, HE.out.each, HBB.out⟩)
end Go.Proofs.YtaandcblndldmaaGreat
