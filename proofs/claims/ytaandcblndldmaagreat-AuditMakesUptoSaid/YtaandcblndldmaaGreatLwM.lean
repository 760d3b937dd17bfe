/- varvelaw36.AuditMakes: the walk. -/
import Derived.Test.YtaandcblndldmaaGreatStM
import Derived.Test.YtaandcblndldmaaGreatLwV
import Derived.Test.YtaandcblndldmaaGreatLwL
namespace Go.Proofs.YtaandcblndldmaaGreat
open Go.RowKit
set_option linter.unusedVariables false
set_option linter.unusedSimpArgs false

set_option maxRecDepth 100000 in
set_option maxHeartbeats 16000000 in
theorem auditMakes_walk (v : Sw) (m : Nat) (w : World) (h : SwAt w m v) (hN : SwN v) : Calls Tryz.prog 3 #[.agg (swcells v)] w (fun e w' => e = .returned (.bool true) ∧ Below w.heap.size w w') := by
  have H := Lib.hid h
  have HN := Lib.hid hN
  have m0 := h.cms.sl.2.1
  have m1 := h.cms.sl.2.2.1
  unfold maxLen at m1
  have B0 : Hid (BoxE 35 w (w.alloc (.cells (swcells v) 35)) (swcells v)) := Lib.hid ⟨heap_new _ _, (Below.refl _ _).alloc (Nat.le_refl _) _⟩
  clear h hN
  go_enter Tryz.func3, Tryz.ntmps3
  go_upto_region 1 with (fail)
  generalize (w.alloc (.cells (swcells v) 35)) = wa at B0 ⊢
  have d0 := cells_at B0.out.blk
  simp only [swcells, sncells] at d0
  have z0 := heap_lt B0.out.blk
  go_wp2_with fail
  refine (great36F_any v m _ (H.out.below B0.out.bel)).mono ?_
  rintro e w1 ⟨z, rfl, hz, hb⟩
  have B1 := Lib.hid (B0.out.step hb)
  have Hz := Lib.hid hz
  clear hb hz d0 z0
  have d0 := cells_at B1.out.blk
  simp only [swcells, sncells] at d0
  have z0 := heap_lt B1.out.blk
  cases z with
  | true =>
    go_wp2_with fail
    refine (known36_any _).mono ?_
    rintro e w2 ⟨rfl, hb⟩
    have B2 := Lib.hid (B1.out.step hb).bel
    clear hb
    go_wp2_with fail
    go_ret
    exact ⟨rfl, B2.out⟩
  | false =>
    have hfew := Hz.out rfl
    go_wp2_with fail
    refine (salvA_any v m _ (H.out.below B1.out.bel) HN.out hfew).mono ?_
    rintro e w2 ⟨x, ga, gc, R, code, rfl, hA, hox, hx, hxN, hxf, hR, hRe, hRf, hb⟩
    have B2 := Lib.hid (B1.out.step hb)
    have HA := Lib.hid hA
    have Hox := Lib.hid hox
    have Hx := Lib.hid hx
    have HxN := Lib.hid hxN
    have HR := Lib.hid hR
    have HRe := Lib.hid hRe
    have HRb : Hid (∀ u ∈ R, CwB u) := Lib.hid (by
      intro u hu
      rcases hA.2 with ⟨_, _, h⟩ | ⟨_, hS, _⟩
      · rw [h] at hu; cases hu
      · have h1 : u.c ∈ cms R := List.mem_map.2 ⟨u, hu, rfl⟩
        rw [hS.gone] at h1
        obtain ⟨k, _, hk⟩ := List.mem_filterMap.1 h1
        obtain ⟨u', hu', e⟩ := List.mem_map.1 (List.mem_of_getElem? hk)
        have h2 := HN.out.each u' hu'
        unfold CwB at h2 ⊢
        rwa [e] at h2)
    have hB1 := hb.size
    clear hb hA hox hx hxN hR hRe d0 z0
    go_upto_region 4 with (fail)
    have hAl : Below w2.heap.size w2 (w2.alloc (.cells (swcells x) 35)) := (Below.refl _ _).alloc (Nat.le_refl _) _
    have B3 := Lib.hid (B2.out.step hAl)
    have X3 : Hid ((w2.alloc (.cells (swcells x) 35)).heap[w2.heap.size]? = some (.cells (swcells x) 35 (0, 0))) := Lib.hid (heap_new _ _)
    have G3 := Lib.hid hAl
    clear hAl
    generalize (w2.alloc (.cells (swcells x) 35)) = w3 at B3 X3 G3 ⊢
    have d0 := cells_at B3.out.blk
    simp only [swcells, sncells] at d0
    have z0 := heap_lt B3.out.blk
    go_wp2_with fail
    refine (salvB_any v m _ (H.out.below B3.out.bel) HN.out hfew).mono ?_
    rintro e w4 ⟨y, ga4, gc4, Q, code4, rfl, hBv, hy, hQ, hb⟩
    obtain ⟨rfl, hsw, hcm⟩ := HA.out.same hBv
    have Hy := Lib.hid hy
    have HQ := Lib.hid hQ
    have Hsw := Lib.hid hsw
    have Hcm := Lib.hid hcm
    have B4 := Lib.hid (B3.out.step hb)
    have X4 := Lib.hid ((hb.block _ (heap_lt X3.out)).trans X3.out)
    have G4 := Lib.hid (below2 G3.out hb G3.out.size)
    clear hb hBv hy hQ hsw hcm d0 z0 B3 X3 G3
    go_upto_region 5 with (fail)
    have hAl : Below w4.heap.size w4 (w4.alloc (.cells (swcells y) 35)) := (Below.refl _ _).alloc (Nat.le_refl _) _
    have B5 := Lib.hid (B4.out.step hAl)
    have Y5 : Hid ((w4.alloc (.cells (swcells y) 35)).heap[w4.heap.size]? = some (.cells (swcells y) 35 (0, 0))) := Lib.hid (heap_new _ _)
    have X5 := Lib.hid ((hAl.block _ (heap_lt X4.out)).trans X4.out)
    have G5 := Lib.hid (below2 G4.out hAl G4.out.size)
    have K5 := Lib.hid hAl
    clear hAl X4 G4
    generalize (w4.alloc (.cells (swcells y) 35)) = w5 at B5 X5 Y5 G5 K5 ⊢
    have d0 := cells_at B5.out.blk
    simp only [swcells, sncells] at d0
    have z0 := heap_lt B5.out.blk
    have dx := cells_at X5.out
    simp only [swcells, sncells] at dx
    have zx := heap_lt X5.out
    have dy := cells_at Y5.out
    simp only [swcells, sncells] at dy
    have zy := heap_lt Y5.out
    have hdr : Below w5.heap.size w5 w5.drew := (Below.refl _ _).drew
    have B5d := Lib.hid (B5.out.step hdr)
    have X5d := Lib.hid ((hdr.block _ (heap_lt X5.out)).trans X5.out)
    have Y5d := Lib.hid ((hdr.block _ (heap_lt Y5.out)).trans Y5.out)
    have K5d := Lib.hid (below2 K5.out hdr K5.out.size)
    have G5d := Lib.hid (below2 G5.out hdr G5.out.size)
    go_wp2_with fail
    refine region_text [([0, 2], false), ([1], true), ([3, 4, 5, 6, 7, 8, 9, 10, 11, 12, 13, 14, 15, 16, 17, 18, 19, 20, 21, 22, 23, 24, 26], false), ([25], true), ([27, 28, 29, 30], false)] mixed (by kernel_rfl) ?_
    simp only [wpSegs, List.map_cons, List.map_nil, List.getD_cons_succ, List.getD_cons_zero]
    go_wp2_with fail
    refine (check_any v m _ (H.out.below B5d.out.bel) HN.out).mono ?_
    rintro e w6 ⟨fa, fc, q1, L1, rfl, hq1, hL1, ho, hb⟩
    have hAg := Agree.of_below hb
    have Hq1 := Lib.hid hq1
    have HL1 := Lib.hid hL1
    clear hq1 hL1
    have B6 := Lib.hid (B5d.out.step hb)
    have X6 := Lib.hid ((hb.block _ (heap_lt X5d.out)).trans X5d.out)
    have Y6 := Lib.hid ((hb.block _ (heap_lt Y5d.out)).trans Y5d.out)
    have K6 := Lib.hid (below2 K5d.out hb K5d.out.size)
    have G6 := Lib.hid (below2 G5d.out hb G5d.out.size)
    have HL6 := Lib.hid ho.sl
    clear ho hb hdr
    clear d0 z0 dx zx dy zy
    have d0 := cells_at B6.out.blk
    simp only [swcells, sncells] at d0
    have z0 := heap_lt B6.out.blk
    have dx := cells_at X6.out
    simp only [swcells, sncells] at dx
    have zx := heap_lt X6.out
    have dy := cells_at Y6.out
    simp only [swcells, sncells] at dy
    have zy := heap_lt Y6.out
    go_wp2_with fail
    try refine And.intro hAg ?_
    clear hAg
    try go_wp2_with fail
    refine (check36_any v m _ (H.out.below B6.out.bel) HN.out hfew).mono ?_
    rintro e w7 ⟨fb, fd, q2, L2, rfl, hq2, hL2, hf2, hb⟩
    obtain rfl := flaws_same Hq1.out hq2 HL1.out hL2
    have B7 := Lib.hid (B6.out.step hb)
    have X7 := Lib.hid ((hb.block _ (heap_lt X6.out)).trans X6.out)
    have Y7 := Lib.hid ((hb.block _ (heap_lt Y6.out)).trans Y6.out)
    have K7 := Lib.hid (below2 K6.out hb K6.out.size)
    have G7 := Lib.hid (below2 G6.out hb G6.out.size)
    have HL7 : Hid (FlV w7 fa fc L1) := Lib.hid (Sl.below HL6.out hb)
    have HM7 := Lib.hid hf2
    have hll : L1.length ≤ 1100000 := by
      rw [HL1.out, List.length_append]
      have h1 := headL_len (whoB v) q1
      have h2 := auF_flen v.b.b.f (cms v.l)
      have h3 : (cms v.l).length = v.l.length := by simp [cms]
      split
      · unfold flw; rw [List.length_map]; omega
      · simp; omega
    clear hb hq2 hL2 hf2 HL6 Hq1 HL1
    clear d0 z0 dx zx dy zy
    have d0 := cells_at B7.out.blk
    simp only [swcells, sncells] at d0
    have z0 := heap_lt B7.out.blk
    have dx := cells_at X7.out
    simp only [swcells, sncells] at dx
    have zx := heap_lt X7.out
    have dy := cells_at Y7.out
    simp only [swcells, sncells] at dy
    have zy := heap_lt Y7.out
    go_wp2_with fail
    refine (sameFl_any fa fb fc fd L1 L1 _ HL7.out HM7.out hll hll).mono ?_
    rintro e w8 ⟨rfl, hb⟩
    rw [decide_eq_true (rfl : L1 = L1)]
    have B8 := Lib.hid (B7.out.step hb)
    have X8 := Lib.hid ((hb.block _ (heap_lt X7.out)).trans X7.out)
    have Y8 := Lib.hid ((hb.block _ (heap_lt Y7.out)).trans Y7.out)
    have K8 := Lib.hid (below2 K7.out hb K7.out.size)
    have G8 := Lib.hid (below2 G7.out hb G7.out.size)
    clear hb hll HL7 HM7
    clear d0 z0 dx zx dy zy
    have d0 := cells_at B8.out.blk
    simp only [swcells, sncells] at d0
    have z0 := heap_lt B8.out.blk
    have dx := cells_at X8.out
    simp only [swcells, sncells] at dx
    have zx := heap_lt X8.out
    have dy := cells_at Y8.out
    simp only [swcells, sncells] at dy
    have zy := heap_lt Y8.out
    go_wp2_with fail
    refine (sameSnap_any x y 3 m _ (Hx.out.below G8.out) (Hy.out.below K8.out) Hsw.out HxN.out (by omega)).mono ?_
    rintro e w9 ⟨rfl, hb⟩
    have B9 := Lib.hid (B8.out.step hb)
    have X9 := Lib.hid ((hb.block _ (heap_lt X8.out)).trans X8.out)
    have Y9 := Lib.hid ((hb.block _ (heap_lt Y8.out)).trans Y8.out)
    have K9 := Lib.hid (below2 K8.out hb K8.out.size)
    have G9 := Lib.hid (below2 G8.out hb G8.out.size)
    clear hb
    clear d0 z0 dx zx dy zy
    have d0 := cells_at B9.out.blk
    simp only [swcells, sncells] at d0
    have z0 := heap_lt B9.out.blk
    have dx := cells_at X9.out
    simp only [swcells, sncells] at dx
    have zx := heap_lt X9.out
    have dy := cells_at Y9.out
    simp only [swcells, sncells] at dy
    have zy := heap_lt Y9.out
    go_wp2_with fail
    refine (sameAll11_any ga ga4 gc gc4 R Q _ ?rr (HQ.out.below K9.out) ?rb Hcm.out (by omega)).mono ?_
    case rr => exact ⟨HR.out.cms.below G9.out, fun u hu => ((HRe.out u hu).below G9.out).at_⟩
    case rb => exact HRb.out
    rintro e w10 ⟨rfl, hb⟩
    have hcc : (code != code) = false := by simp
    have B10 := Lib.hid (B9.out.step hb)
    have X10 := Lib.hid ((hb.block _ (heap_lt X9.out)).trans X9.out)
    have Y10 := Lib.hid ((hb.block _ (heap_lt Y9.out)).trans Y9.out)
    have K10 := Lib.hid (below2 K9.out hb K9.out.size)
    have G10 := Lib.hid (below2 G9.out hb G9.out.size)
    clear hb
    clear d0 z0 dx zx dy zy
    have d0 := cells_at B10.out.blk
    simp only [swcells, sncells] at d0
    have z0 := heap_lt B10.out.blk
    have dx := cells_at X10.out
    simp only [swcells, sncells] at dx
    have zx := heap_lt X10.out
    have dy := cells_at Y10.out
    simp only [swcells, sncells] at dy
    have zy := heap_lt Y10.out
    go_wp2_with fail
    refine (lost_any v m _ (H.out.below B10.out.bel) HN.out).mono ?_
    rintro e w11 ⟨la5, lc5, V, rfl, ho, hb, hl⟩
    have hAg := Agree.of_below hb
    have B11 := Lib.hid (B10.out.step hb)
    have X11 := Lib.hid ((hb.block _ (heap_lt X10.out)).trans X10.out)
    have Y11 := Lib.hid ((hb.block _ (heap_lt Y10.out)).trans Y10.out)
    have K11 := Lib.hid (below2 K10.out hb K10.out.size)
    have G11 := Lib.hid (below2 G10.out hb G10.out.size)
    have HV := Lib.hid ho.vec
    have Hl := Lib.hid hl
    clear ho hb hl
    clear d0 z0 dx zx dy zy
    have d0 := cells_at B11.out.blk
    simp only [swcells, sncells] at d0
    have z0 := heap_lt B11.out.blk
    have dx := cells_at X11.out
    simp only [swcells, sncells] at dx
    have zx := heap_lt X11.out
    have dy := cells_at Y11.out
    simp only [swcells, sncells] at dy
    have zy := heap_lt Y11.out
    go_wp2_with fail
    try refine And.intro hAg ?_
    clear hAg
    try go_wp2_with fail
    refine (lost36_any v m _ (H.out.below B11.out.bel) HN.out hfew).mono ?_
    rintro e w12 ⟨la6, lc6, U, rfl, ho, hb, hl⟩
    obtain rfl := losts_same H.out Hl.out hl
    have hVl : V.length ≤ 64 := by
      rcases Hl.out with ⟨_, h⟩ | ⟨_, _, vv, _, h⟩
      · rw [h]; decide
      · rw [h]
        exact lostF_len (fun c hc => by
          obtain ⟨u, hu, rfl⟩ := List.mem_map.1 hc
          exact (H.out.cms.each u hu).ok.vv)
    have B12 := Lib.hid (B11.out.step hb)
    have X12 := Lib.hid ((hb.block _ (heap_lt X11.out)).trans X11.out)
    have Y12 := Lib.hid ((hb.block _ (heap_lt Y11.out)).trans Y11.out)
    have K12 := Lib.hid (below2 K11.out hb K11.out.size)
    have G12 := Lib.hid (below2 G11.out hb G11.out.size)
    have HV2 := Lib.hid (HV.out.below hb)
    have HU := Lib.hid ho.vec
    clear ho hb hl Hl HV
    clear d0 z0 dx zx dy zy
    have d0 := cells_at B12.out.blk
    simp only [swcells, sncells] at d0
    have z0 := heap_lt B12.out.blk
    have dx := cells_at X12.out
    simp only [swcells, sncells] at dx
    have zx := heap_lt X12.out
    have dy := cells_at Y12.out
    simp only [swcells, sncells] at dy
    have zy := heap_lt Y12.out
    go_wp2_with fail
    refine (same_any la5 la6 lc5 lc6 V V _ HV2.out HU.out (by omega) (by omega)).mono ?_
    rintro e w13 ⟨rfl, hb⟩
    rw [decide_eq_true (rfl : V = V)]
    have B13 := Lib.hid (B12.out.step hb)
    have X13 := Lib.hid ((hb.block _ (heap_lt X12.out)).trans X12.out)
    have Y13 := Lib.hid ((hb.block _ (heap_lt Y12.out)).trans Y12.out)
    have K13 := Lib.hid (below2 K12.out hb K12.out.size)
    have G13 := Lib.hid (below2 G12.out hb G12.out.size)
    clear hb HV2 HU hVl
    clear d0 z0 dx zx dy zy
    have d0 := cells_at B13.out.blk
    simp only [swcells, sncells] at d0
    have z0 := heap_lt B13.out.blk
    have dx := cells_at X13.out
    simp only [swcells, sncells] at dx
    have zx := heap_lt X13.out
    have dy := cells_at Y13.out
    simp only [swcells, sncells] at dy
    have zy := heap_lt Y13.out
    go_wp2_with fail
    refine And.intro (by kernel_rfl) ?_
    have hxl : x.l.length ≤ 20 := hxf
    go_wp2_with (at_builtin; go_must (refine wpList_appC rfl _ _ rfl w1.heap.size ga gc R rfl ?o1 x.la x.lc x.l rfl ?s1 ?n1 ?b1 ?_))
    case o1 => exact HR.out.below G13.out
    case s1 => exact (Hx.out.below G13.out).cms.sl
    case n1 => omega
    case b1 => have := G13.out.size; omega
    intro V a14 c14 w14 hv ho hb hc hn
    have hw1 : w.heap.size < w1.heap.size := heap_lt B1.out.blk
    have B14 : Hid (BoxE 35 w w14 (swcells v)) := Lib.hid ⟨(hb.block _ hw1).trans B13.out.blk, B13.out.bel.trans (hb.mono (by omega))⟩
    have hno : NoRow w13 (ob ga) := fun k hk C1 t1 f1 hh => by
      obtain ⟨C2, f2, q2⟩ := ob_row (HR.out.below G13.out) k hk
      rw [q2] at hh
      injection hh with hh
      injection hh with _ hh _
      subst hh
      exact ⟨by decide, by decide⟩
    have hVe : ∀ u ∈ V, CwOwn w14 w1.heap.size u := fun u hu => by
      rw [hv, List.mem_append] at hu
      rcases hu with hu | hu
      · exact ((HRe.out u hu).below G13.out).chg hc hno
      · exact ((Hox.out.each u hu).below G13.out).chg hc hno
    have hVl : V.length ≤ 40 := by rw [hv, List.length_append]; omega
    have E14 : Hid (StM w13 w14 w1.heap.size a14 c14 V) := Lib.hid ⟨ho, fun u hu => ⟨_, (hVe u hu).vv⟩, fun u hu => ⟨_, (hVe u hu).pt⟩, hb, by have := G13.out.size; omega⟩
    have HVe := Lib.hid hVe
    clear hv ho hb hc hn hno hVe B13 X13 Y13 K13 G13
    have G14 : Hid (w.heap.size < w1.heap.size) := Lib.hid hw1
    go_wp2_with fail
    go_loopw [70] (fun j wx => ∃ z : Nat, z ≤ V.length ∧ j = .int .i64 z ∧ Hid (BoxE 35 w wx (swcells v)) ∧ Hid (StM w13 wx w1.heap.size a14 c14 V)) (fun j _ => V.length - (intOf j).toNat)
    case atStart => exact ⟨0, by omega, rfl, B14, E14⟩
    case round =>
      obtain ⟨z, hz, rfl, BB, G⟩ := hrel
      clear B14 E14
      by_cases hzl : z < V.length
      · obtain ⟨u, hu⟩ : ∃ u, V[z]? = some u := ⟨V[z], by simp [hzl]⟩
        obtain ⟨gg, hgg⟩ := G.out.row.ptr (by omega)
        subst hgg
        have hum := List.mem_of_getElem? hu
        obtain ⟨⟨⟨⟨r, i⟩, s⟩, ps, uu, t1, ⟨k, n, x9, p, ds⟩⟩, qa, qc, ua, uc, pa, pc, da, dc⟩ := u
        have c0 := OwnC.range G.out.row hu 0 _ rfl
        simp only [Nat.add_zero] at c0
        have c1 := OwnC.range G.out.row hu 1 _ rfl
        have c2 := OwnC.range G.out.row hu 2 _ rfl
        have c3 := OwnC.range G.out.row hu 3 _ rfl
        have c4 := OwnC.range G.out.row hu 4 _ rfl
        have c5 := OwnC.range G.out.row hu 5 _ rfl
        have c6 := OwnC.range G.out.row hu 6 _ rfl
        have c7 := OwnC.range G.out.row hu 7 _ rfl
        have c8 := OwnC.range G.out.row hu 8 _ rfl
        have c9 := OwnC.range G.out.row hu 9 _ rfl
        have c10 := OwnC.range G.out.row hu 10 _ rfl
        have q1 := (HVe.out _ hum).pt.strs.2.2.1
        have q2 := (HVe.out _ hum).vv.vec.2.2.1
        have q3 := (HVe.out _ hum).pt.strs.2.1
        have q4 := (HVe.out _ hum).vv.vec.2.1
        unfold maxLen at q1 q2
        dsimp only at c0 c1 c2 c3 c4 c5 c6 c7 c8 c9 c10 q1 q2 q3 q4
        have Hum := Lib.hid hum
        clear hu hum
        go_upto_region 10 with (fail)
        clear c0 c1 c2 c3 c4 c5 c6 c7 c8 c9 c10
        have hAl : Below wr.heap.size wr (wr.alloc (.cells (ccells r i s qa ps.length qc ua uu.length uc t1 k pa p.length pc n x9 da ds.length dc) 54)) := (Below.refl _ _).alloc (Nat.le_refl _) _
        have CB := Lib.hid (heap_new wr (.cells (ccells r i s qa ps.length qc ua uu.length uc t1 k pa p.length pc n x9 da ds.length dc) 54 (0, 0)))
        have BB2 := Lib.hid (BB.out.step hAl)
        have G2 := Lib.hid (G.out.below hAl)
        clear hAl
        generalize hwB : (wr.alloc (.cells (ccells r i s qa ps.length qc ua uu.length uc t1 k pa p.length pc n x9 da ds.length dc) 54)) = wB at CB BB2 G2 ⊢
        clear hwB
        generalize wr.heap.size = pb at CB ⊢
        have e0 := cells_at CB.out
        simp only [ccells] at e0
        have ez := heap_lt CB.out
        go_wp2_with fail
        clear e0 ez
        go_loopw [78] (fun j wx => ∃ y : Nat, y ≤ p.length ∧ j = .int .i64 y ∧ Hid (wx.heap[pb]? = some (.cells (ccells r i s qa ps.length qc ua uu.length uc t1 k pa p.length pc n x9 da ds.length dc) 54 (0, 0))) ∧ Hid (BoxE 35 w wx (swcells v)) ∧ Hid (StM w13 wx w1.heap.size (some ⟨gg, 0, none⟩) c14 V)) (fun j _ => p.length - (intOf j).toNat)
        case atStart => exact ⟨0, by omega, rfl, CB, BB2, G2⟩
        case round =>
          obtain ⟨y, hy, rfl, CB3, BB3, G3⟩ := hrel
          have e0 := cells_at CB3.out
          simp only [ccells] at e0
          have ez := heap_lt CB3.out
          by_cases hyl : y < p.length
          · obtain ⟨g, C, f, val, hpa, hg, hlow, hgl, hfz, hcl⟩ := (G3.out.pt _ Hum.out).at_ (j := y) (by dsimp only; omega) (by dsimp only; omega)
            dsimp only at hpa
            subst hpa
            have HS := Lib.hid (G3.out.put (off := y) (x := .string ⟨#[63]⟩) hg (by decide) hlow)
            have hCg : Chg [g] wr (wr.setCell ⟨g, y, none⟩ (.string ⟨#[63]⟩)) := (Chg.refl _ _).put _ _ (by simp)
            have HC9 := Lib.hid (heap_chg CB3.out hCg (fun hm => by
              rw [List.mem_singleton] at hm
              have h1 := CB3.out
              rw [hm, hg] at h1
              injection h1 with h1
              injection h1 with _ h1 _
              exact absurd h1 (by decide)))
            have HB9 : Hid (BoxE 35 w _ (swcells v)) := Lib.hid ⟨heap_chg BB3.out.blk hCg (by have := G14.out; simp; omega), BB3.out.bel.trans (hCg.below BB3.out.bel.size (by have := G14.out; simp; omega))⟩
            clear hCg hg
            go_wp2_with fail
            go_roundw
            case rel => exact ⟨y + 1, by omega, by go_num, HC9, HB9, HS⟩
            case measure => simp [intOf]; omega
          · go_wp2_with fail
            clear e0 ez
            go_loopw [90] (fun j wx => ∃ y : Nat, y ≤ uu.length ∧ j = .int .i64 y ∧ Hid (wx.heap[pb]? = some (.cells (ccells r i s qa ps.length qc ua uu.length uc t1 k pa p.length pc n x9 da ds.length dc) 54 (0, 0))) ∧ Hid (BoxE 35 w wx (swcells v)) ∧ Hid (StM w13 wx w1.heap.size (some ⟨gg, 0, none⟩) c14 V)) (fun j _ => uu.length - (intOf j).toNat)
            case atStart => exact ⟨0, by omega, rfl, CB3, BB3, G3⟩
            case round =>
              obtain ⟨y, hy, rfl, CB4, BB4, G4⟩ := hrel
              have e0 := cells_at CB4.out
              simp only [ccells] at e0
              have ez := heap_lt CB4.out
              by_cases hyl : y < uu.length
              · obtain ⟨g, C, f, val, hpa, hg, hlow, hgl, hfz, hcl⟩ := (G4.out.vv _ Hum.out).at_ (j := y * 3 + 2) (by dsimp only; omega) (by dsimp only; omega)
                dsimp only at hpa
                subst hpa
                have HS := Lib.hid (G4.out.put (off := y * 3 + 2) (x := .int .u64 99) hg (by decide) hlow)
                have hCg : Chg [g] wr (wr.setCell ⟨g, y * 3 + 2, none⟩ (.int .u64 99)) := (Chg.refl _ _).put _ _ (by simp)
                have HC9 := Lib.hid (heap_chg CB4.out hCg (fun hm => by
                  rw [List.mem_singleton] at hm
                  have h1 := CB4.out
                  rw [hm, hg] at h1
                  injection h1 with h1
                  injection h1 with _ h1 _
                  exact absurd h1 (by decide)))
                have HB9 : Hid (BoxE 35 w _ (swcells v)) := Lib.hid ⟨heap_chg BB4.out.blk hCg (by have := G14.out; simp; omega), BB4.out.bel.trans (hCg.below BB4.out.bel.size (by have := G14.out; simp; omega))⟩
                clear hCg hg
                go_wp2_with fail
                go_roundw
                case rel => exact ⟨y + 1, by omega, by go_num, HC9, HB9, HS⟩
                case measure => simp [intOf]; omega
              · go_wp2_with fail
                go_roundw
                case rel => exact ⟨z + 1, by omega, by go_num, BB4, G4⟩
                case measure => simp [intOf]; omega
      · have hzz : z = V.length := by omega
        have d0 := cells_at BB.out.blk
        simp only [swcells, sncells] at d0
        have z0 := heap_lt BB.out.blk
        go_wp2_with fail
        refine (salvA_any v m _ (H.out.below BB.out.bel) HN.out hfew).mono ?_
        rintro e w20 ⟨x2, ga2, gc2, R2, code2, rfl, hA2, _, hx2, hxN2, hxf2, _, _, _, hb⟩
        have B20 := Lib.hid (BB.out.step hb)
        have HA2 := Lib.hid hA2
        have Hx2 := Lib.hid hx2
        have HxN2 := Lib.hid hxN2
        clear hb hA2 hx2 hxN2 d0 z0
        go_upto_region 22 with (fail)
        have hAl : Below w20.heap.size w20 (w20.alloc (.cells (swcells x2) 35)) := (Below.refl _ _).alloc (Nat.le_refl _) _
        have B21 := Lib.hid (B20.out.step hAl)
        have X21 : Hid ((w20.alloc (.cells (swcells x2) 35)).heap[w20.heap.size]? = some (.cells (swcells x2) 35 (0, 0))) := Lib.hid (heap_new _ _)
        have G21 := Lib.hid hAl
        clear hAl
        generalize (w20.alloc (.cells (swcells x2) 35)) = w21 at B21 X21 G21 ⊢
        have d0 := cells_at B21.out.blk
        simp only [swcells, sncells] at d0
        have z0 := heap_lt B21.out.blk
        go_wp2_with fail
        refine (salvB_any v m _ (H.out.below B21.out.bel) HN.out hfew).mono ?_
        rintro e w22 ⟨y2, ga5, gc5, Q2, code5, rfl, hBv, hy2, _, hb⟩
        obtain ⟨rfl, hsw, _⟩ := HA2.out.same hBv
        have Hy2 := Lib.hid hy2
        have Hsw2 := Lib.hid hsw
        have B22 := Lib.hid (B21.out.step hb)
        have X22 := Lib.hid ((hb.block _ (heap_lt X21.out)).trans X21.out)
        have G22 := Lib.hid (below2 G21.out hb G21.out.size)
        clear hb hBv hy2 hsw d0 z0 B21 X21 G21
        go_upto_region 23 with (fail)
        have hAl : Below w22.heap.size w22 (w22.alloc (.cells (swcells y2) 35)) := (Below.refl _ _).alloc (Nat.le_refl _) _
        have B23 := Lib.hid (B22.out.step hAl)
        have Y23 : Hid ((w22.alloc (.cells (swcells y2) 35)).heap[w22.heap.size]? = some (.cells (swcells y2) 35 (0, 0))) := Lib.hid (heap_new _ _)
        have X23 := Lib.hid ((hAl.block _ (heap_lt X22.out)).trans X22.out)
        have G23 := Lib.hid (below2 G22.out hAl G22.out.size)
        have K23 := Lib.hid hAl
        clear hAl X22 G22
        generalize (w22.alloc (.cells (swcells y2) 35)) = w23 at B23 X23 Y23 G23 K23 ⊢
        have dx := cells_at X23.out
        simp only [swcells, sncells] at dx
        have zx := heap_lt X23.out
        have dy := cells_at Y23.out
        simp only [swcells, sncells] at dy
        have zy := heap_lt Y23.out
        go_wp2_with fail
        refine (sameSnap_any x2 y2 3 m _ (Hx2.out.below G23.out) (Hy2.out.below K23.out) Hsw2.out HxN2.out (by omega)).mono ?_
        rintro e w24 ⟨rfl, hb⟩
        have B24 := Lib.hid (B23.out.step hb)
        clear hb dx zx dy zy
        go_wp2_with fail
        refine (known36_any _).mono ?_
        rintro e w25 ⟨rfl, hb⟩
        have B25 := Lib.hid (B24.out.step hb).bel
        clear hb
        go_wp2_with fail
        go_ret
        exact ⟨rfl, B25.out⟩
end Go.Proofs.YtaandcblndldmaaGreat
