/- varvelaw13.BaseOf: the walk. -/
import Derived.Test.YthdmoplclllhjaaGreatLwA
import Derived.Test.YthdmoplclllhjaaGreatWitR
namespace Go.Proofs.YthdmoplclllhjaaGreat
open Go.RowKit
set_option linter.unusedVariables false
set_option linter.unusedSimpArgs false

theorem WitP.perm {L M : List Cm} (hp : L.Perm M) {J v : List Dt} (h : WitP L J v) : WitP M J v := by
  obtain ⟨B, hB, hv⟩ := h
  exact ⟨B, fun c => by rw [hB c, hp.mem_iff], hv⟩
theorem rd_trE {w wr : World} {P : PrV} (h : PairAt w wr P) : TrRd P.w0 3 P.b.ra P.b.rc P.b.b.tr := h.gr.base.tr
set_option maxRecDepth 100000 in
set_option maxHeartbeats 16000000 in
theorem baseOf_walk (v : Bw) (m : Nat) (la0 : Option Addr) (lc0 : Nat) (l : List Cw) (da : Option Addr) (dc : Nat) (dots : List Dt) (r i s : Int) (ua : Option Addr) (uc : Nat) (U : List Dt) (w : World) (h : BwAt w m v) (hl : Cms w la0 lc0 l) (hd : Vec w da dc dots) (hokd : okV dots) (hok : okD ((r, i), s)) (hU : Vec w ua uc U) (hokU : okV U) (htp : v.b.tips.length ≤ 1100000) (hB : BdA 1100000 3 v.b.tr) :
    Calls Tryz.prog 7 #[.agg (bwcells v), .slice la0 l.length lc0, .slice da dots.length dc, .agg #[.int .u8 r, .int .u32 i, .int .u64 s], .slice ua U.length uc] w (fun e w' => e = .returned (.bool true) ∧ Below w.heap.size w w') := by
  obtain ⟨⟨num, F, tips, t, tr⟩, fa, fc, ta, tc, ra, rc⟩ := v
  have H := Lib.hid h
  have HL := Lib.hid hl
  have Hd := Lib.hid hd
  have HU := Lib.hid hU
  have Hokd := Lib.hid hokd
  have Hok := Lib.hid hok
  have HokU := Lib.hid hokU
  have HBd := Lib.hid hB
  have hdm := hd.2.2.1
  have hdn := hd.2.1
  have hum := hU.2.2.1
  have hun := hU.2.1
  unfold maxLen at hdm hum
  dsimp only at htp
  have E : Hid (Below w.heap.size w ((w.alloc (.cells (basecells num fa F.length fc ta tips.length tc t ra tr.length rc) 28)).alloc (.cells #[.int .u8 r, .int .u32 i, .int .u64 s] 41)) ∧ ((w.alloc (.cells (basecells num fa F.length fc ta tips.length tc t ra tr.length rc) 28)).alloc (.cells #[.int .u8 r, .int .u32 i, .int .u64 s] 41)).heap[w.heap.size]? = some (.cells (basecells num fa F.length fc ta tips.length tc t ra tr.length rc) 28 (0, 0)) ∧ ((w.alloc (.cells (basecells num fa F.length fc ta tips.length tc t ra tr.length rc) 28)).alloc (.cells #[.int .u8 r, .int .u32 i, .int .u64 s] 41)).heap[w.heap.size + 1]? = some (.cells #[.int .u8 r, .int .u32 i, .int .u64 s] 41 (0, 0))) :=
    Lib.hid ⟨((Below.refl _ _).alloc (Nat.le_refl _) _).alloc (by simp) _, (heap_old _ _ (by simp)).trans (heap_new _ _), heap_new2 _ _ _⟩
  clear h hl hd hokd hok hU hokU hB
  simp only [bwcells]
  go_enter Tryz.func7, Tryz.ntmps7
  go_wp2_with fail
  refine (both13_any ⟨⟨num, F, tips, t, tr⟩, fa, fc, ta, tc, ra, rc⟩ m la0 lc0 l _ (H.out.below E.out.1) (HL.out.below E.out.1) htp HBd.out).mono ?_
  intro e w1 hto
  rcases hto.two with ⟨rfl, hb⟩ | ⟨P, rfl, hp, hPl, hPv⟩
  · have HB := Lib.hid (below2 E.out.1 hb E.out.1.size)
    clear hto hb
    go_wp2_with fail
    refine (known13_any _).mono ?_
    rintro e w2 ⟨rfl, hb⟩
    have HB2 := Lib.hid (below2 HB.out hb HB.out.size)
    clear hb
    go_wp2_with fail
    go_ret
    exact ⟨rfl, HB2.out⟩
  have HP := Lib.hid hp
  have HB := Lib.hid (below2 E.out.1 hp.bel E.out.1.size)
  have HBx := Lib.hid ((hp.bel.block _ (heap_lt E.out.2.2)).trans E.out.2.2)
  have HBt : Hid (BdA 1100000 3 P.b.b.tr) := Lib.hid (BdA.same HBd.out (by have h1 := hp.tr; rw [hPv] at h1; exact h1))
  clear hto hp hPv E
  generalize (w.alloc (.cells (basecells num fa F.length fc ta tips.length tc t ra tr.length rc) 28)).alloc (.cells #[.int .u8 r, .int .u32 i, .int .u64 s] 41) = wA at HP
  by_cases h20 : 20 < dots.length
  · have x1 : decide ((20 : Int) < (dots.length : Int)) = true := decide_eq_true (by omega)
    go_wp2_with fail
    refine (known13_any _).mono ?_
    rintro e w2 ⟨rfl, hb⟩
    have HB2 := Lib.hid (below2 HB.out hb HB.out.size)
    clear hb
    go_wp2_with fail
    go_ret
    exact ⟨rfl, HB2.out⟩
  have x1 : decide ((20 : Int) < (dots.length : Int)) = false := decide_eq_false (by omega)
  by_cases h64 : 64 < U.length
  · have x2 : decide ((64 : Int) < (U.length : Int)) = true := decide_eq_true (by omega)
    go_wp2_with fail
    refine (known13_any _).mono ?_
    rintro e w2 ⟨rfl, hb⟩
    have HB2 := Lib.hid (below2 HB.out hb HB.out.size)
    clear hb
    go_wp2_with fail
    go_ret
    exact ⟨rfl, HB2.out⟩
  have x2 : decide ((64 : Int) < (U.length : Int)) = false := decide_eq_false (by omega)
  have A1 : Hid (Below w1.heap.size w1 (w1.alloc (.cells #[] 41))) := Lib.hid ((Below.refl _ _).alloc (Nat.le_refl _) _)
  have HA1 := Lib.hid (below2 HB.out A1.out HB.out.size)
  go_wp2_with (at_builtin; go_must (refine wpList_appD rfl _ _ rfl w1.heap.size (some ⟨w1.heap.size, 0, none⟩) 0 [] rfl (OwnD.made w1 (Nat.le_refl _)) da dc dots rfl (Hd.out.below HA1.out) ?n1 ?b1 ?_))
  case n1 => simp; omega
  case b1 => simp
  intro v1 a1 c1 w2 hv1 ho1 hb1 hc1
  have Hv1 := Lib.hid (show v1 = dots from hv1)
  have hv1l : v1.length ≤ 20 := by rw [Hv1.out]; omega
  have B2 := Lib.hid (A1.out.trans hb1)
  have O2 := Lib.hid (OwnD.below ho1 ((Below.refl _ _).drew))
  have P2 := Lib.hid (HP.out.below (B2.out.trans ((Below.refl w2.heap.size w2).drew.mono B2.out.size)))
  have X2 := Lib.hid (((Below.refl w2.heap.size w2).drew.block _ (heap_lt ((B2.out.block _ (heap_lt HBx.out)).trans HBx.out))).trans ((B2.out.block _ (heap_lt HBx.out)).trans HBx.out))
  have T2 := Lib.hid ((below2 HB.out B2.out HB.out.size).drew)
  have HokV1 := Lib.hid (show okV v1 from by rw [Hv1.out]; exact Hokd.out)
  have HTr := Lib.hid (rd_trE HP.out)
  clear hv1 ho1 hb1 hc1 A1 HA1 B2 HB
  go_wp2_with fail
  refine region_text [([0, 1, 3, 4, 2, 5, 6, 7, 8, 9, 11, 12, 10, 13, 14, 15, 16, 17, 18, 19, 21, 22, 23], false), ([20], true), ([24, 25, 26, 27, 28, 29, 30, 31, 32, 33, 34, 35], false)] mixed (by kernel_rfl) ?_
  simp only [wpSegs, List.map_cons, List.map_nil, List.getD_cons_succ, List.getD_cons_zero]
  go_wp2_with fail
  refine (lifted_G P.pg P.mb P.w0 3 P.b P.L P.va P.vc P.vv a1 c1 v1 _ P2.out.gr HTr.out HBt.out O2.out.vec HokV1.out (by omega)).mono ?_
  intro e w3 hto
  obtain ⟨a3, c3, K3, rfl, hK3, hok3, hcan3, ho3, hb3⟩ := hto
  have P3 := Lib.hid (P2.out.below hb3)
  have X3 := Lib.hid ((hb3.block _ (heap_lt X2.out)).trans X2.out)
  have T3 := Lib.hid (below2 T2.out hb3 T2.out.size)
  have O3 := Lib.hid (OwnD.below O2.out hb3)
  have V3 := Lib.hid ho3
  have HK3 := Lib.hid hK3
  have hl3 := canon_len hcan3
  clear hK3 hok3 hcan3 ho3 hb3 O2 P2 X2 T2
  go_wp2_with fail
  refine (lifted_R P.pw wA P.m P.v P.S P.la P.lc da dc dots _ P3.out.rg (Hd.out.below T3.out) Hokd.out (by omega)).mono ?_
  intro e w4 hto
  obtain ⟨a4, c4, K4, rfl, hK4, hok4, hcan4, ho4, hb4⟩ := hto
  have hKK : K3 = K4 := by rw [HK3.out, hK4, Hv1.out, HP.out.same, HP.out.nd]
  have V4 := Lib.hid (OwnD.below V3.out hb4)
  have P4 := Lib.hid (P3.out.below hb4)
  have X4 := Lib.hid ((hb4.block _ (heap_lt X3.out)).trans X3.out)
  have T4 := Lib.hid (below2 T3.out hb4 T3.out.size)
  have O4 := Lib.hid (OwnD.below O3.out hb4)
  have W4 := Lib.hid ho4
  have hl4 := canon_len hcan4
  have HKK := Lib.hid hKK
  clear hK4 hok4 hcan4 ho4 hb4 O3 P3 X3 T3 V3 HK3 hKK
  go_wp2_with fail
  refine (same_any a3 a4 c3 c4 K3 K4 _ V4.out.vec W4.out.vec (by omega) (by omega)).mono ?_
  rintro e w5 ⟨rfl, hb⟩
  rw [decide_eq_true HKK.out]
  have P5 := Lib.hid (P4.out.below hb)
  have X5 := Lib.hid ((hb.block _ (heap_lt X4.out)).trans X4.out)
  have T5 := Lib.hid (below2 T4.out hb T4.out.size)
  have O5 := Lib.hid (OwnD.below O4.out hb)
  clear hb O4 P4 X4 T4 V4 W4 HKK hl3 hl4
  go_wp2_with fail
  refine (within_G P.pg P.mb P.w0 3 P.b P.L P.va P.vc P.vv ua uc U _ P5.out.gr HTr.out HBt.out (HU.out.below T5.out) HokU.out (by omega)).mono ?_
  intro e w6 hto
  obtain ⟨a6, c6, g6, rfl, hg6, hok6, hl6, ho6, hb6⟩ := hto
  have hSL : (cms P.L).length ≤ 40 := by unfold cms; rw [List.length_map]; exact hPl
  have hSS : (cms P.S).length ≤ 40 := by rw [P5.out.perm.length_eq]; exact hSL
  have hl6' : g6.length ≤ 40 := by omega
  have P6 := Lib.hid (P5.out.below hb6)
  have X6 := Lib.hid ((hb6.block _ (heap_lt X5.out)).trans X5.out)
  have T6 := Lib.hid (below2 T5.out hb6 T5.out.size)
  have O6 := Lib.hid (OwnD.below O5.out hb6)
  have V6 := Lib.hid ho6
  have G6 := Lib.hid hg6
  clear hg6 hok6 hl6 ho6 hb6 O5 P5 X5 T5
  go_wp2_with fail
  refine (within_R P.pw wA P.m P.v P.S P.la P.lc ua uc U _ P6.out.rg (HU.out.below T6.out) HokU.out (by omega)).mono ?_
  intro e w7 hto
  obtain ⟨a7, c7, g7, rfl, hg7, hok7, hl7, ho7, hb7⟩ := hto
  have hl7' : g7.length ≤ 40 := by omega
  have HGG := Lib.hid (show g6 = g7 from wit_eq P6.out.perm.symm (by rw [← P6.out.same]; exact G6.out) hg7)
  have P7 := Lib.hid (P6.out.below hb7)
  have X7 := Lib.hid ((hb7.block _ (heap_lt X6.out)).trans X6.out)
  have T7 := Lib.hid (below2 T6.out hb7 T6.out.size)
  have O7 := Lib.hid (OwnD.below O6.out hb7)
  have V7 := Lib.hid (OwnD.below V6.out hb7)
  have W7 := Lib.hid ho7
  clear hg7 hok7 hl7 ho7 hb7 O6 P6 X6 T6 V6 G6
  go_wp2_with fail
  refine (same_any a6 a7 c6 c7 g6 g7 _ V7.out.vec W7.out.vec (by omega) (by omega)).mono ?_
  rintro e w8 ⟨rfl, hb⟩
  rw [decide_eq_true HGG.out]
  have P8 := Lib.hid (P7.out.below hb)
  have X8 := Lib.hid ((hb.block _ (heap_lt X7.out)).trans X7.out)
  have T8 := Lib.hid (below2 T7.out hb T7.out.size)
  have O8 := Lib.hid (OwnD.below O7.out hb)
  clear hb O7 P7 X7 T7 V7 W7 HGG hl6' hl7'
  have d0 := cells_at X8.out
  have z0 := heap_lt X8.out
  go_wp2_with fail
  refine (baseOf_any P.pg P.mb P.w0 3 P.b P.L P.va P.vc P.vv a1 c1 v1 r i s _ P8.out.gr P8.out.dagL O8.out.vec HokV1.out (by omega) Hok.out).mono ?_
  intro e w9 hto
  obtain ⟨a9, c9, g9, rfl, hg9, hok9, hl9, ho9, hb9⟩ := hto
  have Hb9 := Lib.hid hb9
  have P9 := Lib.hid (P8.out.below hb9)
  have T9 := Lib.hid (below2 T8.out hb9 T8.out.size)
  have X9 := Lib.hid ((hb9.block _ (heap_lt X8.out)).trans X8.out)
  have O9 := Lib.hid (OwnD.below O8.out hb9)
  have V9 := Lib.hid ho9
  have G9 := Lib.hid (show BofP (cms P.L) dots ((r, i), s) g9 from by rw [← Hv1.out]; exact hg9)
  clear hg9 hok9 ho9 hb9 O8 P8 X8 T8 d0 z0
  go_wp2_with fail
  refine And.intro (Agree.of_below Hb9.out) ?_
  have d0 := cells_at X9.out
  have z0 := heap_lt X9.out
  go_wp2_with fail
  refine (of_R P.pw wA P.m P.v P.S P.la P.lc da dc dots r i s _ P9.out.rg (Hd.out.below T9.out) Hokd.out (by omega) Hok.out).mono ?_
  intro e w10 hto
  obtain ⟨a10, c10, g10, rfl, hg10, hok10, hl10, ho10, hb10⟩ := hto
  have hl10' : g10.length ≤ 40 := by omega
  have HGG := Lib.hid (show g9 = g10 from by
    have h1 := WitP.perm P9.out.perm hg10
    have h2 : findC (cms P.S) = findC (cms P.L) := P9.out.nd
    rw [h2] at h1
    exact bof_eq G9.out (wit_bof P9.out.hist (fun c hc => by
      obtain ⟨u, hu, rfl⟩ := List.mem_map.1 hc
      exact (P9.out.gr.each u hu).ok.vv) h1))
  have T10 := Lib.hid (below2 T9.out hb10 T9.out.size)
  have O10 := Lib.hid (OwnD.below O9.out hb10)
  have V10 := Lib.hid (OwnD.below V9.out hb10)
  have W10 := Lib.hid ho10
  clear hg10 hok10 hl10 ho10 hb10 O9 P9 X9 T9 V9 G9 d0 z0 Hb9
  go_wp2_with fail
  refine (same_any a9 a10 c9 c10 g9 g10 _ V10.out.vec W10.out.vec (by omega) (by omega)).mono ?_
  rintro e w11 ⟨rfl, hb⟩
  rw [decide_eq_true HGG.out]
  have T11 := Lib.hid (below2 T10.out hb T10.out.size)
  have O11 := Lib.hid (OwnD.below O10.out hb)
  clear hb O10 T10 V10 W10 HGG hl9 hl10'
  go_wp2_with fail
  refine (same_any a1 da c1 dc v1 dots _ O11.out.vec (Hd.out.below T11.out) (by omega) (by omega)).mono ?_
  rintro e w12 ⟨rfl, hb⟩
  rw [decide_eq_true Hv1.out]
  have T12 := Lib.hid (below2 T11.out hb T11.out.size)
  clear hb O11 T11
  go_wp2_with fail
  refine (known13_any _).mono ?_
  rintro e w13 ⟨rfl, hb⟩
  have T13 := Lib.hid (below2 T12.out hb T12.out.size)
  clear hb
  go_wp2_with fail
  refine And.intro (by kernel_rfl) ?_
  go_wp2_with fail
  go_ret
  exact ⟨rfl, T13.out⟩
end Go.Proofs.YthdmoplclllhjaaGreat
