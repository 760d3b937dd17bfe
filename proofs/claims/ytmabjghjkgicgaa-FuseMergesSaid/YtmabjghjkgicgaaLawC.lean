/- The law FuseMerges: its walk up to 'x, y := own(a), own(b)', in all its orders. Printed by genlaw06b.py. -/
import Derived.Test.YtmabjghjkgicgaaLawB
import Derived.Test.YtmabjghjkgicgaaLawK
import Derived.Test.YtmabjghjkgicgaaRegN
import Derived.Test.YtmabjghjkgicgaaLawD
import Derived.Test.YtmabjghjkgicgaaRefMZ
namespace Go.Proofs.Ytmabjghjkgicgaa
open Go.RowKit
set_option linter.unusedVariables false
set_option linter.unusedSimpArgs false

def Rd (w : World) (v : Lv) : Prop := LfRd w v.l v.ia v.ic v.ta v.tc
theorem Rd.below {w w' : World} {v : Lv} (h : Rd w v) (hb : Below w.heap.size w w') : Rd w' v := ⟨h.its.below hb, h.tms.below hb, h.ok⟩
/-- the three boxes -/
structure B3 (w W : World) (L A B : Lv) : Prop where
  bl : LvBlk W w.heap.size L
  ba : LvBlk W (w.heap.size + 1) A
  bb : LvBlk W (w.heap.size + 2) B
  sz : w.heap.size + 3 ≤ W.heap.size
  bel : Below w.heap.size w W
theorem B3.of {w W : World} {L A B : Lv} (hb : Below (((w.alloc (.cells (lcells L.l L.ia L.ic L.ta L.tc) 40)).alloc (.cells (lcells A.l A.ia A.ic A.ta A.tc) 40)).alloc (.cells (lcells B.l B.ia B.ic B.ta B.tc) 40)).heap.size (((w.alloc (.cells (lcells L.l L.ia L.ic L.ta L.tc) 40)).alloc (.cells (lcells A.l A.ia A.ic A.ta A.tc) 40)).alloc (.cells (lcells B.l B.ia B.ic B.ta B.tc) 40)) W) : B3 w W L A B := by
  obtain ⟨h0, h1, h2, h3, h4⟩ := new3 hb
  exact ⟨h0, h1, h2, h3, h4⟩
theorem B3.step {w W W' : World} {L A B : Lv} (h : B3 w W L A B) (hb : Below W.heap.size W W') : B3 w W' L A B :=
  ⟨h.bl.below hb, h.ba.below hb, h.bb.below hb, by have := h.sz; have := hb.size; omega, below2 h.bel hb h.bel.size⟩
set_option maxRecDepth 100000 in
set_option maxHeartbeats 8000000 in
theorem fuse_walk (L A B : Lv) (w : World) (hL : Rd w L) (hA : Rd w A) (hB : Rd w B) :
    Calls Try.prog 5 #[lval L.l L.ia L.ic L.ta L.tc, lval A.l A.ia A.ic A.ta A.tc, lval B.l B.ia B.ic B.ta B.tc] w fun e w' => e = .returned (.bool true) ∧ Below w.heap.size w w' := by
  have HL := Lib.hid hL
  have HA := Lib.hid hA
  have HB := Lib.hid hB
  clear hL hA hB
  simp only [lval]
  go_enter Try.func5, Try.ntmps5
  go_wp2_with fail
  refine (great_any L.l L.ia L.ta L.ic L.tc _ (HL.out.below ?h1)).mono ?_
  case h1 => exact (((Below.refl _ _).alloc (Nat.le_refl _) _).alloc (by simp) _).alloc (by simp; omega) _
  rintro e w1 ⟨q, rfl, hq, hb1⟩
  have E : Hid (B3 w w1 L A B) := Lib.hid (B3.of hb1)
  have hql := Lib.hid hq
  clear hb1 hq
  have d0 := cells_at E.out.bl
  have d1 := cells_at E.out.ba
  have d2 := cells_at E.out.bb
  simp only [lcells] at d0 d1 d2
  cases q with
  | true =>
    go_wp2_with fail
    refine (known_any _).mono ?_
    rintro e w2 ⟨rfl, hb2⟩
    have HB2 := Lib.hid (below2 E.out.bel hb2 E.out.bel.size)
    clear hb2
    go_wp2_with fail
    go_ret
    exact ⟨rfl, HB2.out⟩
  | false =>
    go_wp2_with fail
    refine (great_any A.l A.ia A.ta A.ic A.tc _ (HA.out.below E.out.bel)).mono ?_
    rintro e w2 ⟨q, rfl, hq, hb2⟩
    replace E := Lib.hid (E.out.step hb2)
    have hqa := Lib.hid hq
    clear hb2 hq d0 d1 d2
    have d0 := cells_at E.out.bl
    have d1 := cells_at E.out.ba
    have d2 := cells_at E.out.bb
    simp only [lcells] at d0 d1 d2
    cases q with
    | true =>
      go_wp2_with fail
      refine (known_any _).mono ?_
      rintro e w2 ⟨rfl, hb2⟩
      have HB2 := Lib.hid (below2 E.out.bel hb2 E.out.bel.size)
      clear hb2
      go_wp2_with fail
      go_ret
      exact ⟨rfl, HB2.out⟩
    | false =>
      go_wp2_with fail
      refine (great_any B.l B.ia B.ta B.ic B.tc _ (HB.out.below E.out.bel)).mono ?_
      rintro e w3 ⟨q, rfl, hq, hb3⟩
      replace E := Lib.hid (E.out.step hb3)
      have hqb := Lib.hid hq
      clear hb3 hq d0 d1 d2
      have d0 := cells_at E.out.bl
      have d1 := cells_at E.out.ba
      have d2 := cells_at E.out.bb
      simp only [lcells] at d0 d1 d2
      cases q with
      | true =>
        go_wp2_with fail
        refine (known_any _).mono ?_
        rintro e w2 ⟨rfl, hb2⟩
        have HB2 := Lib.hid (below2 E.out.bel hb2 E.out.bel.size)
        clear hb2
        go_wp2_with fail
        go_ret
        exact ⟨rfl, HB2.out⟩
      | false =>
        have hl := hql.out (by simp)
        have ha := hqa.out (by simp)
        have hb := hqb.out (by simp)
        have E0' : Hid (E0 w w3 L A B) := Lib.hid ⟨E.out.bl, E.out.ba, E.out.bb, (HL.out.below E.out.bel).at hl.1 hl.2, (HA.out.below E.out.bel).at ha.1 ha.2, (HB.out.below E.out.bel).at hb.1 hb.2, E.out.sz, E.out.bel⟩
        have Hna := Lib.hid ha
        have Hnb := Lib.hid hb
        clear hql hqa hqb hl ha hb E
        go_upto_region 3 with (fail)

        go_cut [7, 8] (fun vx vy wx => XyTo w wx L A B vx vy)
        case first =>
          refine region_many (.seg [0, 2] false (.fork (.seg [1] true (.fork (.seg [3] false (.fork (.seg [4, 5, 6, 7] false .done) (.seg [5, 4, 6, 7] false .done))) (.fork (.seg [4] false (.fork (.seg [3, 5, 6, 7] false .done) (.seg [5, 3, 6, 7] false .done))) (.seg [5] false (.fork (.seg [3, 4, 6, 7] false .done) (.seg [4, 3, 6, 7] false .done)))))) (.fork (.seg [4] false (.fork (.seg [1] true (.fork (.seg [3, 5, 6, 7] false .done) (.seg [5, 3, 6, 7] false .done))) (.seg [5] false (.seg [1] true (.seg [3, 6, 7] false .done))))) (.seg [5] false (.fork (.seg [1] true (.fork (.seg [3, 4, 6, 7] false .done) (.seg [4, 3, 6, 7] false .done))) (.seg [4] false (.seg [1] true (.seg [3, 6, 7] false .done)))))))) mixed (by kernel_rfl) ?_
          have E : Hid (E0 w w3.drew L A B) := Lib.hid (E0'.out.step ((Below.refl _ _).drew))
          clear E0' d0 d1 d2
          simp only [wpSg, List.map_cons, List.map_nil, List.getD_cons_succ, List.getD_cons_zero]
          generalize w3.drew = v0 at *
          have d0 := cells_at E.out.bl
          have d1 := cells_at E.out.ba
          have d2 := cells_at E.out.bb
          simp only [lcells] at d0 d1 d2
          have EB := E
          go_wp2_with fail
          refine And.intro ?_ ?_
          · skip
            go_wp2_with fail
            refine (own_any A.l A.ia A.ta A.ic A.tc _ (E.out.aa.below (Below.refl v0.heap.size v0))).mono ?_
            intro e v1 hto
            obtain ⟨X, rfl, hX, hat, hfr, hbb⟩ := hto.lv
            have hb1 : Below v0.heap.size v0 v1 := below2 (Below.refl v0.heap.size v0) hbb (Below.refl v0.heap.size v0).size
            have HB1 := Lib.hid hb1
            have HX := Lib.hid hX
            have HatX := Lib.hid hat
            have HfrX := Lib.hid hfr
            have HBA1 := Lib.hid (hbb)
            have E := Lib.hid (E.out.step hb1)
            have hs1 := hb1.size
            clear hto hX hat hfr hbb hb1  d0 d1 d2
            have d0 := cells_at E.out.bl
            have d1 := cells_at E.out.ba
            have d2 := cells_at E.out.bb
            simp only [lcells] at d0 d1 d2
            go_wp2_with fail
            refine And.intro (Agree.of_below HBA1.out) ?_
            refine And.intro ?_ ?_
            · skip
              go_wp2_with fail
              refine (own_any B.l B.ia B.ta B.ic B.tc _ (E.out.ab.below (Below.refl v1.heap.size v1))).mono ?_
              intro e v2 hto
              obtain ⟨Y, rfl, hY, hat, hfr, hbb⟩ := hto.lv
              have hb2 : Below v1.heap.size v1 v2 := below2 (Below.refl v1.heap.size v1) hbb (Below.refl v1.heap.size v1).size
              have HB2 := Lib.hid hb2
              have HY := Lib.hid hY
              have HatY := Lib.hid hat
              have HfrY := Lib.hid hfr
              have HBA2 := Lib.hid (hbb)
              have HatX := Lib.hid (HatX.out.below hb2)
              have E := Lib.hid (E.out.step hb2)
              have hs2 := hb2.size
              clear hto hY hat hfr hbb hb2  d0 d1 d2
              have d0 := cells_at E.out.bl
              have d1 := cells_at E.out.ba
              have d2 := cells_at E.out.bb
              simp only [lcells] at d0 d1 d2
              go_wp2_with fail
              refine And.intro ?_ ?_
              · skip
                go_wp2_with fail
                refine And.intro (by kernel_rfl) ?_
                go_wp2_with fail
                go_meet
                exact end_nn EB.out (below2 HB1.out HB2.out HB1.out.size) HatX.out HatY.out HX.out HY.out
              · skip
                go_wp2_with fail
                refine And.intro (by kernel_rfl) ?_
                go_wp2_with fail
                go_meet
                exact end_nn' EB.out (below2 HB1.out HB2.out HB1.out.size) HatX.out HatY.out HX.out HY.out
            · skip
              refine And.intro ?_ ?_
              · skip
                go_wp2_with fail
                refine And.intro ?_ ?_
                · skip
                  go_wp2_with fail
                  refine (own_any B.l B.ia B.ta B.ic B.tc _ (E.out.ab.below ((Below.refl v1.heap.size v1).alloc (Nat.le_refl _) (.cells #[.int .u8 0, .int .i64 0, .int .u64 0, .int .u8 0, .int .u32 0, .int .u64 0, .string ⟨#[]⟩, .slice none 0 0, .slice none 0 0] 40)))).mono ?_
                  intro e v2 hto
                  obtain ⟨Y, rfl, hY, hat, hfr, hbb⟩ := hto.lv
                  have hb2 : Below v1.heap.size v1 v2 := below2 ((Below.refl v1.heap.size v1).alloc (Nat.le_refl _) (.cells #[.int .u8 0, .int .i64 0, .int .u64 0, .int .u8 0, .int .u32 0, .int .u64 0, .string ⟨#[]⟩, .slice none 0 0, .slice none 0 0] 40)) hbb ((Below.refl v1.heap.size v1).alloc (Nat.le_refl _) (.cells #[.int .u8 0, .int .i64 0, .int .u64 0, .int .u8 0, .int .u32 0, .int .u64 0, .string ⟨#[]⟩, .slice none 0 0, .slice none 0 0] 40)).size
                  have HB2 := Lib.hid hb2
                  simp only [World.size_alloc] at hfr
                  have HY := Lib.hid hY
                  have HatY := Lib.hid hat
                  have HfrY := Lib.hid hfr
                  have HBA2 := Lib.hid (hbb)
                  have hzx : Zc v2 v1.heap.size := (new1 hbb).1
                  have Hzx := Lib.hid hzx
                  have HatX := Lib.hid (HatX.out.below hb2)
                  have E := Lib.hid (E.out.step hb2)
                  have hs2 := hb2.size
                  have hq2 : v1.heap.size + 1 ≤ v2.heap.size := (new1 hbb).2.1
                  clear hto hY hat hfr hbb hb2 hzx d0 d1 d2
                  have d0 := cells_at E.out.bl
                  have d1 := cells_at E.out.ba
                  have d2 := cells_at E.out.bb
                  simp only [lcells] at d0 d1 d2
                  have gx := cells_at Hzx.out
                  have fx := free_at Hzx.out
                  have hlx2 : v1.heap.size < v2.heap.size := by omega
                  go_wp2_with fail
                  refine And.intro (by kernel_rfl) ?_
                  go_wp2_with fail
                  go_meet
                  exact end_on EB.out (below2 HB1.out HB2.out HB1.out.size) Hzx.out (by omega) (HfrX.out.off (by omega)) (HfrY.out.off (by omega)) HatX.out HatY.out HX.out HY.out
                · skip
                  go_wp2_with fail
                  refine (own_any B.l B.ia B.ta B.ic B.tc _ (E.out.ab.below (((Below.refl v1.heap.size v1).alloc (Nat.le_refl _) (.cells #[.int .u8 0, .int .i64 0, .int .u64 0, .int .u8 0, .int .u32 0, .int .u64 0, .string ⟨#[]⟩, .slice none 0 0, .slice none 0 0] 40)).alloc (by simp) (.cells #[.int .u8 0, .int .i64 0, .int .u64 0, .int .u8 0, .int .u32 0, .int .u64 0, .string ⟨#[]⟩, .slice none 0 0, .slice none 0 0] 40)))).mono ?_
                  intro e v2 hto
                  obtain ⟨Y, rfl, hY, hat, hfr, hbb⟩ := hto.lv
                  have hb2 : Below v1.heap.size v1 v2 := below2 (((Below.refl v1.heap.size v1).alloc (Nat.le_refl _) (.cells #[.int .u8 0, .int .i64 0, .int .u64 0, .int .u8 0, .int .u32 0, .int .u64 0, .string ⟨#[]⟩, .slice none 0 0, .slice none 0 0] 40)).alloc (by simp) (.cells #[.int .u8 0, .int .i64 0, .int .u64 0, .int .u8 0, .int .u32 0, .int .u64 0, .string ⟨#[]⟩, .slice none 0 0, .slice none 0 0] 40)) hbb (((Below.refl v1.heap.size v1).alloc (Nat.le_refl _) (.cells #[.int .u8 0, .int .i64 0, .int .u64 0, .int .u8 0, .int .u32 0, .int .u64 0, .string ⟨#[]⟩, .slice none 0 0, .slice none 0 0] 40)).alloc (by simp) (.cells #[.int .u8 0, .int .i64 0, .int .u64 0, .int .u8 0, .int .u32 0, .int .u64 0, .string ⟨#[]⟩, .slice none 0 0, .slice none 0 0] 40)).size
                  have HB2 := Lib.hid hb2
                  simp only [World.size_alloc] at hfr
                  have HY := Lib.hid hY
                  have HatY := Lib.hid hat
                  have HfrY := Lib.hid hfr
                  have HBA2 := Lib.hid (hbb)
                  have hzx : Zc v2 v1.heap.size := (new2 hbb).1
                  have Hzx := Lib.hid hzx
                  have hzy : Zc v2 (v1.heap.size + 1) := (new2 hbb).2.1
                  have Hzy := Lib.hid hzy
                  have HatX := Lib.hid (HatX.out.below hb2)
                  have E := Lib.hid (E.out.step hb2)
                  have hs2 := hb2.size
                  have hq2 : v1.heap.size + 2 ≤ v2.heap.size := (new2 hbb).2.2.1
                  clear hto hY hat hfr hbb hb2 hzx hzy d0 d1 d2
                  have d0 := cells_at E.out.bl
                  have d1 := cells_at E.out.ba
                  have d2 := cells_at E.out.bb
                  simp only [lcells] at d0 d1 d2
                  have gx := cells_at Hzx.out
                  have fx := free_at Hzx.out
                  have gy := cells_at Hzy.out
                  have fy := free_at Hzy.out
                  have hlx2 : v1.heap.size < v2.heap.size := by omega
                  have hly2 : v1.heap.size + 1 < v2.heap.size := by omega
                  go_wp2_with fail
                  refine And.intro (by kernel_rfl) ?_
                  go_wp2_with fail
                  go_meet
                  exact end_oo EB.out (below2 HB1.out HB2.out HB1.out.size) Hzx.out Hzy.out (by omega) (by omega) (by omega) (HfrX.out.off (by omega)) (HfrY.out.off (by omega)) (HfrX.out.off (by omega)) (HfrY.out.off (by omega)) HatX.out HatY.out HX.out HY.out
              · skip
                go_wp2_with fail
                refine And.intro ?_ ?_
                · skip
                  go_wp2_with fail
                  refine (own_any B.l B.ia B.ta B.ic B.tc _ (E.out.ab.below ((Below.refl v1.heap.size v1).alloc (Nat.le_refl _) (.cells #[.int .u8 0, .int .i64 0, .int .u64 0, .int .u8 0, .int .u32 0, .int .u64 0, .string ⟨#[]⟩, .slice none 0 0, .slice none 0 0] 40)))).mono ?_
                  intro e v2 hto
                  obtain ⟨Y, rfl, hY, hat, hfr, hbb⟩ := hto.lv
                  have hb2 : Below v1.heap.size v1 v2 := below2 ((Below.refl v1.heap.size v1).alloc (Nat.le_refl _) (.cells #[.int .u8 0, .int .i64 0, .int .u64 0, .int .u8 0, .int .u32 0, .int .u64 0, .string ⟨#[]⟩, .slice none 0 0, .slice none 0 0] 40)) hbb ((Below.refl v1.heap.size v1).alloc (Nat.le_refl _) (.cells #[.int .u8 0, .int .i64 0, .int .u64 0, .int .u8 0, .int .u32 0, .int .u64 0, .string ⟨#[]⟩, .slice none 0 0, .slice none 0 0] 40)).size
                  have HB2 := Lib.hid hb2
                  simp only [World.size_alloc] at hfr
                  have HY := Lib.hid hY
                  have HatY := Lib.hid hat
                  have HfrY := Lib.hid hfr
                  have HBA2 := Lib.hid (hbb)
                  have hzy : Zc v2 v1.heap.size := (new1 hbb).1
                  have Hzy := Lib.hid hzy
                  have HatX := Lib.hid (HatX.out.below hb2)
                  have E := Lib.hid (E.out.step hb2)
                  have hs2 := hb2.size
                  have hq2 : v1.heap.size + 1 ≤ v2.heap.size := (new1 hbb).2.1
                  clear hto hY hat hfr hbb hb2 hzy d0 d1 d2
                  have d0 := cells_at E.out.bl
                  have d1 := cells_at E.out.ba
                  have d2 := cells_at E.out.bb
                  simp only [lcells] at d0 d1 d2
                  have gy := cells_at Hzy.out
                  have fy := free_at Hzy.out
                  have hly2 : v1.heap.size < v2.heap.size := by omega
                  go_wp2_with fail
                  refine And.intro (by kernel_rfl) ?_
                  go_wp2_with fail
                  go_meet
                  exact end_no EB.out (below2 HB1.out HB2.out HB1.out.size) Hzy.out (by omega) (HfrX.out.off (by omega)) (HfrY.out.off (by omega)) HatX.out HatY.out HX.out HY.out
                · skip
                  go_wp2_with fail
                  refine (own_any B.l B.ia B.ta B.ic B.tc _ (E.out.ab.below (((Below.refl v1.heap.size v1).alloc (Nat.le_refl _) (.cells #[.int .u8 0, .int .i64 0, .int .u64 0, .int .u8 0, .int .u32 0, .int .u64 0, .string ⟨#[]⟩, .slice none 0 0, .slice none 0 0] 40)).alloc (by simp) (.cells #[.int .u8 0, .int .i64 0, .int .u64 0, .int .u8 0, .int .u32 0, .int .u64 0, .string ⟨#[]⟩, .slice none 0 0, .slice none 0 0] 40)))).mono ?_
                  intro e v2 hto
                  obtain ⟨Y, rfl, hY, hat, hfr, hbb⟩ := hto.lv
                  have hb2 : Below v1.heap.size v1 v2 := below2 (((Below.refl v1.heap.size v1).alloc (Nat.le_refl _) (.cells #[.int .u8 0, .int .i64 0, .int .u64 0, .int .u8 0, .int .u32 0, .int .u64 0, .string ⟨#[]⟩, .slice none 0 0, .slice none 0 0] 40)).alloc (by simp) (.cells #[.int .u8 0, .int .i64 0, .int .u64 0, .int .u8 0, .int .u32 0, .int .u64 0, .string ⟨#[]⟩, .slice none 0 0, .slice none 0 0] 40)) hbb (((Below.refl v1.heap.size v1).alloc (Nat.le_refl _) (.cells #[.int .u8 0, .int .i64 0, .int .u64 0, .int .u8 0, .int .u32 0, .int .u64 0, .string ⟨#[]⟩, .slice none 0 0, .slice none 0 0] 40)).alloc (by simp) (.cells #[.int .u8 0, .int .i64 0, .int .u64 0, .int .u8 0, .int .u32 0, .int .u64 0, .string ⟨#[]⟩, .slice none 0 0, .slice none 0 0] 40)).size
                  have HB2 := Lib.hid hb2
                  simp only [World.size_alloc] at hfr
                  have HY := Lib.hid hY
                  have HatY := Lib.hid hat
                  have HfrY := Lib.hid hfr
                  have HBA2 := Lib.hid (hbb)
                  have hzy : Zc v2 v1.heap.size := (new2 hbb).1
                  have Hzy := Lib.hid hzy
                  have hzx : Zc v2 (v1.heap.size + 1) := (new2 hbb).2.1
                  have Hzx := Lib.hid hzx
                  have HatX := Lib.hid (HatX.out.below hb2)
                  have E := Lib.hid (E.out.step hb2)
                  have hs2 := hb2.size
                  have hq2 : v1.heap.size + 2 ≤ v2.heap.size := (new2 hbb).2.2.1
                  clear hto hY hat hfr hbb hb2 hzy hzx d0 d1 d2
                  have d0 := cells_at E.out.bl
                  have d1 := cells_at E.out.ba
                  have d2 := cells_at E.out.bb
                  simp only [lcells] at d0 d1 d2
                  have gy := cells_at Hzy.out
                  have fy := free_at Hzy.out
                  have gx := cells_at Hzx.out
                  have fx := free_at Hzx.out
                  have hly2 : v1.heap.size < v2.heap.size := by omega
                  have hlx2 : v1.heap.size + 1 < v2.heap.size := by omega
                  go_wp2_with fail
                  refine And.intro (by kernel_rfl) ?_
                  go_wp2_with fail
                  go_meet
                  exact end_oo EB.out (below2 HB1.out HB2.out HB1.out.size) Hzx.out Hzy.out (by omega) (by omega) (by omega) (HfrX.out.off (by omega)) (HfrY.out.off (by omega)) (HfrX.out.off (by omega)) (HfrY.out.off (by omega)) HatX.out HatY.out HX.out HY.out
          · skip
            refine And.intro ?_ ?_
            · skip
              go_wp2_with fail
              refine And.intro ?_ ?_
              · skip
                go_wp2_with fail
                refine (own_any A.l A.ia A.ta A.ic A.tc _ (E.out.aa.below ((Below.refl v0.heap.size v0).alloc (Nat.le_refl _) (.cells #[.int .u8 0, .int .i64 0, .int .u64 0, .int .u8 0, .int .u32 0, .int .u64 0, .string ⟨#[]⟩, .slice none 0 0, .slice none 0 0] 40)))).mono ?_
                intro e v1 hto
                obtain ⟨X, rfl, hX, hat, hfr, hbb⟩ := hto.lv
                have hb1 : Below v0.heap.size v0 v1 := below2 ((Below.refl v0.heap.size v0).alloc (Nat.le_refl _) (.cells #[.int .u8 0, .int .i64 0, .int .u64 0, .int .u8 0, .int .u32 0, .int .u64 0, .string ⟨#[]⟩, .slice none 0 0, .slice none 0 0] 40)) hbb ((Below.refl v0.heap.size v0).alloc (Nat.le_refl _) (.cells #[.int .u8 0, .int .i64 0, .int .u64 0, .int .u8 0, .int .u32 0, .int .u64 0, .string ⟨#[]⟩, .slice none 0 0, .slice none 0 0] 40)).size
                have HB1 := Lib.hid hb1
                simp only [World.size_alloc] at hfr
                have HX := Lib.hid hX
                have HatX := Lib.hid hat
                have HfrX := Lib.hid hfr
                have HBA1 := Lib.hid (hbb)
                have hzx : Zc v1 v0.heap.size := (new1 hbb).1
                have Hzx := Lib.hid hzx
                have E := Lib.hid (E.out.step hb1)
                have hs1 := hb1.size
                have hq1 : v0.heap.size + 1 ≤ v1.heap.size := (new1 hbb).2.1
                clear hto hX hat hfr hbb hb1 hzx d0 d1 d2
                have d0 := cells_at E.out.bl
                have d1 := cells_at E.out.ba
                have d2 := cells_at E.out.bb
                simp only [lcells] at d0 d1 d2
                have gx := cells_at Hzx.out
                have fx := free_at Hzx.out
                have hlx1 : v0.heap.size < v1.heap.size := by omega
                go_wp2_with fail
                refine And.intro (Agree.of_below HBA1.out) ?_
                refine And.intro ?_ ?_
                · skip
                  go_wp2_with fail
                  refine (own_any B.l B.ia B.ta B.ic B.tc _ (E.out.ab.below (Below.refl v1.heap.size v1))).mono ?_
                  intro e v2 hto
                  obtain ⟨Y, rfl, hY, hat, hfr, hbb⟩ := hto.lv
                  have hb2 : Below v1.heap.size v1 v2 := below2 (Below.refl v1.heap.size v1) hbb (Below.refl v1.heap.size v1).size
                  have HB2 := Lib.hid hb2
                  have HY := Lib.hid hY
                  have HatY := Lib.hid hat
                  have HfrY := Lib.hid hfr
                  have HBA2 := Lib.hid (hbb)
                  have Hzx := Lib.hid (Hzx.out.below hb2)
                  have HatX := Lib.hid (HatX.out.below hb2)
                  have E := Lib.hid (E.out.step hb2)
                  have hs2 := hb2.size
                  clear hto hY hat hfr hbb hb2  d0 d1 d2
                  have d0 := cells_at E.out.bl
                  have d1 := cells_at E.out.ba
                  have d2 := cells_at E.out.bb
                  simp only [lcells] at d0 d1 d2
                  have gx := cells_at Hzx.out
                  have fx := free_at Hzx.out
                  have hlx2 : v0.heap.size < v2.heap.size := by omega
                  go_wp2_with fail
                  refine And.intro (by kernel_rfl) ?_
                  go_wp2_with fail
                  go_meet
                  exact end_on EB.out (below2 HB1.out HB2.out HB1.out.size) Hzx.out (by omega) (HfrX.out.off (by omega)) (HfrY.out.off (by omega)) HatX.out HatY.out HX.out HY.out
                · skip
                  go_wp2_with fail
                  refine (own_any B.l B.ia B.ta B.ic B.tc _ (E.out.ab.below ((Below.refl v1.heap.size v1).alloc (Nat.le_refl _) (.cells #[.int .u8 0, .int .i64 0, .int .u64 0, .int .u8 0, .int .u32 0, .int .u64 0, .string ⟨#[]⟩, .slice none 0 0, .slice none 0 0] 40)))).mono ?_
                  intro e v2 hto
                  obtain ⟨Y, rfl, hY, hat, hfr, hbb⟩ := hto.lv
                  have hb2 : Below v1.heap.size v1 v2 := below2 ((Below.refl v1.heap.size v1).alloc (Nat.le_refl _) (.cells #[.int .u8 0, .int .i64 0, .int .u64 0, .int .u8 0, .int .u32 0, .int .u64 0, .string ⟨#[]⟩, .slice none 0 0, .slice none 0 0] 40)) hbb ((Below.refl v1.heap.size v1).alloc (Nat.le_refl _) (.cells #[.int .u8 0, .int .i64 0, .int .u64 0, .int .u8 0, .int .u32 0, .int .u64 0, .string ⟨#[]⟩, .slice none 0 0, .slice none 0 0] 40)).size
                  have HB2 := Lib.hid hb2
                  simp only [World.size_alloc] at hfr
                  have HY := Lib.hid hY
                  have HatY := Lib.hid hat
                  have HfrY := Lib.hid hfr
                  have HBA2 := Lib.hid (hbb)
                  have hzy : Zc v2 v1.heap.size := (new1 hbb).1
                  have Hzy := Lib.hid hzy
                  have Hzx := Lib.hid (Hzx.out.below hb2)
                  have HatX := Lib.hid (HatX.out.below hb2)
                  have E := Lib.hid (E.out.step hb2)
                  have hs2 := hb2.size
                  have hq2 : v1.heap.size + 1 ≤ v2.heap.size := (new1 hbb).2.1
                  clear hto hY hat hfr hbb hb2 hzy d0 d1 d2
                  have d0 := cells_at E.out.bl
                  have d1 := cells_at E.out.ba
                  have d2 := cells_at E.out.bb
                  simp only [lcells] at d0 d1 d2
                  have gx := cells_at Hzx.out
                  have fx := free_at Hzx.out
                  have gy := cells_at Hzy.out
                  have fy := free_at Hzy.out
                  have hlx2 : v0.heap.size < v2.heap.size := by omega
                  have hly2 : v1.heap.size < v2.heap.size := by omega
                  go_wp2_with fail
                  refine And.intro (by kernel_rfl) ?_
                  go_wp2_with fail
                  go_meet
                  exact end_oo EB.out (below2 HB1.out HB2.out HB1.out.size) Hzx.out Hzy.out (by omega) (by omega) (by omega) (HfrX.out.off (by omega)) (HfrY.out.off (by omega)) (HfrX.out.off (by omega)) (HfrY.out.off (by omega)) HatX.out HatY.out HX.out HY.out
              · skip
                go_wp2_with fail
                refine (own_any A.l A.ia A.ta A.ic A.tc _ (E.out.aa.below (((Below.refl v0.heap.size v0).alloc (Nat.le_refl _) (.cells #[.int .u8 0, .int .i64 0, .int .u64 0, .int .u8 0, .int .u32 0, .int .u64 0, .string ⟨#[]⟩, .slice none 0 0, .slice none 0 0] 40)).alloc (by simp) (.cells #[.int .u8 0, .int .i64 0, .int .u64 0, .int .u8 0, .int .u32 0, .int .u64 0, .string ⟨#[]⟩, .slice none 0 0, .slice none 0 0] 40)))).mono ?_
                intro e v1 hto
                obtain ⟨X, rfl, hX, hat, hfr, hbb⟩ := hto.lv
                have hb1 : Below v0.heap.size v0 v1 := below2 (((Below.refl v0.heap.size v0).alloc (Nat.le_refl _) (.cells #[.int .u8 0, .int .i64 0, .int .u64 0, .int .u8 0, .int .u32 0, .int .u64 0, .string ⟨#[]⟩, .slice none 0 0, .slice none 0 0] 40)).alloc (by simp) (.cells #[.int .u8 0, .int .i64 0, .int .u64 0, .int .u8 0, .int .u32 0, .int .u64 0, .string ⟨#[]⟩, .slice none 0 0, .slice none 0 0] 40)) hbb (((Below.refl v0.heap.size v0).alloc (Nat.le_refl _) (.cells #[.int .u8 0, .int .i64 0, .int .u64 0, .int .u8 0, .int .u32 0, .int .u64 0, .string ⟨#[]⟩, .slice none 0 0, .slice none 0 0] 40)).alloc (by simp) (.cells #[.int .u8 0, .int .i64 0, .int .u64 0, .int .u8 0, .int .u32 0, .int .u64 0, .string ⟨#[]⟩, .slice none 0 0, .slice none 0 0] 40)).size
                have HB1 := Lib.hid hb1
                simp only [World.size_alloc] at hfr
                have HX := Lib.hid hX
                have HatX := Lib.hid hat
                have HfrX := Lib.hid hfr
                have HBA1 := Lib.hid (hbb)
                have hzx : Zc v1 v0.heap.size := (new2 hbb).1
                have Hzx := Lib.hid hzx
                have hzy : Zc v1 (v0.heap.size + 1) := (new2 hbb).2.1
                have Hzy := Lib.hid hzy
                have E := Lib.hid (E.out.step hb1)
                have hs1 := hb1.size
                have hq1 : v0.heap.size + 2 ≤ v1.heap.size := (new2 hbb).2.2.1
                clear hto hX hat hfr hbb hb1 hzx hzy d0 d1 d2
                have d0 := cells_at E.out.bl
                have d1 := cells_at E.out.ba
                have d2 := cells_at E.out.bb
                simp only [lcells] at d0 d1 d2
                have gx := cells_at Hzx.out
                have fx := free_at Hzx.out
                have gy := cells_at Hzy.out
                have fy := free_at Hzy.out
                have hlx1 : v0.heap.size < v1.heap.size := by omega
                have hly1 : v0.heap.size + 1 < v1.heap.size := by omega
                go_wp2_with fail
                refine And.intro (Agree.of_below HBA1.out) ?_
                go_wp2_with fail
                refine (own_any B.l B.ia B.ta B.ic B.tc _ (E.out.ab.below (Below.refl v1.heap.size v1))).mono ?_
                intro e v2 hto
                obtain ⟨Y, rfl, hY, hat, hfr, hbb⟩ := hto.lv
                have hb2 : Below v1.heap.size v1 v2 := below2 (Below.refl v1.heap.size v1) hbb (Below.refl v1.heap.size v1).size
                have HB2 := Lib.hid hb2
                have HY := Lib.hid hY
                have HatY := Lib.hid hat
                have HfrY := Lib.hid hfr
                have HBA2 := Lib.hid (hbb)
                have Hzx := Lib.hid (Hzx.out.below hb2)
                have Hzy := Lib.hid (Hzy.out.below hb2)
                have HatX := Lib.hid (HatX.out.below hb2)
                have E := Lib.hid (E.out.step hb2)
                have hs2 := hb2.size
                clear hto hY hat hfr hbb hb2  d0 d1 d2
                have d0 := cells_at E.out.bl
                have d1 := cells_at E.out.ba
                have d2 := cells_at E.out.bb
                simp only [lcells] at d0 d1 d2
                have gx := cells_at Hzx.out
                have fx := free_at Hzx.out
                have gy := cells_at Hzy.out
                have fy := free_at Hzy.out
                have hlx2 : v0.heap.size < v2.heap.size := by omega
                have hly2 : v0.heap.size + 1 < v2.heap.size := by omega
                go_wp2_with fail
                refine And.intro (by kernel_rfl) ?_
                go_wp2_with fail
                go_meet
                exact end_oo EB.out (below2 HB1.out HB2.out HB1.out.size) Hzx.out Hzy.out (by omega) (by omega) (by omega) (HfrX.out.off (by omega)) (HfrY.out.off (by omega)) (HfrX.out.off (by omega)) (HfrY.out.off (by omega)) HatX.out HatY.out HX.out HY.out
            · skip
              go_wp2_with fail
              refine And.intro ?_ ?_
              · skip
                go_wp2_with fail
                refine (own_any A.l A.ia A.ta A.ic A.tc _ (E.out.aa.below ((Below.refl v0.heap.size v0).alloc (Nat.le_refl _) (.cells #[.int .u8 0, .int .i64 0, .int .u64 0, .int .u8 0, .int .u32 0, .int .u64 0, .string ⟨#[]⟩, .slice none 0 0, .slice none 0 0] 40)))).mono ?_
                intro e v1 hto
                obtain ⟨X, rfl, hX, hat, hfr, hbb⟩ := hto.lv
                have hb1 : Below v0.heap.size v0 v1 := below2 ((Below.refl v0.heap.size v0).alloc (Nat.le_refl _) (.cells #[.int .u8 0, .int .i64 0, .int .u64 0, .int .u8 0, .int .u32 0, .int .u64 0, .string ⟨#[]⟩, .slice none 0 0, .slice none 0 0] 40)) hbb ((Below.refl v0.heap.size v0).alloc (Nat.le_refl _) (.cells #[.int .u8 0, .int .i64 0, .int .u64 0, .int .u8 0, .int .u32 0, .int .u64 0, .string ⟨#[]⟩, .slice none 0 0, .slice none 0 0] 40)).size
                have HB1 := Lib.hid hb1
                simp only [World.size_alloc] at hfr
                have HX := Lib.hid hX
                have HatX := Lib.hid hat
                have HfrX := Lib.hid hfr
                have HBA1 := Lib.hid (hbb)
                have hzy : Zc v1 v0.heap.size := (new1 hbb).1
                have Hzy := Lib.hid hzy
                have E := Lib.hid (E.out.step hb1)
                have hs1 := hb1.size
                have hq1 : v0.heap.size + 1 ≤ v1.heap.size := (new1 hbb).2.1
                clear hto hX hat hfr hbb hb1 hzy d0 d1 d2
                have d0 := cells_at E.out.bl
                have d1 := cells_at E.out.ba
                have d2 := cells_at E.out.bb
                simp only [lcells] at d0 d1 d2
                have gy := cells_at Hzy.out
                have fy := free_at Hzy.out
                have hly1 : v0.heap.size < v1.heap.size := by omega
                go_wp2_with fail
                refine And.intro (Agree.of_below HBA1.out) ?_
                refine And.intro ?_ ?_
                · skip
                  go_wp2_with fail
                  refine (own_any B.l B.ia B.ta B.ic B.tc _ (E.out.ab.below (Below.refl v1.heap.size v1))).mono ?_
                  intro e v2 hto
                  obtain ⟨Y, rfl, hY, hat, hfr, hbb⟩ := hto.lv
                  have hb2 : Below v1.heap.size v1 v2 := below2 (Below.refl v1.heap.size v1) hbb (Below.refl v1.heap.size v1).size
                  have HB2 := Lib.hid hb2
                  have HY := Lib.hid hY
                  have HatY := Lib.hid hat
                  have HfrY := Lib.hid hfr
                  have HBA2 := Lib.hid (hbb)
                  have Hzy := Lib.hid (Hzy.out.below hb2)
                  have HatX := Lib.hid (HatX.out.below hb2)
                  have E := Lib.hid (E.out.step hb2)
                  have hs2 := hb2.size
                  clear hto hY hat hfr hbb hb2  d0 d1 d2
                  have d0 := cells_at E.out.bl
                  have d1 := cells_at E.out.ba
                  have d2 := cells_at E.out.bb
                  simp only [lcells] at d0 d1 d2
                  have gy := cells_at Hzy.out
                  have fy := free_at Hzy.out
                  have hly2 : v0.heap.size < v2.heap.size := by omega
                  go_wp2_with fail
                  refine And.intro (by kernel_rfl) ?_
                  go_wp2_with fail
                  go_meet
                  exact end_no EB.out (below2 HB1.out HB2.out HB1.out.size) Hzy.out (by omega) (HfrX.out.off (by omega)) (HfrY.out.off (by omega)) HatX.out HatY.out HX.out HY.out
                · skip
                  go_wp2_with fail
                  refine (own_any B.l B.ia B.ta B.ic B.tc _ (E.out.ab.below ((Below.refl v1.heap.size v1).alloc (Nat.le_refl _) (.cells #[.int .u8 0, .int .i64 0, .int .u64 0, .int .u8 0, .int .u32 0, .int .u64 0, .string ⟨#[]⟩, .slice none 0 0, .slice none 0 0] 40)))).mono ?_
                  intro e v2 hto
                  obtain ⟨Y, rfl, hY, hat, hfr, hbb⟩ := hto.lv
                  have hb2 : Below v1.heap.size v1 v2 := below2 ((Below.refl v1.heap.size v1).alloc (Nat.le_refl _) (.cells #[.int .u8 0, .int .i64 0, .int .u64 0, .int .u8 0, .int .u32 0, .int .u64 0, .string ⟨#[]⟩, .slice none 0 0, .slice none 0 0] 40)) hbb ((Below.refl v1.heap.size v1).alloc (Nat.le_refl _) (.cells #[.int .u8 0, .int .i64 0, .int .u64 0, .int .u8 0, .int .u32 0, .int .u64 0, .string ⟨#[]⟩, .slice none 0 0, .slice none 0 0] 40)).size
                  have HB2 := Lib.hid hb2
                  simp only [World.size_alloc] at hfr
                  have HY := Lib.hid hY
                  have HatY := Lib.hid hat
                  have HfrY := Lib.hid hfr
                  have HBA2 := Lib.hid (hbb)
                  have hzx : Zc v2 v1.heap.size := (new1 hbb).1
                  have Hzx := Lib.hid hzx
                  have Hzy := Lib.hid (Hzy.out.below hb2)
                  have HatX := Lib.hid (HatX.out.below hb2)
                  have E := Lib.hid (E.out.step hb2)
                  have hs2 := hb2.size
                  have hq2 : v1.heap.size + 1 ≤ v2.heap.size := (new1 hbb).2.1
                  clear hto hY hat hfr hbb hb2 hzx d0 d1 d2
                  have d0 := cells_at E.out.bl
                  have d1 := cells_at E.out.ba
                  have d2 := cells_at E.out.bb
                  simp only [lcells] at d0 d1 d2
                  have gy := cells_at Hzy.out
                  have fy := free_at Hzy.out
                  have gx := cells_at Hzx.out
                  have fx := free_at Hzx.out
                  have hly2 : v0.heap.size < v2.heap.size := by omega
                  have hlx2 : v1.heap.size < v2.heap.size := by omega
                  go_wp2_with fail
                  refine And.intro (by kernel_rfl) ?_
                  go_wp2_with fail
                  go_meet
                  exact end_oo EB.out (below2 HB1.out HB2.out HB1.out.size) Hzx.out Hzy.out (by omega) (by omega) (by omega) (HfrX.out.off (by omega)) (HfrY.out.off (by omega)) (HfrX.out.off (by omega)) (HfrY.out.off (by omega)) HatX.out HatY.out HX.out HY.out
              · skip
                go_wp2_with fail
                refine (own_any A.l A.ia A.ta A.ic A.tc _ (E.out.aa.below (((Below.refl v0.heap.size v0).alloc (Nat.le_refl _) (.cells #[.int .u8 0, .int .i64 0, .int .u64 0, .int .u8 0, .int .u32 0, .int .u64 0, .string ⟨#[]⟩, .slice none 0 0, .slice none 0 0] 40)).alloc (by simp) (.cells #[.int .u8 0, .int .i64 0, .int .u64 0, .int .u8 0, .int .u32 0, .int .u64 0, .string ⟨#[]⟩, .slice none 0 0, .slice none 0 0] 40)))).mono ?_
                intro e v1 hto
                obtain ⟨X, rfl, hX, hat, hfr, hbb⟩ := hto.lv
                have hb1 : Below v0.heap.size v0 v1 := below2 (((Below.refl v0.heap.size v0).alloc (Nat.le_refl _) (.cells #[.int .u8 0, .int .i64 0, .int .u64 0, .int .u8 0, .int .u32 0, .int .u64 0, .string ⟨#[]⟩, .slice none 0 0, .slice none 0 0] 40)).alloc (by simp) (.cells #[.int .u8 0, .int .i64 0, .int .u64 0, .int .u8 0, .int .u32 0, .int .u64 0, .string ⟨#[]⟩, .slice none 0 0, .slice none 0 0] 40)) hbb (((Below.refl v0.heap.size v0).alloc (Nat.le_refl _) (.cells #[.int .u8 0, .int .i64 0, .int .u64 0, .int .u8 0, .int .u32 0, .int .u64 0, .string ⟨#[]⟩, .slice none 0 0, .slice none 0 0] 40)).alloc (by simp) (.cells #[.int .u8 0, .int .i64 0, .int .u64 0, .int .u8 0, .int .u32 0, .int .u64 0, .string ⟨#[]⟩, .slice none 0 0, .slice none 0 0] 40)).size
                have HB1 := Lib.hid hb1
                simp only [World.size_alloc] at hfr
                have HX := Lib.hid hX
                have HatX := Lib.hid hat
                have HfrX := Lib.hid hfr
                have HBA1 := Lib.hid (hbb)
                have hzy : Zc v1 v0.heap.size := (new2 hbb).1
                have Hzy := Lib.hid hzy
                have hzx : Zc v1 (v0.heap.size + 1) := (new2 hbb).2.1
                have Hzx := Lib.hid hzx
                have E := Lib.hid (E.out.step hb1)
                have hs1 := hb1.size
                have hq1 : v0.heap.size + 2 ≤ v1.heap.size := (new2 hbb).2.2.1
                clear hto hX hat hfr hbb hb1 hzy hzx d0 d1 d2
                have d0 := cells_at E.out.bl
                have d1 := cells_at E.out.ba
                have d2 := cells_at E.out.bb
                simp only [lcells] at d0 d1 d2
                have gy := cells_at Hzy.out
                have fy := free_at Hzy.out
                have gx := cells_at Hzx.out
                have fx := free_at Hzx.out
                have hly1 : v0.heap.size < v1.heap.size := by omega
                have hlx1 : v0.heap.size + 1 < v1.heap.size := by omega
                go_wp2_with fail
                refine And.intro (Agree.of_below HBA1.out) ?_
                go_wp2_with fail
                refine (own_any B.l B.ia B.ta B.ic B.tc _ (E.out.ab.below (Below.refl v1.heap.size v1))).mono ?_
                intro e v2 hto
                obtain ⟨Y, rfl, hY, hat, hfr, hbb⟩ := hto.lv
                have hb2 : Below v1.heap.size v1 v2 := below2 (Below.refl v1.heap.size v1) hbb (Below.refl v1.heap.size v1).size
                have HB2 := Lib.hid hb2
                have HY := Lib.hid hY
                have HatY := Lib.hid hat
                have HfrY := Lib.hid hfr
                have HBA2 := Lib.hid (hbb)
                have Hzy := Lib.hid (Hzy.out.below hb2)
                have Hzx := Lib.hid (Hzx.out.below hb2)
                have HatX := Lib.hid (HatX.out.below hb2)
                have E := Lib.hid (E.out.step hb2)
                have hs2 := hb2.size
                clear hto hY hat hfr hbb hb2  d0 d1 d2
                have d0 := cells_at E.out.bl
                have d1 := cells_at E.out.ba
                have d2 := cells_at E.out.bb
                simp only [lcells] at d0 d1 d2
                have gy := cells_at Hzy.out
                have fy := free_at Hzy.out
                have gx := cells_at Hzx.out
                have fx := free_at Hzx.out
                have hly2 : v0.heap.size < v2.heap.size := by omega
                have hlx2 : v0.heap.size + 1 < v2.heap.size := by omega
                go_wp2_with fail
                refine And.intro (by kernel_rfl) ?_
                go_wp2_with fail
                go_meet
                exact end_oo EB.out (below2 HB1.out HB2.out HB1.out.size) Hzx.out Hzy.out (by omega) (by omega) (by omega) (HfrX.out.off (by omega)) (HfrY.out.off (by omega)) (HfrX.out.off (by omega)) (HfrY.out.off (by omega)) HatX.out HatY.out HX.out HY.out
        case rest =>
          obtain ⟨wa, hwa⟩ : ∃ wa, wa = wc := ⟨_, rfl⟩
          subst hwa
          obtain ⟨X, Y, px, py, rfl, rfl, hE1⟩ := hcut
          have HX := Lib.hid hE1.hx
          have HY := Lib.hid hE1.hy
          have E := Lib.hid hE1
          clear hE1 d0 d1 d2
          have HoX := Lib.hid (show okL X.l by rw [HX.out]; exact HA.out.ok)
          have HoY := Lib.hid (show okL Y.l by rw [HY.out]; exact HB.out.ok)
          have d0 := cells_at E.out.e.bl
          have d1 := cells_at E.out.e.ba
          have d2 := cells_at E.out.e.bb
          have d3 := cells_at E.out.bx
          have d4 := cells_at E.out.bY
          simp only [lcells] at d0 d1 d2 d3 d4
          have hp1 := E.out.bx.lt
          have hp2 := E.out.bY.lt
          have hp3 := E.out.e.sz
          go_upto_region 4 with (fail)
          go_cut [9, 10] (fun vm ve wx => MTo w wa wx L A B X Y px py vm ve)
          case first =>
            refine region_many (.seg [0, 2, 3] false (.fork (.seg [1] true (.fork (.seg [4, 5, 6, 7, 8, 9, 10] false .done) (.seg [8, 4, 5, 6, 7, 9, 10] false .done))) (.seg [8] false (.seg [1] true (.seg [4, 5, 6, 7, 9, 10] false .done))))) mixed (by kernel_rfl) ?_
            have hv0 : Below wa.heap.size wa wa.drew := (Below.refl _ _).drew
            have Ed := Lib.hid (E.out.step hv0)
            have Hv0 := Lib.hid hv0
            have hz0 : wa.heap.size = wa.drew.heap.size := rfl
            clear hv0 d0 d1 d2 d3 d4
            simp only [wpSg, List.map_cons, List.map_nil, List.getD_cons_succ, List.getD_cons_zero]
            generalize wa.drew = v0 at *
            have d0 := cells_at Ed.out.e.bl
            have d3 := cells_at Ed.out.bx
            have d4 := cells_at Ed.out.bY
            simp only [lcells] at d0 d3 d4
            go_wp2_with fail
            refine And.intro ?_ ?_
            · skip
              go_wp2_with fail
              refine (own_any L.l L.ia L.ta L.ic L.tc _ (Ed.out.e.al.below (Below.refl v0.heap.size v0))).mono ?_
              intro e v1 hto
              obtain ⟨N, rfl, hN, hat, hfr, hbb⟩ := hto.lv
              have hb1 : Below v0.heap.size v0 v1 := hbb
              have HAg := Lib.hid (Agree.of_below hbb)
              have HN := Lib.hid hN
              have HoN := Lib.hid (show okL N.l by rw [hN]; exact HL.out.ok)
              have HatN := Lib.hid hat
              have Eo := Lib.hid (Ed.out.step hb1)
              have hs1 := hb1.size
              have HB1 := Lib.hid (below2 Hv0.out hb1 (by have := hz0; omega))
              clear hto hN hat hfr hbb hb1 d0 d3 d4
              have d0 := cells_at Eo.out.e.bl
              have d3 := cells_at Eo.out.bx
              have d4 := cells_at Eo.out.bY
              simp only [lcells] at d0 d3 d4
              go_wp2_with fail
              refine And.intro HAg.out ?_
              clear HAg
              refine And.intro ?_ ?_
              · skip
                go_wp2_with fail
                refine (merge_any N.l X.l Y.l N.ia N.ta X.ia X.ta Y.ia Y.ta N.ic N.tc X.ic X.tc Y.ic Y.tc _ (HatN.out.below (Below.refl v1.heap.size v1)) (Eo.out.ax.below (Below.refl v1.heap.size v1)) (Eo.out.aY.below (Below.refl v1.heap.size v1)) HoN.out HoX.out HoY.out (by rw [HX.out]; have := Hna.out.1; omega) (by rw [HY.out]; have := Hnb.out.1; omega) (by rw [HX.out]; have := Hna.out.2; omega) (by rw [HY.out]; have := Hnb.out.2; omega)).mono ?_
                intro e v2 hto
                obtain ⟨M, code, rfl, hr, rd, ow, hbb⟩ := hto.lv
                rw [HN.out, HX.out, HY.out] at hr
                have Hr := Lib.hid hr
                have Hrd := Lib.hid rd
                have How := Lib.hid ow
                have Hbb := Lib.hid hbb
                have hs2 := hbb.size
                clear hto hr rd ow hbb
                go_wp2_with fail
                refine And.intro (by kernel_rfl) ?_
                go_wp2_with fail
                go_meet
                exact m_new E.out HB1.out Hr.out Hrd.out How.out Hbb.out
              · skip
                go_wp2_with fail
                refine (merge_any N.l X.l Y.l N.ia N.ta X.ia X.ta Y.ia Y.ta N.ic N.tc X.ic X.tc Y.ic Y.tc _ (HatN.out.below ((Below.refl v1.heap.size v1).alloc (Nat.le_refl _) (.cells #[.int .u8 0, .int .i64 0, .int .u64 0, .int .u8 0, .int .u32 0, .int .u64 0, .string ⟨#[]⟩, .slice none 0 0, .slice none 0 0] 40))) (Eo.out.ax.below ((Below.refl v1.heap.size v1).alloc (Nat.le_refl _) (.cells #[.int .u8 0, .int .i64 0, .int .u64 0, .int .u8 0, .int .u32 0, .int .u64 0, .string ⟨#[]⟩, .slice none 0 0, .slice none 0 0] 40))) (Eo.out.aY.below ((Below.refl v1.heap.size v1).alloc (Nat.le_refl _) (.cells #[.int .u8 0, .int .i64 0, .int .u64 0, .int .u8 0, .int .u32 0, .int .u64 0, .string ⟨#[]⟩, .slice none 0 0, .slice none 0 0] 40))) HoN.out HoX.out HoY.out (by rw [HX.out]; have := Hna.out.1; omega) (by rw [HY.out]; have := Hnb.out.1; omega) (by rw [HX.out]; have := Hna.out.2; omega) (by rw [HY.out]; have := Hnb.out.2; omega)).mono ?_
                intro e v2 hto
                obtain ⟨M, code, rfl, hr, rd, ow, hbb⟩ := hto.lv
                rw [HN.out, HX.out, HY.out] at hr
                have Hr := Lib.hid hr
                have Hrd := Lib.hid rd
                have How := Lib.hid ow
                have Hbb := Lib.hid hbb
                have hs2 := hbb.size
                have hzm : Zc v2 v1.heap.size := (new1 hbb).1
                have Hzm := Lib.hid hzm
                have gm := cells_at hzm
                have fm := free_at hzm
                have hlm : v1.heap.size < v2.heap.size := (new1 hbb).2.1
                simp only [World.size_alloc] at hs2
                clear hto hr rd ow hbb hzm
                go_wp2_with fail
                refine And.intro (by kernel_rfl) ?_
                go_wp2_with fail
                go_meet
                exact m_old E.out (below2 HB1.out ((Below.refl v1.heap.size v1).alloc (Nat.le_refl _) (.cells #[.int .u8 0, .int .i64 0, .int .u64 0, .int .u8 0, .int .u32 0, .int .u64 0, .string ⟨#[]⟩, .slice none 0 0, .slice none 0 0] 40)) HB1.out.size) Hr.out Hrd.out How.out Hbb.out Hzm.out (by omega) (by simp)
            · skip
              go_wp2_with fail
              refine (own_any L.l L.ia L.ta L.ic L.tc _ (Ed.out.e.al.below ((Below.refl v0.heap.size v0).alloc (Nat.le_refl _) (.cells #[.int .u8 0, .int .i64 0, .int .u64 0, .int .u8 0, .int .u32 0, .int .u64 0, .string ⟨#[]⟩, .slice none 0 0, .slice none 0 0] 40)))).mono ?_
              intro e v1 hto
              obtain ⟨N, rfl, hN, hat, hfr, hbb⟩ := hto.lv
              have hb1 : Below v0.heap.size v0 v1 := below2 ((Below.refl v0.heap.size v0).alloc (Nat.le_refl _) (.cells #[.int .u8 0, .int .i64 0, .int .u64 0, .int .u8 0, .int .u32 0, .int .u64 0, .string ⟨#[]⟩, .slice none 0 0, .slice none 0 0] 40)) hbb ((Below.refl v0.heap.size v0).alloc (Nat.le_refl _) (.cells #[.int .u8 0, .int .i64 0, .int .u64 0, .int .u8 0, .int .u32 0, .int .u64 0, .string ⟨#[]⟩, .slice none 0 0, .slice none 0 0] 40)).size
              have HAg := Lib.hid (Agree.of_below hbb)
              have HN := Lib.hid hN
              have HoN := Lib.hid (show okL N.l by rw [hN]; exact HL.out.ok)
              have HatN := Lib.hid hat
              have Eo := Lib.hid (Ed.out.step hb1)
              have hs1 := hb1.size
              have hzc : Zc v1 v0.heap.size := (new1 hbb).1
              have Hzc := Lib.hid hzc
              have hq1 : v0.heap.size + 1 ≤ v1.heap.size := (new1 hbb).2.1
              have gz := cells_at hzc
              have fz := free_at hzc
              have hlz : v0.heap.size < v1.heap.size := by omega
              have HB1 := Lib.hid (below2 Hv0.out hb1 (by have := hz0; omega))
              clear hto hN hat hfr hbb hb1 d0 d3 d4 hzc
              have d0 := cells_at Eo.out.e.bl
              have d3 := cells_at Eo.out.bx
              have d4 := cells_at Eo.out.bY
              simp only [lcells] at d0 d3 d4
              go_wp2_with fail
              refine And.intro HAg.out ?_
              clear HAg
              go_wp2_with fail
              refine (merge_any N.l X.l Y.l N.ia N.ta X.ia X.ta Y.ia Y.ta N.ic N.tc X.ic X.tc Y.ic Y.tc _ (HatN.out.below (Below.refl v1.heap.size v1)) (Eo.out.ax.below (Below.refl v1.heap.size v1)) (Eo.out.aY.below (Below.refl v1.heap.size v1)) HoN.out HoX.out HoY.out (by rw [HX.out]; have := Hna.out.1; omega) (by rw [HY.out]; have := Hnb.out.1; omega) (by rw [HX.out]; have := Hna.out.2; omega) (by rw [HY.out]; have := Hnb.out.2; omega)).mono ?_
              intro e v2 hto
              obtain ⟨M, code, rfl, hr, rd, ow, hbb⟩ := hto.lv
              rw [HN.out, HX.out, HY.out] at hr
              have Hr := Lib.hid hr
              have Hrd := Lib.hid rd
              have How := Lib.hid ow
              have Hbb := Lib.hid hbb
              have hs2 := hbb.size
              have hzm : Zc v2 v0.heap.size := Hzc.out.below hbb
              have Hzm := Lib.hid hzm
              have gm := cells_at hzm
              have fm := free_at hzm
              have hlm : v0.heap.size < v2.heap.size := by omega
              clear hto hr rd ow hbb hzm
              go_wp2_with fail
              refine And.intro (by kernel_rfl) ?_
              go_wp2_with fail
              go_meet
              exact m_old E.out HB1.out Hr.out Hrd.out How.out Hbb.out Hzm.out (by omega) (by omega)
          case rest =>
            obtain ⟨M, pm, code, rfl, rfl, hr, hE2⟩ := hcut
            have Hr := Lib.hid hr
            have E2 := Lib.hid hE2
            clear hr hE2 d0 d1 d2 d3 d4 E hp1 hp2 hp3
            have d0 := cells_at E2.out.e1.e.bl
            have d1 := cells_at E2.out.e1.e.ba
            have d2 := cells_at E2.out.e1.e.bb
            have d3 := cells_at E2.out.e1.bx
            have d4 := cells_at E2.out.e1.bY
            have d5 := cells_at E2.out.bm
            simp only [lcells] at d0 d1 d2 d3 d4 d5
            have hp0 := E2.out.e1.e.sz
            have hpa := Nat.lt_of_lt_of_le (show w.heap.size < w.heap.size + 3 by omega) hp0
            have hpb := Nat.lt_of_lt_of_le (show w.heap.size + 1 < w.heap.size + 3 by omega) hp0
            have hpc := Nat.lt_of_lt_of_le (show w.heap.size + 1 + 1 < w.heap.size + 3 by omega) hp0
            have hp1 := E2.out.e1.bx.lt
            have hp2 := E2.out.e1.bY.lt
            have hp3 := E2.out.bm.lt
            go_wp2_with fail
            refine (rmerge_any L.l A.l B.l L.ia L.ta A.ia A.ta B.ia B.ta L.ic L.tc A.ic A.tc B.ic B.tc _ E2.out.e1.e.al E2.out.e1.e.aa E2.out.e1.e.ab HL.out.ok HA.out.ok HB.out.ok (by have := Hna.out.1; omega) (by have := Hnb.out.1; omega) (by have := Hna.out.2; omega) (by have := Hnb.out.2; omega)).mono ?_
            intro e w5 hto
            obtain ⟨N, c2, rfl, hr2, an, hb5⟩ := hto.lv
            obtain ⟨hcc, hNM⟩ := hr2.uniq Hr.out
            subst hcc
            have HNM := Lib.hid hNM
            have E5 := Lib.hid (E2.out.step hb5)
            have Han := Lib.hid an
            clear hto hr2 hNM an hb5 E2 d0 d1 d2 d3 d4 d5 hp0 hpa hpb hpc hp1 hp2 hp3
            have d0 := cells_at E5.out.e1.e.bl
            have d1 := cells_at E5.out.e1.e.ba
            have d2 := cells_at E5.out.e1.e.bb
            have d3 := cells_at E5.out.e1.bx
            have d4 := cells_at E5.out.e1.bY
            have d5 := cells_at E5.out.bm
            simp only [lcells] at d0 d1 d2 d3 d4 d5
            have hp0 := E5.out.e1.e.sz
            have hpa := Nat.lt_of_lt_of_le (show w.heap.size < w.heap.size + 3 by omega) hp0
            have hpb := Nat.lt_of_lt_of_le (show w.heap.size + 1 < w.heap.size + 3 by omega) hp0
            have hpc := Nat.lt_of_lt_of_le (show w.heap.size + 1 + 1 < w.heap.size + 3 by omega) hp0
            have hp1 := E5.out.e1.bx.lt
            have hp2 := E5.out.e1.bY.lt
            have hp3 := E5.out.bm.lt
            go_wp2_with fail
            refine (purge_any X.l X.ia X.ta X.ic X.tc _ (E5.out.e1.ax.below ((Below.refl w5.heap.size w5).alloc (Nat.le_refl _) _)) HoX.out).mono ?_
            intro e w6 hto
            obtain ⟨P, g, rfl, hp, ap, op, hb6⟩ := hto.lv
            have hn5 : LvBlk (aL w5 N) w5.heap.size N := heap_new _ _
            have hE6 := E5.out.step (below2 ((Below.refl w5.heap.size w5).alloc (Nat.le_refl _) (.cells (lcells N.l N.ia N.ic N.ta N.tc) 40)) hb6 ((Below.refl w5.heap.size w5).alloc (Nat.le_refl _) _).size)
            have Hp := Lib.hid hp
            have Hap := Lib.hid ap
            have Hop := Lib.hid op
            have HB6 := Lib.hid hb6
            have E6 := Lib.hid hE6
            have hn6 := hn5.below hb6
            have dn := cells_at hn6
            simp only [lcells] at dn
            have hln := hn6.lt
            have Hn6 := Lib.hid hn6
            clear hto hp ap op hb6 hn5 hn6 hE6 d0 d1 d2 d3 d4 d5 hp0 hpa hpb hpc hp1 hp2 hp3
            have d0 := cells_at E6.out.e1.e.bl
            have d1 := cells_at E6.out.e1.e.ba
            have d2 := cells_at E6.out.e1.e.bb
            have d3 := cells_at E6.out.e1.bx
            have d4 := cells_at E6.out.e1.bY
            have d5 := cells_at E6.out.bm
            simp only [lcells] at d0 d1 d2 d3 d4 d5
            have hp0 := E6.out.e1.e.sz
            have hpa := Nat.lt_of_lt_of_le (show w.heap.size < w.heap.size + 3 by omega) hp0
            have hpb := Nat.lt_of_lt_of_le (show w.heap.size + 1 < w.heap.size + 3 by omega) hp0
            have hpc := Nat.lt_of_lt_of_le (show w.heap.size + 1 + 1 < w.heap.size + 3 by omega) hp0
            have hp1 := E6.out.e1.bx.lt
            have hp2 := E6.out.e1.bY.lt
            have hp3 := E6.out.bm.lt
            go_wp2_with fail
            refine (rpurge_any A.l A.ia A.ta A.ic A.tc _ (E6.out.e1.e.aa.below ((Below.refl w6.heap.size w6).alloc (Nat.le_refl _) _)) HA.out.ok).mono ?_
            intro e w7 hto
            obtain ⟨R, h, rfl, hq, ar, hb7⟩ := hto.lv
            obtain ⟨hgh, hPR⟩ := hq.uniq (HX.out ▸ Hp.out)
            subst hgh
            have HPR := Lib.hid hPR
            have k6 : Below w6.heap.size w6 w7 := below2 ((Below.refl w6.heap.size w6).alloc (Nat.le_refl _) (.cells (lcells P.l P.ia P.ic P.ta P.tc) 40)) hb7 ((Below.refl w6.heap.size w6).alloc (Nat.le_refl _) _).size
            have hE7 := E6.out.step k6
            have hn7 := Hn6.out.below k6
            have hp6 : LvBlk (aL w6 P) w6.heap.size P := heap_new _ _
            have hp7 := hp6.below hb7
            have E7 := Lib.hid hE7
            have T := Lib.hid (T3.of E5.out Han.out Hap.out Hop.out HB6.out ar hb7)
            clear hto hq hPR ar hb7 E5 E6 Han Hap Hop HB6 dn hln Hn6 hE7 k6 hp6 d0 d1 d2 d3 d4 d5 hp0 hpa hpb hpc hp1 hp2 hp3
            have dn := cells_at hn7
            have dp := cells_at hp7
            simp only [lcells] at dn dp
            have hln := hn7.lt
            have hlp := hp7.lt
            clear hn7 hp7
            have d0 := cells_at E7.out.e1.e.bl
            have d1 := cells_at E7.out.e1.e.ba
            have d2 := cells_at E7.out.e1.e.bb
            have d3 := cells_at E7.out.e1.bx
            have d4 := cells_at E7.out.e1.bY
            have d5 := cells_at E7.out.bm
            simp only [lcells] at d0 d1 d2 d3 d4 d5
            have hp0 := E7.out.e1.e.sz
            have hpa := Nat.lt_of_lt_of_le (show w.heap.size < w.heap.size + 3 by omega) hp0
            have hpb := Nat.lt_of_lt_of_le (show w.heap.size + 1 < w.heap.size + 3 by omega) hp0
            have hpc := Nat.lt_of_lt_of_le (show w.heap.size + 1 + 1 < w.heap.size + 3 by omega) hp0
            have hp1 := E7.out.e1.bx.lt
            have hp2 := E7.out.e1.bY.lt
            have hp3 := E7.out.bm.lt
            go_wp2_with fail
            refine (rsameL_any M.l N.l M.ia M.ta N.ia N.ta M.ic M.tc N.ic N.tc _ T.out.e2.rd T.out.an).mono ?_
            rintro e w8 ⟨q, rfl, hq, hb8⟩
            obtain rfl : q = true := hq.2 HNM.out.symm
            replace T := Lib.hid (T.out.step hb8)
            clear hq hb8 E7 dn dp hln hlp d0 d1 d2 d3 d4 d5 hp0 hpa hpb hpc hp1 hp2 hp3
            have d0 := cells_at T.out.e2.e1.e.bl
            have d1 := cells_at T.out.e2.e1.e.ba
            have d2 := cells_at T.out.e2.e1.e.bb
            have d3 := cells_at T.out.e2.e1.bx
            have d4 := cells_at T.out.e2.e1.bY
            have d5 := cells_at T.out.e2.bm
            have dn := cells_at T.out.bn
            have dp := cells_at T.out.bp
            have dr := cells_at T.out.br
            simp only [lcells] at d0 d1 d2 d3 d4 d5 dn dp dr
            go_wp2_with fail
            refine (rsameL_any P.l R.l P.ia P.ta R.ia R.ta P.ic P.tc R.ic R.tc _ T.out.ap T.out.ar).mono ?_
            rintro e w9 ⟨q, rfl, hq, hb9⟩
            obtain rfl : q = true := hq.2 HPR.out.symm
            replace T := Lib.hid (T.out.step hb9)
            clear hq hb9 d0 d1 d2 d3 d4 d5 dn dp dr
            have hMl : M.l.items.length ≤ 1000000 := T.out.e2.rd.li
            have hMt : M.l.tombs.length ≤ 1000000 := T.out.e2.rd.lt
            have hPl : P.l.items.length ≤ 1000000 := T.out.ap.li
            have d0 := cells_at T.out.e2.e1.e.bl
            have d1 := cells_at T.out.e2.e1.e.ba
            have d2 := cells_at T.out.e2.e1.e.bb
            have d3 := cells_at T.out.e2.e1.bx
            have d4 := cells_at T.out.e2.e1.bY
            have d5 := cells_at T.out.e2.bm
            have dn := cells_at T.out.bn
            have dp := cells_at T.out.bp
            have dr := cells_at T.out.br
            simp only [lcells] at d0 d1 d2 d3 d4 d5 dn dp dr
            go_wp2_with fail
            have LP := Lib.hid (Lp.of T.out.e T.out.b1 T.out.bp T.out.op)
            clear T d0 d1 d2 d3 d4 d5 dn dp dr
            generalize (aL w5 N).heap.size = lo at *
            generalize w6.heap.size = pp at *
            go_loopw [83] (fun j wr => ∃ q : Nat, q ≤ M.l.items.length ∧ j = .int .i64 q ∧ Hid (Lp w wa wr L A B X Y px py M pm P pp lo)) (fun j _ => M.l.items.length - (intOf j).toNat)
            case atStart => exact ⟨0, Nat.zero_le _, rfl, LP⟩
            case round =>
              clear LP
              obtain ⟨q, hq, rfl, hLp⟩ := hrel
              have LP := Lib.hid hLp.out
              clear hLp
              have d5 := cells_at LP.out.bm
              have dp := cells_at LP.out.bp
              simp only [lcells] at d5 dp
              by_cases hlt : q < M.l.items.length
              · obtain ⟨g, hg, hf, ⟨x, hx⟩, hput⟩ := LP.out.putM hlt
                have Hput := Lib.hid hput
                clear hput
                rw [hg] at d5
                go_wp2_with fail
                go_roundw
                case rel => exact ⟨q + 1, by omega, by go_num, Lib.hid (Hput.out _)⟩
                case measure => simp [intOf]; omega
              · skip
                go_wp2_with fail
                go_loopw [95] (fun j wr => ∃ q : Nat, q ≤ M.l.tombs.length ∧ j = .int .i64 q ∧ Hid (Lp w wa wr L A B X Y px py M pm P pp lo)) (fun j _ => M.l.tombs.length - (intOf j).toNat)
                case atStart => exact ⟨0, Nat.zero_le _, rfl, LP⟩
                case round =>
                  clear LP d5 dp hlt hq
                  obtain ⟨q, hq, rfl, hLp⟩ := hrel
                  have LP := Lib.hid hLp.out
                  clear hLp
                  have d5 := cells_at LP.out.bm
                  have dp := cells_at LP.out.bp
                  simp only [lcells] at d5 dp
                  by_cases hlt : q < M.l.tombs.length
                  · obtain ⟨g, hg, hf, ⟨x, hx⟩, hput⟩ := LP.out.putT hlt
                    have Hput := Lib.hid hput
                    clear hput
                    rw [hg] at d5
                    go_wp2_with fail
                    go_roundw
                    case rel => exact ⟨q + 1, by omega, by go_num, Lib.hid (Hput.out _)⟩
                    case measure => simp [intOf]; omega
                  · skip
                    go_wp2_with fail
                    go_loopw [111] (fun j wr => ∃ q : Nat, q ≤ P.l.items.length ∧ j = .int .i64 q ∧ Hid (Lp w wa wr L A B X Y px py M pm P pp lo)) (fun j _ => P.l.items.length - (intOf j).toNat)
                    case atStart => exact ⟨0, Nat.zero_le _, rfl, LP⟩
                    case round =>
                      clear LP d5 dp hlt hq
                      obtain ⟨q, hq, rfl, hLp⟩ := hrel
                      have LP := Lib.hid hLp.out
                      clear hLp
                      have d5 := cells_at LP.out.bm
                      have dp := cells_at LP.out.bp
                      simp only [lcells] at d5 dp
                      by_cases hlt : q < P.l.items.length
                      · obtain ⟨g, hg, hf, ⟨x, hx⟩, hput⟩ := LP.out.putP hlt
                        have Hput := Lib.hid hput
                        clear hput
                        rw [hg] at dp
                        go_wp2_with fail
                        go_roundw
                        case rel => exact ⟨q + 1, by omega, by go_num, Lib.hid (Hput.out _)⟩
                        case measure => simp [intOf]; omega
                      · skip
                        have E := Lib.hid LP.out.e1
                        clear LP d5 dp
                        have d0 := cells_at E.out.e.bl
                        have d1 := cells_at E.out.e.ba
                        have d2 := cells_at E.out.e.bb
                        have d3 := cells_at E.out.bx
                        have d4 := cells_at E.out.bY
                        simp only [lcells] at d0 d1 d2 d3 d4
                        go_wp2_with fail
                        refine (rsameL_any X.l A.l X.ia X.ta A.ia A.ta X.ic X.tc A.ic A.tc _ E.out.ax E.out.e.aa).mono ?_
                        rintro e w1 ⟨z, rfl, hz, hb1⟩
                        obtain rfl : z = true := hz.2 HX.out
                        replace E := Lib.hid (E.out.step hb1)
                        clear hz hb1 d0 d1 d2 d3 d4
                        have d0 := cells_at E.out.e.bl
                        have d1 := cells_at E.out.e.ba
                        have d2 := cells_at E.out.e.bb
                        have d3 := cells_at E.out.bx
                        have d4 := cells_at E.out.bY
                        simp only [lcells] at d0 d1 d2 d3 d4
                        go_wp2_with fail
                        refine (rsameL_any Y.l B.l Y.ia Y.ta B.ia B.ta Y.ic Y.tc B.ic B.tc _ E.out.aY E.out.e.ab).mono ?_
                        rintro e w2 ⟨z, rfl, hz, hb1⟩
                        obtain rfl : z = true := hz.2 HY.out
                        replace E := Lib.hid (E.out.step hb1)
                        clear hz hb1 d0 d1 d2 d3 d4
                        go_wp2_with fail
                        refine (known_any _).mono ?_
                        rintro e w3 ⟨rfl, hb1⟩
                        have HBE := Lib.hid (below2 E.out.e.bel hb1 E.out.e.bel.size)
                        clear hb1
                        go_wp2_with fail
                        go_ret
                        exact ⟨rfl, HBE.out⟩
end Go.Proofs.Ytmabjghjkgicgaa
