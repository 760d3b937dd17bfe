/- varvelaw47.LevelsShape: the walk. -/
import Derived.Test.YthdmoplclllhjaaGreatLwA
import Derived.Test.YthdmoplclllhjaaGreatBo47
import Derived.Test.YthdmoplclllhjaaGreatShpQ
import Derived.Test.YthdmoplclllhjaaGreatLevL
namespace Go.Proofs.YthdmoplclllhjaaGreat
open Go.RowKit
set_option linter.unusedVariables false
set_option linter.unusedSimpArgs false

theorem lv_some {S : List Cm} {c : Cm} (h : c ∈ S) : ∃ n, lvF S c.d = some n ∧ 1 ≤ n ∧ n ≤ S.length := by
  obtain ⟨n, hn⟩ := Option.isSome_iff_exists.1 (lvF_is h)
  exact ⟨n, hn, lvF_le hn⟩
/-- what the law knows behind its first loop -/
structure ShF (w1 wr : World) (S : List Cm) : Prop where
  mp : MapN wr w1.heap.size S.length (lvV S)
  bel : Below w1.heap.size w1 wr
theorem ShF.below {w1 wr w' : World} {S : List Cm} (h : ShF w1 wr S) (hb : Below wr.heap.size wr w') : ShF w1 w' S := ⟨h.mp.below hb, below2 h.bel hb h.bel.size⟩
theorem ShE.done {w1 wr : World} {S : List Cm} {V : List (List Dt)} (h : ShE w1 wr S (tkV V V.length)) (hV : LevP (lvF S) V) (hn : (S.map (·.d)).Nodup) : ShF w1 wr S := by
  refine ⟨?_, h.bel⟩
  rw [← tk_len hV hn h.nd]
  refine h.mp.congr fun d _ => ?_
  unfold atV
  by_cases hd : d ∈ tkV V V.length
  · rw [if_pos hd]
  · rw [if_neg hd]
    unfold lvV
    cases hl : lvF S d with
    | none => rfl
    | some n => exact absurd ((tkV_all hV (fun d n h => (lvF_le h).1) d).2 (by rw [hl]; rfl)) hd
set_option maxRecDepth 100000 in
set_option maxHeartbeats 32000000 in
theorem levelsShape_walk (v : Bw) (m : Nat) (la0 : Option Addr) (lc0 : Nat) (l : List Cw) (w : World) (h : BwAt w m v) (hl : Cms w la0 lc0 l) (htp : v.b.tips.length ≤ 1100000) (hB : BdA 1100000 3 v.b.tr) (hsz : szT 10 v.b.tr ≤ 1100000) :
    Calls Tryz.prog 12 #[.agg (bwcells v), .slice la0 l.length lc0] w (fun e w' => e = .returned (.bool true) ∧ Below w.heap.size w w') := by
  obtain ⟨⟨num, F, tips, t, tr⟩, fa, fc, ta, tc, ra, rc⟩ := v
  have H := Lib.hid h
  have HL := Lib.hid hl
  have HBd := Lib.hid hB
  have Hsz := Lib.hid hsz
  have hmm := @run_makeMap Tryz.prog
  dsimp only at htp
  have E : Hid (BoxE 28 w (w.alloc (.cells (basecells num fa F.length fc ta tips.length tc t ra tr.length rc) 28)) (basecells num fa F.length fc ta tips.length tc t ra tr.length rc)) := Lib.hid ⟨heap_new _ _, (Below.refl _ _).alloc (Nat.le_refl _) _⟩
  clear h hl hB hsz
  simp only [bwcells]
  go_enter Tryz.func12, Tryz.ntmps12
  go_wp2_with fail
  refine (both47_any ⟨⟨num, F, tips, t, tr⟩, fa, fc, ta, tc, ra, rc⟩ m la0 lc0 l _ (H.out.below E.out.bel) (HL.out.below E.out.bel) htp HBd.out Hsz.out).mono ?_
  intro e w1 hto
  rcases hto.two with ⟨rfl, hb⟩ | ⟨P, rfl, hp, hPl, hPv⟩
  · have HB := Lib.hid (E.out.step hb).bel
    clear hto hb
    go_wp2_with fail
    refine (known47_any _).mono ?_
    rintro e w2 ⟨rfl, hb⟩
    have HB2 := Lib.hid (below2 HB.out hb HB.out.size)
    clear hb
    go_wp2_with fail
    go_ret
    exact ⟨rfl, HB2.out⟩
  have HP1 := Lib.hid hp
  have HB1 := Lib.hid (E.out.step hp.bel).bel
  have hSl : P.S.length ≤ 12 := by rw [hp.len]; exact hPl
  have Hlv := Lib.hid (show ∀ S : List Cm, S.Perm (cms P.L) → SortedC S → LvH S from fun S h1 h2 => LvH.of hp.ins hp.hist h1 h2)
  have HlS := Lib.hid (Hlv.out (cms P.S) hp.perm hp.rg.sorted)
  have HSnd := Lib.hid hp.rg.nodup
  clear hto hp hPv E
  generalize w.alloc (.cells (basecells num fa F.length fc ta tips.length tc t ra tr.length rc) 28) = wA at HP1
  go_wp2_with fail
  refine (levels_any _ (cms P.L) _ (Coms.of HP1.out.gr)).mono ?_
  intro e w2 hto
  obtain ⟨ra, rc, R, S2, rfl, hp2, hs2, hV, hoL, hoR, hap, hRl, hRv, hb2⟩ := hto
  obtain rfl : cms P.S = S2 := sorted_uniq HP1.out.perm HP1.out.rg.sorted hp2 hs2
  have HV := Lib.hid hV
  have HP := Lib.hid (HP1.out.below hb2)
  have HB := Lib.hid (below2 HB1.out hb2 HB1.out.size)
  have HoL := Lib.hid hoL
  have HoR := Lib.hid (show ∀ r ∈ R, Vec w2 r.a r.c r.v from fun r hr => (hoR r hr).vec)
  have HRv := Lib.hid hRv
  clear hp2 hs2 hV hoL hoR hap hb2 HP1 HB1 hRv
  have hVl := Lib.hid (show (R.map (·.v)).length = R.length from List.length_map _)
  have G0 : Hid (ShE w2 (w2.alloc (.map #[] 0)) (cms P.S) (tkV (R.map (·.v)) 0)) := Lib.hid (ShE.start w2 _)
  go_wp2_with fail
  go_loopw [44] (fun j wr => ∃ q : Nat, q ≤ R.length ∧ j = .int .i64 q ∧ Hid (ShE w2 wr (cms P.S) (tkV (R.map (·.v)) q))) (fun j _ => R.length - (intOf j).toNat)
  case atStart => exact ⟨0, Nat.zero_le _, rfl, G0⟩
  case round =>
    obtain ⟨q, hq, rfl, G⟩ := hrel
    clear G0
    by_cases hlt : q < R.length
    · obtain ⟨rr, hrr⟩ : ∃ x, R[q]? = some x := ⟨R[q], List.getElem?_eq_getElem (by omega)⟩
      obtain ⟨g, rfl⟩ := HoL.out.ptr (by omega)
      have hc0 := OwnL.cell (w := wr) (owns_chg (F := []) HoL.out (Chg.of_below G.out.bel) (by simp)) hrr
      have Hrow := Lib.hid (show (R.map (·.v))[q]? = some rr.v by rw [List.getElem?_map, hrr]; rfl)
      have HrV := Lib.hid (HoR.out rr (List.mem_of_getElem? hrr))
      have hrl : rr.v.length ≤ 200 := HRv.out rr (List.mem_of_getElem? hrr)
      have G1 : Hid (ShE w2 wr (cms P.S) (tkV (R.map (·.v)) q ++ rr.v.take 0)) := Lib.hid (by simpa using G.out)
      clear hrr
      obtain ⟨xa, xc, xv⟩ := rr
      dsimp only at hc0 hrl Hrow HrV G1
      go_wp2_with fail
      go_loopw [51] (fun j wx => ∃ z : Nat, z ≤ xv.length ∧ j = .int .i64 z ∧ Hid (ShE w2 wx (cms P.S) (tkV (R.map (·.v)) q ++ xv.take z))) (fun j _ => xv.length - (intOf j).toNat)
      case atStart => exact ⟨0, Nat.zero_le _, rfl, G1⟩
      case round =>
        obtain ⟨z, hz, rfl, GZ⟩ := hrel
        clear G1 hc0 G
        by_cases hlz : z < xv.length
        · obtain ⟨⟨⟨r, i⟩, s⟩, hx⟩ : ∃ x, xv[z]? = some x := ⟨xv[z], by simp [hlz]⟩
          obtain ⟨ad, had, e0, e1, e2, hl0⟩ := (HrV.out.below GZ.out.bel).at hx
          dsimp only at had e0 e1 e2
          have hlx := (HV.out.on q xv Hrow.out ((r, i), s)).1 (List.mem_of_getElem? hx)
          have hnew := tk_new HV.out Hrow.out hx
          obtain ⟨y, hyS, hyd⟩ := lvF_mem (S := cms P.S) (d := ((r, i), s)) (by rw [hlx]; rfl)
          obtain ⟨u0, hu0, hu0y⟩ := List.mem_map.1 hyS
          have hok : okD ((r, i), s) := by rw [← hyd, ← hu0y]; exact (HP.out.rg.each u0 hu0).ok.d
          have Hok := Lib.hid hok
          have Hlx := Lib.hid hlx
          have HyS := Lib.hid hyS
          have Hyd := Lib.hid hyd
          have hnl : (tkV (R.map (·.v)) q ++ xv.take z).length ≤ 12 := by
            have h1 : (tkV (R.map (·.v)) q ++ xv.take z).length ≤ ((cms P.S).map (·.d)).length := nodup_le_of_sub GZ.out.nd fun d hd => by
              have h2 : (lvF (cms P.S) d).isSome := by
                rcases List.mem_append.1 hd with hd | hd
                · obtain ⟨i, _, h3⟩ := tkV_mem HV.out hd
                  rw [h3]; rfl
                · rw [(HV.out.on q xv Hrow.out d).1 (List.mem_of_mem_take hd)]; rfl
              obtain ⟨c, hc, rfl⟩ := lvF_mem h2
              exact List.mem_map.2 ⟨c, hc, rfl⟩
            simp only [List.length_map, cms] at h1
            exact Nat.le_trans h1 hSl
          have A3 : Hid (BoxE 41 wr (wr.alloc (.cells #[.int .u8 r, .int .u32 i, .int .u64 s] 41)) #[.int .u8 r, .int .u32 i, .int .u64 s]) := Lib.hid ⟨heap_new _ _, (Below.refl _ _).alloc (Nat.le_refl _) _⟩
          obtain ⟨w9, hr9, hm9, hc9⟩ := (GZ.out.mp.below A3.out.bel).update Tryz.underlying63 (by unfold maxLen; omega) hok (atV_none hnew) (.int .i64 ((q : Int) + 1))
          have G9 := Lib.hid ((GZ.out.below A3.out.bel).put (n := q + 1) hlx hnew (by rw [show ((q + 1 : Nat) : Int) = (q : Int) + 1 by omega]; exact hm9) hc9)
          have hmbl : w2.heap.size < wr.heap.size := GZ.out.mp.lt
          have X9 := Lib.hid (heap_chg A3.out.blk hc9 (by simp; omega))
          have Htk := Lib.hid (take_snoc' hx)
          subst had
          have d9 := cells_at X9.out
          have z9 := heap_lt X9.out
          clear hx hlx hnew hyS hyd hu0 hu0y hok hm9 hc9 hnl
          go_wp2_with fail
          refine (besideL_G P.pg P.mb P.w0 3 P.b P.L P.va P.vc P.vv r i s _ (HP.out.below G9.out.bel).gr Hok.out).mono ?_
          intro e w10 hto
          have hfy : findC (cms P.L) ((r, i), s) = some y := by
            rw [← Hyd.out]
            exact findC_mem HP.out.gr.nodup (HP.out.perm.mem_iff.1 HyS.out)
          rcases hto with ⟨hn, _⟩ | ⟨y2, ma, mc, mv, hy2, rfl, hBs, hokm, hml, hom, hb10⟩
          · rw [hfy] at hn; cases hn
          rw [hfy] at hy2
          obtain rfl := Option.some.inj hy2
          have HBs := Lib.hid hBs
          have hmvl : mv.length ≤ 12 := by unfold cms at hml; rw [List.length_map] at hml; omega
          have Hom := Lib.hid hom.vec
          have G10 := Lib.hid (G9.out.below hb10)
          have X10 := Lib.hid ((hb10.block _ (heap_lt X9.out)).trans X9.out)
          clear hfy hy2 hBs hokm hml hom hb10 e0 e1 e2 hl0 A3 G9 X9 GZ d9 z9 hr9
          go_wp2_with fail
          go_loopw [67] (fun j wy => ∃ x : Nat, x ≤ xv.length ∧ j = .int .i64 x ∧ Hid (Below w10.heap.size w10 wy)) (fun j _ => xv.length - (intOf j).toNat)
          case atStart => exact ⟨0, Nat.zero_le _, rfl, Lib.hid (Below.refl _ _)⟩
          case round =>
            obtain ⟨x, hx, rfl, BY⟩ := hrel
            have GY := Lib.hid (G10.out.below BY.out)
            by_cases hlx : x < xv.length
            · obtain ⟨⟨⟨r2, i2⟩, s2⟩, hy⟩ : ∃ o, xv[x]? = some o := ⟨xv[x], by simp [hlx]⟩
              obtain ⟨ae, hae, f0, f1, f2, hl1⟩ := (HrV.out.below GY.out.bel).at hy
              dsimp only at hae f0 f1 f2
              obtain rfl : ad = ae := Option.some.inj hae
              have hly := (HV.out.on q xv Hrow.out ((r2, i2), s2)).1 (List.mem_of_getElem? hy)
              have A4 : Hid (Below _ _ (wr.alloc (.cells #[.int .u8 r2, .int .u32 i2, .int .u64 s2] 41))) := Lib.hid ((Below.refl wr.heap.size wr).alloc (Nat.le_refl _) _)
              have BY2 := Lib.hid (below2 BY.out A4.out BY.out.size)
              have X11 := (BY.out.block _ (heap_lt X10.out)).trans X10.out
              have d1 := cells_at X11
              have z1 := heap_lt X11
              have Hly := Lib.hid hly
              clear hae hy hly X11
              cases heq : eqD ((r2, i2), s2) ((r, i), s) with
              | true =>
                go_wp2_with fail
                go_roundw
                case rel => exact ⟨x + 1, by omega, by go_num, BY2⟩
                case measure => simp [intOf]; omega
              | false =>
                have Hne := Lib.hid (show ((r2, i2), s2) ≠ ((r, i), s) from fun e => by rw [(eqD_iff _ _).2 e] at heq; cases heq)
                go_wp2_with fail
                refine (containsD_any ma mc mv ((r2, i2), s2) _ (Hom.out.below BY2.out) (by omega)).mono ?_
                rintro e w11 ⟨cq, rfl, hcq, hb⟩
                have hin : ((r2, i2), s2) ∈ mv := by
                  obtain ⟨c, hc, hcd⟩ := lvF_mem (S := cms P.S) (d := ((r2, i2), s2)) (by rw [Hly.out]; rfl)
                  refine (HBs.out.2 _).2 ⟨c, HP.out.perm.mem_iff.1 hc, hcd, HlS.out.beside HyS.out hc (fun e => Hne.out (by rw [← hcd, ← e, Hyd.out])) (by rw [Hyd.out, hcd, Hlx.out, Hly.out])⟩
                obtain rfl : cq = true := hcq.2 hin
                have BY3 := Lib.hid (below2 BY2.out hb BY2.out.size)
                clear hcq hin hb f0 f1 f2 hl1 d1 z1
                go_wp2_with fail
                go_roundw
                case rel => exact ⟨x + 1, by omega, by go_num, BY3⟩
                case measure => simp [intOf]; omega
            · have GN := Lib.hid (show ShE w2 wr (cms P.S) (tkV (R.map (·.v)) q ++ xv.take (z + 1)) from by
                have h1 := GY.out
                rw [List.append_assoc, ← Htk.out] at h1
                exact h1)
              go_wp2_with fail
              go_roundw
              case rel => exact ⟨z + 1, by omega, by go_num, GN⟩
              case measure => simp [intOf]; omega
        · have GN := Lib.hid (show ShE w2 wr (cms P.S) (tkV (R.map (·.v)) (q + 1)) from by
            rw [tkV_next Hrow.out]
            have h1 := GZ.out
            rw [List.take_of_length_le (by omega)] at h1
            exact h1)
          go_wp2_with fail
          go_roundw
          case rel => exact ⟨q + 1, by omega, by go_num, GN⟩
          case measure => simp [intOf]; omega
    · have GF := Lib.hid (ShE.done (V := R.map (·.v)) (by
        rw [hVl.out]
        have hqq : q = R.length := by omega
        rw [← hqq]
        exact G.out) HV.out HSnd.out)
      have RB := Lib.hid (HP.out.below G.out.bel).rg
      clear G
      have g0 := cells_at RB.out.blk
      simp only [rgcells] at g0
      have gz := heap_lt RB.out.blk
      obtain ⟨w3, hw3⟩ : ∃ w3, w3 = wr := ⟨_, rfl⟩
      subst hw3
      obtain ⟨ls, hls⟩ : ∃ ls, ls = P.la := ⟨_, rfl⟩
      rw [← hls] at g0
      have Hls := Lib.hid hls
      clear hls
      go_wp2_with fail
      clear g0 gz
      go_loopw [92] (fun j wx => ∃ q : Nat, q ≤ P.S.length ∧ j = .int .i64 q ∧ Hid (ShF w2 wx (cms P.S))) (fun j _ => P.S.length - (intOf j).toNat)
      case atStart => exact ⟨0, Nat.zero_le _, rfl, GF⟩
      case round =>
        obtain ⟨q4, hq4, rfl, G4⟩ := hrel
        by_cases hlt4 : q4 < P.S.length
        · obtain ⟨v, hv⟩ : ∃ v, P.S[q4]? = some v := ⟨P.S[q4], by simp [hlt4]⟩
          obtain ⟨ad, had, ⟨c0, c1, c2, c3, c4, c5, c6, c7, c8, c9, c10⟩, hlb⟩ := (HP.out.below G4.out.bel).rg.rows.at_ hv
          rw [← Hls.out] at had
          subst had
          have Hat := Lib.hid ((HP.out.below G4.out.bel).rg.rows.each v (List.mem_of_getElem? hv))
          have hvS : v.c ∈ cms P.S := List.mem_map.2 ⟨v, List.mem_of_getElem? hv, rfl⟩
          have hpl : v.c.ps.length ≤ 64 := (HP.out.rg.may v (List.mem_of_getElem? hv)).few
          obtain ⟨n, hn, hn1, hn2⟩ := lv_some hvS
          have HvS := Lib.hid hvS
          have Hn := Lib.hid hn
          have hn3 : n ≤ 12 := by unfold cms at hn2; rw [List.length_map] at hn2; omega
          clear hv hvS hn hn2
          obtain ⟨⟨⟨⟨r, i⟩, s⟩, ps, uu, t1, ⟨k1, n1, x1', p1, ds1⟩⟩, qa, qc, ua, uc, pa, pc, da, dc⟩ := v
          dsimp only at c0 c1 c2 c3 c4 c5 c6 c7 c8 c9 c10 hpl
          have B0 : Hid (BoxE 46 wr (wr.alloc (.cells (ccells r i s qa ps.length qc ua uu.length uc t1 k1 pa p1.length pc n1 x1' da ds1.length dc) 46)) (ccells r i s qa ps.length qc ua uu.length uc t1 k1 pa p1.length pc n1 x1' da ds1.length dc)) := Lib.hid ⟨heap_new _ _, (Below.refl _ _).alloc (Nat.le_refl _) _⟩
          go_wp2_with fail
          go_loopw [99] (fun j wx => ∃ z : Nat, z ≤ ps.length ∧ j = .int .i64 z ∧ Hid (BoxE 46 wr wx (ccells r i s qa ps.length qc ua uu.length uc t1 k1 pa p1.length pc n1 x1' da ds1.length dc))) (fun j _ => ps.length - (intOf j).toNat)
          case atStart => exact ⟨0, Nat.zero_le _, rfl, B0⟩
          case round =>
            obtain ⟨z, hz, rfl, B⟩ := hrel
            clear B0 c0 c1 c2 c3 c4 c5 c6 c7 c8 c9 c10 hlb
            by_cases hlz : z < ps.length
            · obtain ⟨⟨⟨r2, i2⟩, s2⟩, hx⟩ : ∃ y, ps[z]? = some y := ⟨ps[z], by simp [hlz]⟩
              obtain ⟨ae, hae, e0, e1, e2, hl0⟩ := (Hat.out.ps.below B.out.bel).at hx
              subst hae
              dsimp only at e0 e1 e2
              have hokp : okD ((r2, i2), s2) := Hat.out.ok.ps _ (List.mem_of_getElem? hx)
              have A2 : Hid (Below wr.heap.size wr (wr.alloc (.cells #[.int .u8 r2, .int .u32 i2, .int .u64 s2] 41))) := Lib.hid ((Below.refl _ _).alloc (Nat.le_refl _) _)
              have B2 := Lib.hid ((B.out.step A2.out).step (Below.refl _ _).drew)
              have d0 := cells_at B2.out.blk
              simp only [ccells] at d0
              have z0 := heap_lt B2.out.blk
              have hBB := A2.out.drew
              have l1 := lv_look ((G4.out.below B.out.bel).mp.below (Below.refl _ _)) hBB Hat.out.ok.d
              have l2 := lv_look ((G4.out.below B.out.bel).mp.below (Below.refl _ _)) hBB hokp
              have hn' : (lvF (cms P.S) ((r, i), s)).getD 0 = n := by rw [show lvF (cms P.S) ((r, i), s) = some n from Hn.out]; rfl
              rw [hn'] at l1
              obtain ⟨k, hk⟩ : ∃ k, k = (lvF (cms P.S) ((r2, i2), s2)).getD 0 := ⟨_, rfl⟩
              rw [← hk] at l2
              have hkn : k < n := by
                rw [hk]
                cases hl : lvF (cms P.S) ((r2, i2), s2) with
                | none => exact hn1
                | some y => exact HlS.out.par HvS.out (List.mem_of_getElem? hx) hl Hn.out
              have x1 : decide ((n : Int) < 1) = false := decide_eq_false (by omega)
              have x2 : decide ((n : Int) ≤ (k : Int)) = false := decide_eq_false (by omega)
              clear hx hk hn' hokp hBB
              go_wp2_with fail
              refine region_tree (.seg [0, 1, 2, 3, 4, 5, 6, 7, 9, 10, 11] false (.fork (.seg [8] true (.seg [12] true (.seg [13, 14] false .done))) (.seg [12] true (.seg [8] true (.seg [13, 14] false .done))))) mixed (by kernel_rfl) ?_
              simp only [wpSg, List.map_cons, List.map_nil, List.getD_cons_succ, List.getD_cons_zero]
              go_wp2_with fail
              refine And.intro ?_ ?_
              all_goals
                go_wp2_with fail
                refine And.intro (Agree.refl _) ?_
                go_wp2_with fail
                refine And.intro (Agree.refl _) ?_
                go_wp2_with fail
                refine And.intro (by kernel_rfl) ?_
                go_wp2_with fail
                go_roundw
                case rel => exact ⟨z + 1, by omega, by go_num, B2⟩
                case measure => simp [intOf]; omega
            · have G5 := Lib.hid (G4.out.below B.out.bel)
              go_wp2_with fail
              go_roundw
              case rel => exact ⟨q4 + 1, by omega, by go_num, G5⟩
              case measure => simp [intOf]; omega
        · clear GF RB
          go_wp2_with fail
          refine (chain_G P.pg P.mb P.w0 3 P.b P.L P.va P.vc P.vv _ (HP.out.below G4.out.bel).gr Hlv.out).mono ?_
          intro e w5 hto
          obtain ⟨ca, cc, C, S3, V3, rfl, hp3, hs3, hV3, hC3, hoC, hokC, hCl, hb5⟩ := hto
          obtain rfl : cms P.S = S3 := sorted_uniq HP.out.perm HP.out.rg.sorted hp3 hs3
          obtain rfl : R.map (·.v) = V3 := LevP.uniq HV.out hV3
          have HC := Lib.hid hC3
          have HoC := Lib.hid hoC.vec
          have HokC := Lib.hid hokC
          have G5 := Lib.hid (G4.out.below hb5)
          have hCR : C.length = R.length := by rw [hC3.len, hVl.out]
          have x4 : ((C.length : Int) != (R.length : Int)) = false := by rw [bne_eq_false_iff_eq, hCR]
          have RB := Lib.hid (HP.out.below G5.out.bel).rg
          have g0 := cells_at RB.out.blk
          simp only [rgcells] at g0
          have gz := heap_lt RB.out.blk
          have hSS : (cms P.S).length = P.S.length := by unfold cms; rw [List.length_map]
          have hlen := fun W (hb : Below w5.heap.size w5 W) => (G5.out.below hb).mp.len Tryz.underlying63 3
          have hl5 := hlen _ ((Below.refl w5.heap.size w5).drew)
          rw [hSS] at hl5
          clear hp3 hs3 hV3 hC3 hoC hokC hb5 hlen hSS hCR
          have hCl2 : C.length ≤ 200 := hCl
          go_wp2_with fail
          refine region_text [([0, 1, 2, 3, 4, 5, 6, 7, 8, 9, 10, 11, 12, 13, 14], false)] mixed (by kernel_rfl) ?_
          simp only [wpSegs, List.map_cons, List.map_nil, List.getD_cons_succ, List.getD_cons_zero]
          go_wp2_with fail
          refine And.intro (by kernel_rfl) ?_
          go_wp2_with fail
          clear g0 gz hl5 x4 RB G4
          go_loopw [139] (fun j wx => ∃ q : Nat, q ≤ C.length ∧ j = .int .i64 q ∧ Hid (Below w5.heap.size w5 wx)) (fun j _ => C.length - (intOf j).toNat)
          case atStart => exact ⟨0, Nat.zero_le _, rfl, Lib.hid ((Below.refl _ _).drew)⟩
          case round =>
            obtain ⟨q6, hq6, rfl, B6⟩ := hrel
            have G6 := Lib.hid (G5.out.below B6.out)
            by_cases hlt6 : q6 < C.length
            · obtain ⟨⟨⟨r, i⟩, s⟩, hx⟩ : ∃ x, C[q6]? = some x := ⟨C[q6], by simp [hlt6]⟩
              obtain ⟨ad, had, e0, e1, e2, hl0⟩ := (HoC.out.below B6.out).at hx
              subst had
              dsimp only at e0 e1 e2
              have hlx := HC.out.lev q6 _ hx
              obtain ⟨y, hyS, hyd⟩ := lvF_mem (S := cms P.S) (d := ((r, i), s)) (by rw [hlx]; rfl)
              have hok : okD ((r, i), s) := HokC.out _ (List.mem_of_getElem? hx)
              have hfy : findC (cms P.L) ((r, i), s) = some y := by
                rw [← hyd]
                exact findC_mem HP.out.gr.nodup (HP.out.perm.mem_iff.1 hyS)
              have hyl : y.ps.length ≤ 64 := by
                obtain ⟨u0, hu0, e⟩ := List.mem_map.1 hyS
                rw [← e]
                exact (HP.out.rg.may u0 hu0).few
              have Hx := Lib.hid hx
              have Hlx := Lib.hid hlx
              have HyS := Lib.hid hyS
              have Hyd := Lib.hid hyd
              have Hok := Lib.hid hok
              have A3 : Hid (BoxE 41 wr (wr.alloc (.cells #[.int .u8 r, .int .u32 i, .int .u64 s] 41)) #[.int .u8 r, .int .u32 i, .int .u64 s]) := Lib.hid ⟨heap_new _ _, (Below.refl _ _).alloc (Nat.le_refl _) _⟩
              clear hx hlx hyS hyd
              go_wp2_with fail
              refine (get_G P.pg P.mb P.w0 3 P.b P.L P.va P.vc P.vv r i s _ (HP.out.below (G6.out.below A3.out.bel).bel).gr hok).mono ?_
              intro e w7 hto
              obtain ⟨u, rfl, hu, huo, hb7⟩ := hto
              rw [hfy] at hu ⊢
              obtain ⟨uc, uqa, uqc, uva, uvc, upa, upc, uda, udc⟩ := u
              have hu : uc = y := hu
              subst hu
              obtain ⟨⟨⟨ur, ui⟩, us⟩, ps, uu, t1, ⟨k1, n1, x1, p1, ds1⟩⟩ := uc
              dsimp only at hyl
              have A7 := Lib.hid (A3.out.step hb7)
              have U7 : Hid (BoxE 46 w7 (w7.alloc (.cells (ccells ur ui us uqa ps.length uqc uva uu.length uvc t1 k1 upa p1.length upc n1 x1 uda ds1.length udc) 46)).drew (ccells ur ui us uqa ps.length uqc uva uu.length uvc t1 k1 upa p1.length upc n1 x1 uda ds1.length udc)) := Lib.hid (BoxE.of ((Below.refl _ _).drew))
              have HPs := Lib.hid (huo.ps.vec.below U7.out.bel)
              have hA := (U7.out.bel.block _ (heap_lt A7.out.blk)).trans A7.out.blk
              have d1 := cells_at hA
              have z1 := heap_lt hA
              have d2 := cells_at U7.out.blk
              have z2 := heap_lt U7.out.blk
              simp only [ccells] at d2
              have hb8 := below2 A7.out.bel U7.out.bel A7.out.bel.size
              have B8 := Lib.hid (below2 B6.out hb8 B6.out.size)
              have l1 := lv_look (G6.out.below hb8).mp (Below.refl _ _) hok
              rw [Hlx.out] at l1
              simp only [Option.getD_some] at l1
              rw [show ((q6 + 1 : Nat) : Int) = (q6 : Int) + 1 by omega] at l1
              clear hfy huo hb7 hA A3 A7 e0 e1 e2 hl0 hok
              simp only [Option.isSome_some, cwcells]
              by_cases h0 : q6 = 0
              · subst h0
                go_wp2_with fail
                refine region_text [([0, 1, 2, 3, 4, 6, 7, 5, 8, 9, 10, 11, 12, 13, 14, 15, 16, 17, 18, 19, 20, 21, 22, 23, 24], false)] mixed (by kernel_rfl) ?_
                simp only [wpSegs, List.map_cons, List.map_nil, List.getD_cons_succ, List.getD_cons_zero]
                go_wp2_with fail
                refine And.intro (by kernel_rfl) ?_
                go_wp2_with fail
                go_roundw
                case rel => exact ⟨0 + 1, by omega, by go_num, B8⟩
                case measure => simp [intOf]; omega
              · obtain ⟨k, rfl⟩ : ∃ k, q6 = k + 1 := ⟨q6 - 1, by omega⟩
                have x5 : decide ((0 : Int) < ((k + 1 : Nat) : Int)) = true := decide_eq_true (by omega)
                obtain ⟨⟨⟨r2, i2⟩, s2⟩, hy⟩ : ∃ x, C[k]? = some x := ⟨C[k]'(by omega), List.getElem?_eq_getElem _⟩
                obtain ⟨ae, hae, f0, f1, f2, hl1⟩ := (HoC.out.below B8.out).at hy
                obtain rfl : ad = ae := Option.some.inj hae
                dsimp only at f0 f1 f2
                have hin : ((r2, i2), s2) ∈ ps := (HC.out.step k _ _ hy (by rw [Hyd.out]; exact Hx.out) HyS.out).1
                have Hin := Lib.hid hin
                clear hae hy hin h0
                go_wp2_with fail
                refine region_text [([0, 1, 2, 3, 4, 6, 7, 5, 8, 9, 10, 11, 12, 13, 14, 15, 16, 17, 18, 19, 20, 21, 22, 23, 24], false)] mixed (by kernel_rfl) ?_
                simp only [wpSegs, List.map_cons, List.map_nil, List.getD_cons_succ, List.getD_cons_zero]
                go_wp2_with fail
                refine (containsD_any uqa uqc ps ((r2, i2), s2) _ HPs.out (by omega)).mono ?_
                rintro e w9 ⟨cq, rfl, hcq, hb⟩
                obtain rfl : cq = true := hcq.2 Hin.out
                have B9 := Lib.hid (below2 B8.out hb B8.out.size)
                clear hcq hb f0 f1 f2 hl1 d1 z1 d2 z2 l1
                go_wp2_with fail
                refine And.intro (by kernel_rfl) ?_
                go_wp2_with fail
                go_roundw
                case rel => exact ⟨k + 1 + 1, by omega, by go_num, B9⟩
                case measure => simp [intOf]; omega
            · have HP6 := Lib.hid (HP.out.below G6.out.bel)
              go_wp2_with fail
              refine (pairs_any _ (cms P.L) _ (Coms.of HP6.out.gr)).mono ?_
              intro e w7 hto
              obtain ⟨S4, hp4, hs4, rfl, hb7⟩ := hto
              obtain rfl : cms P.S = S4 := sorted_uniq HP.out.perm HP.out.rg.sorted hp4 hs4
              have B7 := Lib.hid (below2 HB.out (G6.out.below hb7).bel HB.out.size)
              have RB := Lib.hid (HP6.out.below hb7).rg
              have hwh := fun h => HlS.out.whole HV.out HC.out h
              have hSS : (cms P.S).length = P.S.length := by unfold cms; rw [List.length_map]
              rw [hSS] at hwh ⊢
              obtain ⟨n, hn⟩ : ∃ n, n = pairsP (cms P.S) P.S.length := ⟨_, rfl⟩
              rw [← hn] at hwh ⊢
              have g0 := cells_at RB.out.blk
              simp only [rgcells] at g0
              have gz := heap_lt RB.out.blk
              by_cases h0 : n = 0
              · have x6 : ((C.length : Int) == (P.S.length : Int)) = true := by rw [beq_iff_eq, hwh h0]
                subst h0
                clear hp4 hs4 hb7 hwh hSS hn
                go_wp2_with fail
                refine (known47_any _).mono ?_
                rintro e w8 ⟨rfl, hb⟩
                have B8 := Lib.hid (below2 B7.out hb B7.out.size)
                clear hb g0 gz RB
                go_wp2_with fail
                go_ret
                exact ⟨rfl, B8.out⟩
              · have x5 : 0 < n := by omega
                clear hp4 hs4 hb7 hwh hSS hn h0
                go_wp2_with fail
                refine (known47_any _).mono ?_
                rintro e w8 ⟨rfl, hb⟩
                have B8 := Lib.hid (below2 B7.out hb B7.out.size)
                clear hb g0 gz RB
                go_wp2_with fail
                go_ret
                exact ⟨rfl, B8.out⟩
end Go.Proofs.YthdmoplclllhjaaGreat
