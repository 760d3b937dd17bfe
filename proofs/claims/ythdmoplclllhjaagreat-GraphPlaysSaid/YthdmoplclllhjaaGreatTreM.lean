/- tree.May: the contract. -/
import Derived.Test.YthdmoplclllhjaaGreatMeanW
import Derived.Test.YthdmoplclllhjaaGreatOwtB
import Derived.Test.YthdmoplclllhjaaGreatLeafA
import Derived.Test.YthdmoplclllhjaaGreatMayC
namespace Go.Proofs.YthdmoplclllhjaaGreat
open Go.RowKit
set_option linter.unusedVariables false
set_option linter.unusedSimpArgs false

set_option maxRecDepth 100000 in
set_option maxHeartbeats 4000000 in
theorem tmay_any (f : Nat) : ∀ (m : Nat) (a : Option Addr) (c : Nat) (T : List Nd) (deep : Int) (w : World), deep + f = 3 → 0 ≤ deep → TrRd w m a c T → BdA 1100000 f T →
    Calls Tryz.prog 157 #[.slice a T.length c, .int .i64 deep] w (IsTo w (MayT f T)) := by
  induction f with
  | zero =>
    intro m a c T deep w hd h0 hT hB
    obtain rfl : deep = 3 := by omega
    have HT := Lib.hid hT
    have hlen := hT.sl.2.1
    have hcap := hT.sl.2.2.1
    clear hT hd h0 hB
    unfold maxLen at hcap
    by_cases hl : 0 < T.length
    · have Hn := Lib.hid (show ¬ MayT 0 T from fun e => by have e : T = [] := e; rw [e] at hl; cases hl)
      go_enter Tryz.func157, Tryz.ntmps157
      go_wp2_with fail
      go_ret
      exact no_name Hn.out (Below.refl _ _)
    · have hT0 : T = [] := List.eq_nil_of_length_eq_zero (by omega)
      subst hT0
      clear hl
      go_enter Tryz.func157, Tryz.ntmps157
      go_wp2_with fail
      refine wp_loop_rounds 1 ?_
      rw [rounds_succ]
      go_wp2_with fail
      go_ret
      exact yes_name (show MayT 0 [] from rfl) (Below.refl _ _)
  | succ f ih =>
    intro m a c T deep w hd h0 hT hB
    have HT := Lib.hid hT
    have HBd := Lib.hid hB
    have hlen := hT.sl.2.1
    have hcap := hT.sl.2.2.1
    have Hd := Lib.hid hd
    have hd3 : deep < 3 := by omega
    have e3 : (deep == 3) = false := by simp; omega
    clear hT hd hB
    unfold maxLen at hcap
    go_enter Tryz.func157, Tryz.ntmps157
    go_upto_region 1 with (fail)
    go_cut [15] (fun v wx => v = .bool false ∧ Hid (wx = w))
    case first =>
      by_cases hl : 0 < T.length
      all_goals
        go_wp2_with fail
        go_meet
        exact ⟨rfl, Lib.hid rfl⟩
    case rest =>
    obtain ⟨rfl, hwc⟩ := hcut
    have ewc : w = wc := hwc.out.symm
    clear hwc
    subst ewc
    go_wp2_with fail
    go_loopw [18] (fun i wr => ∃ q : Nat, q ≤ T.length ∧ i = .int .i64 q ∧ Hid (∀ x ∈ T.take q, OkN f x) ∧ Hid (upTo nlt T q) ∧ Below w.heap.size w wr) (fun i _ => T.length - (intOf i).toNat)
    case atStart => exact ⟨0, Nat.zero_le _, rfl, Lib.hid (by simp), Lib.hid upTo.zero, Below.refl _ _⟩
    case round =>
      obtain ⟨q, hq, rfl, HO, HU, hb⟩ := hrel
      have HB := Lib.hid hb
      clear hb
      by_cases hlt : q < T.length
      · obtain ⟨x, hx⟩ : ∃ x, T[q]? = some x := ⟨T[q], by simp [hlt]⟩
        have hmem := List.mem_of_getElem? hx
        cases m with
        | zero => exact absurd HT.out.1 (by intro e; rw [e] at hlt; cases hlt)
        | succ m =>
          obtain ⟨ad, had, ⟨c0, c1, c2⟩, hlb⟩ := nds_at (HT.out.below HB.out).sl hx
          subst had
          have Hx := Lib.hid hx
          have Hm := Lib.hid (HT.out.2 x hmem)
          have Hbx := Lib.hid (HBd.out.2 x hmem)
          clear hx hmem
          go_upto_region 6 with (fail)
          go_cut [59] (fun v wx => CutW f w wr T q x v wx)
          case first =>
            have E0 : Hid (NbE w wr (wr.alloc (.cells #[.string x.name, .slice x.la x.ls.length x.lc, .slice x.ba x.kids.length x.bc] 154)) x) := Lib.hid ⟨heap_new _ _, (Below.refl _ _).alloc (Nat.le_refl _) _⟩
            refine region_text [([0, 1, 2, 3, 4, 5, 6, 7, 8, 9, 10, 11, 12, 13, 14, 15, 16, 17, 18, 19, 20, 21, 22, 23, 24, 25, 26, 27, 28, 29, 30, 31, 32, 33, 34, 35, 36], false)] mixed (by kernel_rfl) ?_
            simp only [wpSegs, List.map_cons, List.map_nil, List.getD_cons_succ, List.getD_cons_zero]
            go_wp2_with fail
            refine (isNameG_any x.name _).mono ?_
            intro e w1 hto
            obtain ⟨z, rfl, hz, hb1⟩ := hto
            have E := Lib.hid (E0.out.step (((Below.refl _ _).drew).trans hb1))
            have Hz := Lib.hid hz
            clear hz hb1 E0
            have d0 := cells_at E.out.b0
            simp only [ndcell] at d0
            have hl7 := Hbx.out.1
            have hk7 := Hbx.out.2.2.len
            generalize hll : x.ls.length = ll at d0
            generalize hkk : x.kids.length = kk at d0
            rw [hll] at hl7
            rw [hkk] at hk7
            have Hll := Lib.hid hll
            have Hkk := Lib.hid hkk
            clear hll hkk
            obtain ⟨ad', had', ⟨c0', c1', c2'⟩, hlb'⟩ := nds_at (HT.out.below (below2 HB.out E.out.bel HB.out.size)).sl Hx.out
            injection had' with had'
            subst had'
            clear c0 c1 c2 c1' c2' hlb
            cases z with
            | false =>
              have Hn := Lib.hid (not_node (f := f) Hx.out (fun hh => by have := Hz.out.2 hh.1; cases this))
              go_wp2_with fail
              refine And.intro (by kernel_rfl) ?_
              go_wp2_with fail
              go_meet
              exact .inl ⟨rfl, Hn, Lib.hid (below2 HB.out E.out.bel HB.out.size)⟩
            | true =>
              have Hnm := Lib.hid (Hz.out.1 rfl)
              clear Hz
              rcases Nat.eq_zero_or_pos q with hq0 | hq0
              case' inl =>
                subst hq0
                have Hup := Lib.hid (show upTo nlt T (0 + 1) from upTo.one)
              case' inr =>
                obtain ⟨q', rfl⟩ : ∃ q', q = q' + 1 := ⟨q - 1, by omega⟩
                clear hq0
                obtain ⟨y, hy⟩ : ∃ y, T[q']? = some y := ⟨T[q'], by simp⟩
                obtain ⟨ad2, had2, ⟨f0, f1, f2⟩, hlb2⟩ := nds_at (HT.out.below (below2 HB.out E.out.bel HB.out.size)).sl hy
                injection had2 with had2
                subst had2
                have Hy := Lib.hid hy
                clear hy f1 f2
                rcases Bool.eq_false_or_eq_true (Op.bytesLess y.name.toList x.name.toList) with hcmp | hcmp
                rotate_left
                · have Hn := Lib.hid (not_pair (f := f) Hy.out Hx.out hcmp)
                  go_wp2_with fail
                  refine And.intro (by kernel_rfl) ?_
                  go_wp2_with fail
                  go_meet
                  exact .inl ⟨rfl, Hn, Lib.hid (below2 HB.out E.out.bel HB.out.size)⟩
                have Hup := Lib.hid (show upTo nlt T (q' + 1 + 1) from HU.out.succ Hy.out Hx.out (show nlt y x from hcmp))
              all_goals
                by_cases hl0 : ll = 0 ∧ kk = 0
                · have Hn := Lib.hid (not_node (f := f) Hx.out (fun hh => hh.2.1.elim (fun h => h (List.eq_nil_of_length_eq_zero (by rw [Hll.out]; exact hl0.1))) (fun h => h (List.eq_nil_of_length_eq_zero (by rw [Hkk.out]; exact hl0.2)))))
                  obtain ⟨rfl, rfl⟩ := hl0
                  go_wp2_with fail
                  refine And.intro (by kernel_rfl) ?_
                  go_wp2_with fail
                  go_meet
                  exact .inl ⟨rfl, Hn, Lib.hid (below2 HB.out E.out.bel HB.out.size)⟩
                · have Hne := Lib.hid (show x.ls ≠ [] ∨ x.kids ≠ [] from Classical.byContradiction fun hh => hl0 ⟨by rw [← Hll.out]; exact (Classical.byContradiction fun h => hh (.inl fun e => h (by rw [e]; rfl))), by rw [← Hkk.out]; exact (Classical.byContradiction fun h => hh (.inr fun e => h (by rw [e]; rfl)))⟩)
                  have e1 : (((ll : Int) + (kk : Int)) == 0) = false := by simp; omega
                  clear hl0
                  go_wp2_with fail
                  have hcall := ih m x.ba x.bc x.kids (deep + 1) w1 (by have := Hd.out; omega) (by omega) (Hm.out.2.below (below2 HB.out E.out.bel HB.out.size)) Hbx.out.2.2
                  rw [Hkk.out] at hcall
                  refine hcall.mono ?_
                  intro e w3 hto
                  obtain ⟨z2, rfl, hz2, hb3⟩ := hto
                  have E3 := Lib.hid (E.out.step hb3)
                  have Hz2 := Lib.hid hz2
                  clear hz2 hb3 d0
                  cases z2 with
                  | false =>
                    have Hn := Lib.hid (not_node (f := f) Hx.out (fun hh => by have := Hz2.out.2 hh.2.2.1; cases this))
                    go_wp2_with fail
                    refine And.intro (by kernel_rfl) ?_
                    go_wp2_with fail
                    go_meet
                    exact .inl ⟨rfl, Hn, Lib.hid (below2 HB.out E3.out.bel HB.out.size)⟩
                  | true =>
                    have Hk2 := Lib.hid (Hz2.out.1 rfl)
                    go_wp2_with fail
                    refine And.intro (by kernel_rfl) ?_
                    go_wp2_with fail
                    go_meet
                    exact .inr ⟨rfl, Lib.hid ⟨Hnm.out, Hne.out, Hk2.out⟩, Hup, E3⟩
          case rest =>
            rcases hcut with ⟨rfl, Hn, HBn⟩ | ⟨rfl, hok, HU2, E1⟩
            · go_wp2_with fail
              go_ret
              exact no_name Hn.out HBn.out
            have Hok := Lib.hid hok.out
            clear hok c0 c1 c2
            have d1 := cells_at E1.out.b0
            simp only [ndcell] at d1
            have b1lt := heap_lt E1.out.b0
            obtain ⟨la, hla⟩ : ∃ la, la = x.la := ⟨_, rfl⟩
            rw [← hla] at d1
            have Hla := Lib.hid hla
            have hll := Hm.out.1.1.2.1
            have hlc := Hm.out.1.1.2.2.1
            unfold maxLen at hlc
            clear hla
            go_wp2_with fail
            go_loopw [63] (fun k wx => ∃ r : Nat, r ≤ x.ls.length ∧ k = .int .i64 r ∧ Hid (∀ v ∈ x.ls.take r, MayLf v.l) ∧ Hid (upTo klt x.ls r) ∧ Hid (NbE w wr wx x)) (fun k _ => x.ls.length - (intOf k).toNat)
            case atStart => exact ⟨0, Nat.zero_le _, rfl, Lib.hid (by simp), Lib.hid upTo.zero, E1⟩
            case round =>
              obtain ⟨r, hr, rfl, HL, HK, E2⟩ := hrel
              have HB2 := Lib.hid (below2 HB.out E2.out.bel HB.out.size)
              clear d1 b1lt
              by_cases hlt2 : r < x.ls.length
              · obtain ⟨v, hv⟩ : ∃ v, x.ls[r]? = some v := ⟨x.ls[r], by simp [hlt2]⟩
                obtain ⟨al, hal, ⟨e0, e1, e2, e3', e4, e5, e6, e7, e8⟩, hlv, hvr⟩ := (Hm.out.1.below HB2.out).at hv
                obtain rfl : la = some al := Hla.out.trans hal
                have Hal := Lib.hid hal
                have Hv := Lib.hid hv
                have hbd := Hbx.out.2.1 v (List.mem_of_getElem? hv)
                have Hlt := Lib.hid (show LfAt wr v.l v.ia v.ic v.ta v.tc from ⟨hvr.1.its, hvr.1.tms, hbd.1, hbd.2⟩)
                have Hok2 := Lib.hid hvr.1.ok
                have HW := Lib.hid (show Below wr.heap.size wr (wr.alloc (.cells (lcells v.l v.ia v.ic v.ta v.tc) 157)).drew from ((Below.refl _ _).alloc (Nat.le_refl _) _).drew)
                have HN := Lib.hid (heap_new wr (.cells (lcells v.l v.ia v.ic v.ta v.tc) 157))
                clear hv hvr hbd hal
                go_upto_region 11 with (fail)
                refine region_text [([0, 1, 2, 3, 4, 5, 6, 7, 8, 9, 10, 11, 12, 13, 14, 15, 16, 17, 18], false)] mixed (by kernel_rfl) ?_
                simp only [wpSegs, List.map_cons, List.map_nil, List.getD_cons_succ, List.getD_cons_zero]
                go_wp2_with fail
                refine (mayL_any v.l v.ia v.ta v.ic v.tc _ (Hlt.out.below HW.out) Hok2.out).mono ?_
                rintro e w3 ⟨z, rfl, hz, hb3⟩
                have E3 := Lib.hid (E2.out.step (below2 HW.out hb3 HW.out.size))
                have HB3 := Lib.hid (below2 HB.out E3.out.bel HB.out.size)
                have X3 := Lib.hid ((hb3.block wr.heap.size (by simp)).trans HN.out)
                have Hz := Lib.hid hz
                clear hz hb3 e0 e1 e2 e3' e4 e5 e6 e7 e8
                have d0 := cells_at E3.out.b0
                simp only [ndcell] at d0
                rw [Hal.out] at d0
                have dl := cells_at X3.out
                simp only [lcells] at dl
                have zl := heap_lt X3.out
                have zn := heap_lt E3.out.b0
                cases z with
                | false =>
                  have Hn := Lib.hid (not_node (f := f) Hx.out (fun hh => by have := Hz.out.2 (hh.2.2.2.1 v (List.mem_of_getElem? Hv.out)); cases this))
                  go_wp2_with fail
                  refine And.intro (by kernel_rfl) ?_
                  go_wp2_with fail
                  go_ret
                  exact no_name Hn.out HB3.out
                | true =>
                  have Hmv := Lib.hid (Hz.out.1 rfl)
                  clear Hz
                  cases r with
                  | zero =>
                    go_wp2_with fail
                    refine And.intro (by kernel_rfl) ?_
                    go_wp2_with fail
                    go_roundw
                    case rel => exact ⟨1, by omega, by go_num, Lib.hid (all_snoc (p := fun v : Lv => MayLf v.l) Hv.out HL.out Hmv.out), Lib.hid (upTo.one), E3⟩
                    case measure => simp [intOf]; omega
                  | succ r =>
                    obtain ⟨y, hy⟩ : ∃ y, x.ls[r]? = some y := ⟨x.ls[r], by simp⟩
                    obtain ⟨al', hal', ⟨f0, _, _, _, _, _, _, _, _⟩, hlv2, _⟩ := (Hm.out.1.below HB3.out).at hy
                    obtain rfl : al' = al := by have := hal'.symm.trans Hal.out; injection this
                    have Hy := Lib.hid hy
                    clear hy hal'
                    by_cases hc : y.l.k < v.l.k
                    · have hc1 : decide (v.l.k ≤ y.l.k) = false := by simpa using hc
                      have Hup := Lib.hid (HK.out.succ Hy.out Hv.out (show klt y v from hc))
                      go_wp2_with fail
                      refine And.intro (by kernel_rfl) ?_
                      go_wp2_with fail
                      go_roundw
                      case rel => exact ⟨r + 2, by omega, by go_num, Lib.hid (all_snoc (p := fun v : Lv => MayLf v.l) Hv.out HL.out Hmv.out), Lib.hid (Hup.out), E3⟩
                      case measure => simp [intOf]; omega
                    · have hc1 : decide (v.l.k ≤ y.l.k) = true := by simp; omega
                      have Hn := Lib.hid (not_node (f := f) Hx.out (fun hh => not_lpair Hy.out Hv.out hc hh.2.2.2))
                      go_wp2_with fail
                      refine And.intro (by kernel_rfl) ?_
                      go_wp2_with fail
                      go_ret
                      exact no_name Hn.out HB3.out
              · have Hls := Lib.hid (show MayLs x.ls from ⟨fun v hv => HL.out v (by rw [List.take_of_length_le (by omega)]; exact hv), upTo.all (lt := klt) (fun {a b c} h k => by unfold klt at *; omega) HK.out (by omega)⟩)
                go_wp2_with fail
                go_roundw
                case rel => exact ⟨q + 1, by omega, by go_num, Lib.hid (all_snoc Hx.out HO.out ⟨Hok.out.1, Hok.out.2.1, Hok.out.2.2, Hls.out⟩), HU2, HB2.out⟩
                case measure => simp [intOf]; omega
      · have Hfin := Lib.hid (mayT_of (T := T) (f := f) (fun x hx => HO.out x (by rw [List.take_of_length_le (by omega)]; exact hx)) (by have := HU.out; rwa [show q = T.length by omega] at this))
        go_wp2_with fail
        go_ret
        exact yes_name Hfin.out HB.out
theorem treeMay_any (m : Nat) (a : Option Addr) (c : Nat) (T : List Nd) (w : World) (hT : TrRd w m a c T) (hB : BdA 1100000 3 T) :
    Calls Tryz.prog 103 #[.slice a T.length c] w (IsTo w (MayT 3 T)) := by
  have HT := Lib.hid hT
  have HB := Lib.hid hB
  clear hT hB
  go_enter Tryz.func103, Tryz.ntmps103
  go_wp2_with fail
  refine (tmay_any 3 m a c T 0 _ (by omega) (by omega) HT.out HB.out).mono ?_
  intro e w1 hto
  obtain ⟨z, rfl, hz, hb⟩ := hto
  have Hz := Lib.hid hz
  have HB1 := Lib.hid hb
  clear hz hb
  go_wp2_with fail
  go_ret
  exact ⟨z, rfl, Hz.out, HB1.out⟩
end Go.Proofs.YthdmoplclllhjaaGreat
