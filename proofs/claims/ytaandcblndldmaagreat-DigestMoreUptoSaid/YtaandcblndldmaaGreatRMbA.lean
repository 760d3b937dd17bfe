/- tree.May: the contract. | graph.rising, MayBase: contracts. | varvelaw12.wide: what it tells when it is false. | Commits handed in; varvelaw12.great: what it tells when it is false. | varveref12.MayBase: the contract. -/
import Derived.Test.YtaandcblndldmaaGreatMeanW
import Derived.Test.YtaandcblndldmaaGreatOwtB
import Derived.Test.YtaandcblndldmaaGreatLeafA
import Derived.Test.YtaandcblndldmaaGreatBatA
import Derived.Test.YtaandcblndldmaaGreatGraV
import Derived.Test.YtaandcblndldmaaGreatGraA
/- BasA -/
/- TreM -/
namespace Go.Proofs.YtaandcblndldmaaGreat
open Go.RowKit
set_option linter.unusedVariables false
set_option linter.unusedSimpArgs false

set_option maxRecDepth 100000 in
set_option maxHeartbeats 4000000 in
theorem tmay_any (f : Nat) : ∀ (m : Nat) (a : Option Addr) (c : Nat) (T : List Nd) (deep : Int) (w : World), deep + f = 3 → 0 ≤ deep → TrRd w m a c T → BdA 1100000 f T →
    Calls Tryz.prog 189 #[.slice a T.length c, .int .i64 deep] w (IsTo w (MayT f T)) := by
  induction f with
  | zero =>
    intro m a c T deep w hd h0 hT hB
    obtain rfl : deep = 3 := by omega
    have HT := Lib.hid hT
    have hlen := hT.sl.2.1
    have hcap := hT.sl.2.2.1
    clear hT hd h0 hB
    unfold maxLen at hcap
    by_cases hl : 0 < T.length
    · have Hn := Lib.hid (show ¬ MayT 0 T from fun e => by have e : T = [] := e; rw [e] at hl; cases hl)
      go_enter Tryz.func189, Tryz.ntmps189
      go_wp2_with fail
      go_ret
      exact no_name Hn.out (Below.refl _ _)
    · have hT0 : T = [] := List.eq_nil_of_length_eq_zero (by omega)
      subst hT0
      clear hl
      go_enter Tryz.func189, Tryz.ntmps189
      go_wp2_with fail
      refine wp_loop_rounds 1 ?_
      rw [rounds_succ]
      go_wp2_with fail
      go_ret
      exact yes_name (show MayT 0 [] from rfl) (Below.refl _ _)
  | succ f ih =>
    intro m a c T deep w hd h0 hT hB
    have HT := Lib.hid hT
    have HBd := Lib.hid hB
    have hlen := hT.sl.2.1
    have hcap := hT.sl.2.2.1
    have Hd := Lib.hid hd
    have hd3 : deep < 3 := by omega
    have e3 : (deep == 3) = false := by simp; omega
    clear hT hd hB
    unfold maxLen at hcap
    go_enter Tryz.func189, Tryz.ntmps189
    go_upto_region 1 with (fail)
    go_cut [15] (fun v wx => v = .bool false ∧ Hid (wx = w))
    case first =>
      by_cases hl : 0 < T.length
      all_goals
        go_wp2_with fail
        go_meet
        exact ⟨rfl, Lib.hid rfl⟩
    case rest =>
    obtain ⟨rfl, hwc⟩ := hcut
    have ewc : w = wc := hwc.out.symm
    clear hwc
    subst ewc
    go_wp2_with fail
    go_loopw [18] (fun i wr => ∃ q : Nat, q ≤ T.length ∧ i = .int .i64 q ∧ Hid (∀ x ∈ T.take q, OkN f x) ∧ Hid (upTo nlt T q) ∧ Below w.heap.size w wr) (fun i _ => T.length - (intOf i).toNat)
    case atStart => exact ⟨0, Nat.zero_le _, rfl, Lib.hid (by simp), Lib.hid upTo.zero, Below.refl _ _⟩
    case round =>
      obtain ⟨q, hq, rfl, HO, HU, hb⟩ := hrel
      have HB := Lib.hid hb
      clear hb
      by_cases hlt : q < T.length
      · obtain ⟨x, hx⟩ : ∃ x, T[q]? = some x := ⟨T[q], by simp [hlt]⟩
        have hmem := List.mem_of_getElem? hx
        cases m with
        | zero => exact absurd HT.out.1 (by intro e; rw [e] at hlt; cases hlt)
        | succ m =>
          obtain ⟨ad, had, ⟨c0, c1, c2⟩, hlb⟩ := nds_at (HT.out.below HB.out).sl hx
          subst had
          have Hx := Lib.hid hx
          have Hm := Lib.hid (HT.out.2 x hmem)
          have Hbx := Lib.hid (HBd.out.2 x hmem)
          clear hx hmem
          go_upto_region 6 with (fail)
          go_cut [59] (fun v wx => CutW f w wr T q x v wx)
          case first =>
            have E0 : Hid (NbE w wr (wr.alloc (.cells #[.string x.name, .slice x.la x.ls.length x.lc, .slice x.ba x.kids.length x.bc] 175)) x) := Lib.hid ⟨heap_new _ _, (Below.refl _ _).alloc (Nat.le_refl _) _⟩
            refine region_text [([0, 1, 2, 3, 4, 5, 6, 7, 8, 9, 10, 11, 12, 13, 14, 15, 16, 17, 18, 19, 20, 21, 22, 23, 24, 25, 26, 27, 28, 29, 30, 31, 32, 33, 34, 35, 36], false)] mixed (by kernel_rfl) ?_
            simp only [wpSegs, List.map_cons, List.map_nil, List.getD_cons_succ, List.getD_cons_zero]
            go_wp2_with fail
            refine (isNameG_any x.name _).mono ?_
            intro e w1 hto
            obtain ⟨z, rfl, hz, hb1⟩ := hto
            have E := Lib.hid (E0.out.step (((Below.refl _ _).drew).trans hb1))
            have Hz := Lib.hid hz
            clear hz hb1 E0
            have d0 := cells_at E.out.b0
            simp only [ndcell] at d0
            have hl7 := Hbx.out.1
            have hk7 := Hbx.out.2.2.len
            generalize hll : x.ls.length = ll at d0
            generalize hkk : x.kids.length = kk at d0
            rw [hll] at hl7
            rw [hkk] at hk7
            have Hll := Lib.hid hll
            have Hkk := Lib.hid hkk
            clear hll hkk
            obtain ⟨ad', had', ⟨c0', c1', c2'⟩, hlb'⟩ := nds_at (HT.out.below (below2 HB.out E.out.bel HB.out.size)).sl Hx.out
            injection had' with had'
            subst had'
            clear c0 c1 c2 c1' c2' hlb
            cases z with
            | false =>
              have Hn := Lib.hid (not_node (f := f) Hx.out (fun hh => by have := Hz.out.2 hh.1; cases this))
              go_wp2_with fail
              refine And.intro (by kernel_rfl) ?_
              go_wp2_with fail
              go_meet
              exact .inl ⟨rfl, Hn, Lib.hid (below2 HB.out E.out.bel HB.out.size)⟩
            | true =>
              have Hnm := Lib.hid (Hz.out.1 rfl)
              clear Hz
              rcases Nat.eq_zero_or_pos q with hq0 | hq0
              case' inl =>
                subst hq0
                have Hup := Lib.hid (show upTo nlt T (0 + 1) from upTo.one)
              case' inr =>
                obtain ⟨q', rfl⟩ : ∃ q', q = q' + 1 := ⟨q - 1, by omega⟩
                clear hq0
                obtain ⟨y, hy⟩ : ∃ y, T[q']? = some y := ⟨T[q'], by simp⟩
                obtain ⟨ad2, had2, ⟨f0, f1, f2⟩, hlb2⟩ := nds_at (HT.out.below (below2 HB.out E.out.bel HB.out.size)).sl hy
                injection had2 with had2
                subst had2
                have Hy := Lib.hid hy
                clear hy f1 f2
                rcases Bool.eq_false_or_eq_true (Op.bytesLess y.name.toList x.name.toList) with hcmp | hcmp
                rotate_left
                · have Hn := Lib.hid (not_pair (f := f) Hy.out Hx.out hcmp)
                  go_wp2_with fail
                  refine And.intro (by kernel_rfl) ?_
                  go_wp2_with fail
                  go_meet
                  exact .inl ⟨rfl, Hn, Lib.hid (below2 HB.out E.out.bel HB.out.size)⟩
                have Hup := Lib.hid (show upTo nlt T (q' + 1 + 1) from HU.out.succ Hy.out Hx.out (show nlt y x from hcmp))
              all_goals
                by_cases hl0 : ll = 0 ∧ kk = 0
                · have Hn := Lib.hid (not_node (f := f) Hx.out (fun hh => hh.2.1.elim (fun h => h (List.eq_nil_of_length_eq_zero (by rw [Hll.out]; exact hl0.1))) (fun h => h (List.eq_nil_of_length_eq_zero (by rw [Hkk.out]; exact hl0.2)))))
                  obtain ⟨rfl, rfl⟩ := hl0
                  go_wp2_with fail
                  refine And.intro (by kernel_rfl) ?_
                  go_wp2_with fail
                  go_meet
                  exact .inl ⟨rfl, Hn, Lib.hid (below2 HB.out E.out.bel HB.out.size)⟩
                · have Hne := Lib.hid (show x.ls ≠ [] ∨ x.kids ≠ [] from Classical.byContradiction fun hh => hl0 ⟨by rw [← Hll.out]; exact (Classical.byContradiction fun h => hh (.inl fun e => h (by rw [e]; rfl))), by rw [← Hkk.out]; exact (Classical.byContradiction fun h => hh (.inr fun e => h (by rw [e]; rfl)))⟩)
                  have e1 : (((ll : Int) + (kk : Int)) == 0) = false := by simp; omega
                  clear hl0
                  go_wp2_with fail
                  have hcall := ih m x.ba x.bc x.kids (deep + 1) w1 (by have := Hd.out; omega) (by omega) (Hm.out.2.below (below2 HB.out E.out.bel HB.out.size)) Hbx.out.2.2
                  rw [Hkk.out] at hcall
                  refine hcall.mono ?_
                  intro e w3 hto
                  obtain ⟨z2, rfl, hz2, hb3⟩ := hto
                  have E3 := Lib.hid (E.out.step hb3)
                  have Hz2 := Lib.hid hz2
                  clear hz2 hb3 d0
                  cases z2 with
                  | false =>
                    have Hn := Lib.hid (not_node (f := f) Hx.out (fun hh => by have := Hz2.out.2 hh.2.2.1; cases this))
                    go_wp2_with fail
                    refine And.intro (by kernel_rfl) ?_
                    go_wp2_with fail
                    go_meet
                    exact .inl ⟨rfl, Hn, Lib.hid (below2 HB.out E3.out.bel HB.out.size)⟩
                  | true =>
                    have Hk2 := Lib.hid (Hz2.out.1 rfl)
                    go_wp2_with fail
                    refine And.intro (by kernel_rfl) ?_
                    go_wp2_with fail
                    go_meet
                    exact .inr ⟨rfl, Lib.hid ⟨Hnm.out, Hne.out, Hk2.out⟩, Hup, E3⟩
          case rest =>
            rcases hcut with ⟨rfl, Hn, HBn⟩ | ⟨rfl, hok, HU2, E1⟩
            · go_wp2_with fail
              go_ret
              exact no_name Hn.out HBn.out
            have Hok := Lib.hid hok.out
            clear hok c0 c1 c2
            have d1 := cells_at E1.out.b0
            simp only [ndcell] at d1
            have b1lt := heap_lt E1.out.b0
            obtain ⟨la, hla⟩ : ∃ la, la = x.la := ⟨_, rfl⟩
            rw [← hla] at d1
            have Hla := Lib.hid hla
            have hll := Hm.out.1.1.2.1
            have hlc := Hm.out.1.1.2.2.1
            unfold maxLen at hlc
            clear hla
            go_wp2_with fail
            go_loopw [63] (fun k wx => ∃ r : Nat, r ≤ x.ls.length ∧ k = .int .i64 r ∧ Hid (∀ v ∈ x.ls.take r, MayLf v.l) ∧ Hid (upTo klt x.ls r) ∧ Hid (NbE w wr wx x)) (fun k _ => x.ls.length - (intOf k).toNat)
            case atStart => exact ⟨0, Nat.zero_le _, rfl, Lib.hid (by simp), Lib.hid upTo.zero, E1⟩
            case round =>
              obtain ⟨r, hr, rfl, HL, HK, E2⟩ := hrel
              have HB2 := Lib.hid (below2 HB.out E2.out.bel HB.out.size)
              clear d1 b1lt
              by_cases hlt2 : r < x.ls.length
              · obtain ⟨v, hv⟩ : ∃ v, x.ls[r]? = some v := ⟨x.ls[r], by simp [hlt2]⟩
                obtain ⟨al, hal, ⟨e0, e1, e2, e3', e4, e5, e6, e7, e8⟩, hlv, hvr⟩ := (Hm.out.1.below HB2.out).at hv
                obtain rfl : la = some al := Hla.out.trans hal
                have Hal := Lib.hid hal
                have Hv := Lib.hid hv
                have hbd := Hbx.out.2.1 v (List.mem_of_getElem? hv)
                have Hlt := Lib.hid (show LfAt wr v.l v.ia v.ic v.ta v.tc from ⟨hvr.1.its, hvr.1.tms, hbd.1, hbd.2⟩)
                have Hok2 := Lib.hid hvr.1.ok
                have HW := Lib.hid (show Below wr.heap.size wr (wr.alloc (.cells (lcells v.l v.ia v.ic v.ta v.tc) 178)).drew from ((Below.refl _ _).alloc (Nat.le_refl _) _).drew)
                have HN := Lib.hid (heap_new wr (.cells (lcells v.l v.ia v.ic v.ta v.tc) 178))
                clear hv hvr hbd hal
                go_upto_region 11 with (fail)
                refine region_text [([0, 1, 2, 3, 4, 5, 6, 7, 8, 9, 10, 11, 12, 13, 14, 15, 16, 17, 18], false)] mixed (by kernel_rfl) ?_
                simp only [wpSegs, List.map_cons, List.map_nil, List.getD_cons_succ, List.getD_cons_zero]
                go_wp2_with fail
                refine (mayL_any v.l v.ia v.ta v.ic v.tc _ (Hlt.out.below HW.out) Hok2.out).mono ?_
                rintro e w3 ⟨z, rfl, hz, hb3⟩
                have E3 := Lib.hid (E2.out.step (below2 HW.out hb3 HW.out.size))
                have HB3 := Lib.hid (below2 HB.out E3.out.bel HB.out.size)
                have X3 := Lib.hid ((hb3.block wr.heap.size (by simp)).trans HN.out)
                have Hz := Lib.hid hz
                clear hz hb3 e0 e1 e2 e3' e4 e5 e6 e7 e8
                have d0 := cells_at E3.out.b0
                simp only [ndcell] at d0
                rw [Hal.out] at d0
                have dl := cells_at X3.out
                simp only [lcells] at dl
                have zl := heap_lt X3.out
                have zn := heap_lt E3.out.b0
                cases z with
                | false =>
                  have Hn := Lib.hid (not_node (f := f) Hx.out (fun hh => by have := Hz.out.2 (hh.2.2.2.1 v (List.mem_of_getElem? Hv.out)); cases this))
                  go_wp2_with fail
                  refine And.intro (by kernel_rfl) ?_
                  go_wp2_with fail
                  go_ret
                  exact no_name Hn.out HB3.out
                | true =>
                  have Hmv := Lib.hid (Hz.out.1 rfl)
                  clear Hz
                  cases r with
                  | zero =>
                    go_wp2_with fail
                    refine And.intro (by kernel_rfl) ?_
                    go_wp2_with fail
                    go_roundw
                    case rel => exact ⟨1, by omega, by go_num, Lib.hid (all_snoc (p := fun v : Lv => MayLf v.l) Hv.out HL.out Hmv.out), Lib.hid (upTo.one), E3⟩
                    case measure => simp [intOf]; omega
                  | succ r =>
                    obtain ⟨y, hy⟩ : ∃ y, x.ls[r]? = some y := ⟨x.ls[r], by simp⟩
                    obtain ⟨al', hal', ⟨f0, _, _, _, _, _, _, _, _⟩, hlv2, _⟩ := (Hm.out.1.below HB3.out).at hy
                    obtain rfl : al' = al := by have := hal'.symm.trans Hal.out; injection this
                    have Hy := Lib.hid hy
                    clear hy hal'
                    by_cases hc : y.l.k < v.l.k
                    · have hc1 : decide (v.l.k ≤ y.l.k) = false := by simpa using hc
                      have Hup := Lib.hid (HK.out.succ Hy.out Hv.out (show klt y v from hc))
                      go_wp2_with fail
                      refine And.intro (by kernel_rfl) ?_
                      go_wp2_with fail
                      go_roundw
                      case rel => exact ⟨r + 2, by omega, by go_num, Lib.hid (all_snoc (p := fun v : Lv => MayLf v.l) Hv.out HL.out Hmv.out), Lib.hid (Hup.out), E3⟩
                      case measure => simp [intOf]; omega
                    · have hc1 : decide (v.l.k ≤ y.l.k) = true := by simp; omega
                      have Hn := Lib.hid (not_node (f := f) Hx.out (fun hh => not_lpair Hy.out Hv.out hc hh.2.2.2))
                      go_wp2_with fail
                      refine And.intro (by kernel_rfl) ?_
                      go_wp2_with fail
                      go_ret
                      exact no_name Hn.out HB3.out
              · have Hls := Lib.hid (show MayLs x.ls from ⟨fun v hv => HL.out v (by rw [List.take_of_length_le (by omega)]; exact hv), upTo.all (lt := klt) (fun {a b c} h k => by unfold klt at *; omega) HK.out (by omega)⟩)
                go_wp2_with fail
                go_roundw
                case rel => exact ⟨q + 1, by omega, by go_num, Lib.hid (all_snoc Hx.out HO.out ⟨Hok.out.1, Hok.out.2.1, Hok.out.2.2, Hls.out⟩), HU2, HB2.out⟩
                case measure => simp [intOf]; omega
      · have Hfin := Lib.hid (mayT_of (T := T) (f := f) (fun x hx => HO.out x (by rw [List.take_of_length_le (by omega)]; exact hx)) (by have := HU.out; rwa [show q = T.length by omega] at this))
        go_wp2_with fail
        go_ret
        exact yes_name Hfin.out HB.out
theorem treeMay_any (m : Nat) (a : Option Addr) (c : Nat) (T : List Nd) (w : World) (hT : TrRd w m a c T) (hB : BdA 1100000 3 T) :
    Calls Tryz.prog 143 #[.slice a T.length c] w (IsTo w (MayT 3 T)) := by
  have HT := Lib.hid hT
  have HB := Lib.hid hB
  clear hT hB
  go_enter Tryz.func143, Tryz.ntmps143
  go_wp2_with fail
  refine (tmay_any 3 m a c T 0 _ (by omega) (by omega) HT.out HB.out).mono ?_
  intro e w1 hto
  obtain ⟨z, rfl, hz, hb⟩ := hto
  have Hz := Lib.hid hz
  have HB1 := Lib.hid hb
  clear hz hb
  go_wp2_with fail
  go_ret
  exact ⟨z, rfl, Hz.out, HB1.out⟩
end Go.Proofs.YtaandcblndldmaaGreat

/- BasA -/
namespace Go.Proofs.YtaandcblndldmaaGreat
open Go.RowKit
set_option linter.unusedVariables false
set_option linter.unusedSimpArgs false

theorem not_risen {l : List Dt} {q : Nat} {x y : Dt} (hx : l[q]? = some x) (hy : l[q + 1]? = some y) (h : lessD x y = false) : ¬ l.Pairwise ltD := fun hh => by
  have := pairwise_next hh hx hy
  unfold ltD at this
  rw [h] at this; cases this
set_option maxRecDepth 100000 in
set_option maxHeartbeats 2000000 in
theorem riseD_any (a : Option Addr) (c : Nat) (l : List Dt) (w : World) (h : Vec w a c l) (hn : l.length ≤ 1100000) : Calls Tryz.prog 142 #[.slice a l.length c] w (IsTo w (l.Pairwise ltD)) := by
  have H := Lib.hid h
  clear h
  go_enter Tryz.func142, Tryz.ntmps142
  go_wp2_with fail
  go_loopw [3] (fun i wr => ∃ k : Nat, k ≤ l.length ∧ i = .int .i64 ((k : Int) + 1) ∧ Hid (upTo ltD l (k + 1)) ∧ Below w.heap.size w wr) (fun i _ => l.length + 1 - (intOf i).toNat)
  case atStart => exact ⟨0, Nat.zero_le _, rfl, Lib.hid upTo.one, Below.refl _ _⟩
  case round =>
    obtain ⟨k, hk, rfl, HU, hb⟩ := hrel
    have HB := Lib.hid hb
    clear hb
    by_cases hlt : k + 1 < l.length
    · obtain ⟨⟨⟨r, i⟩, s⟩, hx⟩ : ∃ x, l[k]? = some x := ⟨l[k], by simp⟩
      obtain ⟨⟨⟨r', i'⟩, s'⟩, hy⟩ : ∃ x, l[k + 1]? = some x := ⟨l[k + 1], by simp [hlt]⟩
      obtain ⟨ad, had, d0, d1, d2, hl0⟩ := (H.out.below HB.out).at hx
      obtain ⟨ae, hae, e0, e1, e2, hl1⟩ := (H.out.below HB.out).at hy
      obtain rfl : ae = ad := Option.some.inj (hae.symm.trans had)
      subst had
      dsimp only at d0 d1 d2 e0 e1 e2
      have Hx := Lib.hid hx
      have Hy := Lib.hid hy
      clear hx hy hae
      go_wp2_with fail
      refine region_text [([0, 1, 2, 3, 4, 5, 6, 7, 8, 9, 10], false)] mixed (by kernel_rfl) ?_
      simp only [wpSegs, List.map_cons, List.map_nil, List.getD_cons_succ, List.getD_cons_zero]
      go_wp2_with fail
      refine (compareD_any r i s r' i' s' _).mono ?_
      rintro e w1 ⟨rfl, hg⟩
      have HB1 := Lib.hid (below2 HB.out (((Below.refl _ _).drew).trans hg.below) HB.out.size)
      clear hg
      cases hq : lessD ((r, i), s) ((r', i'), s') with
      | true =>
        have e3 : decide ((0 : Int) ≤ cmpDD ((r, i), s) ((r', i'), s')) = false := by
          have := (cmpD_neg ((r, i), s) ((r', i'), s')).2 hq
          rw [cmpDD_eq]
          simp; omega
        have Hup := Lib.hid (HU.out.succ Hx.out Hy.out hq)
        go_wp2_with fail
        refine And.intro (by kernel_rfl) ?_
        go_wp2_with fail
        go_roundw
        case rel => exact ⟨k + 1, by omega, by go_num, Hup, HB1.out⟩
        case measure => simp [intOf]; omega
      | false =>
        have e3 : decide ((0 : Int) ≤ cmpDD ((r, i), s) ((r', i'), s')) = true := by
          rw [cmpDD_eq]
          simp only [decide_eq_true_eq]
          rcases Int.lt_or_le (cmpD ((r, i), s) ((r', i'), s')) 0 with h | h
          · have := (cmpD_neg ((r, i), s) ((r', i'), s')).1 h
            rw [hq] at this; cases this
          · exact h
        have Hn := Lib.hid (not_risen Hx.out Hy.out hq)
        go_wp2_with fail
        refine And.intro (by kernel_rfl) ?_
        go_wp2_with fail
        go_ret
        exact no_name Hn.out HB1.out
    · have Hr := Lib.hid (show l.Pairwise ltD from upTo.all (lt := ltD) (fun {a b c} h k => ltD_trans h k) HU.out (by omega))
      go_wp2_with fail
      go_ret
      exact yes_name Hr.out HB.out
/-- a baseline's cells -/
def bwcells (v : Bw) : Array Value := basecells v.b.num v.fa v.b.f.length v.fc v.ta v.b.tips.length v.tc v.b.t v.ra v.b.tr.length v.rc
set_option maxRecDepth 100000 in
theorem outside_any (num : Int) (fa : Option Addr) (F : List Dt) (fc : Nat) (ta : Option Addr) (tn tc : Nat) (t : Int) (ra : Option Addr) (rn rc bb : Nat) (r i s : Int) (W : World) (hblk : W.heap[bb]? = some (.cells (basecells num fa F.length fc ta tn tc t ra rn rc) 32 (0, 0)))
    (hF : Vec W fa fc F) (hok : okV F) (hn : F.length ≤ 1100000) (hd : okA (r, i)) :
    Calls Tryz.prog 141 #[.agg #[.int .u8 r, .int .u32 i, .int .u64 s], .pointer (some ⟨bb, 0, none⟩)] W fun e W' => e = .returned (.bool (!hasV F ((r, i), s))) ∧ Below W.heap.size W W' := by
  have H := Lib.hid hF
  have d0 := cells_at hblk
  simp only [basecells] at d0
  have z0 := heap_lt hblk
  have HA := Lib.hid (show Below W.heap.size W (W.alloc (.cells #[.int .u8 r, .int .u32 i, .int .u64 s] 49)) from (Below.refl _ _).alloc (Nat.le_refl _) _)
  clear hF hblk
  go_enter Tryz.func141, Tryz.ntmps141
  go_wp2_with fail
  refine (has_any fa fc F r i s _ (H.out.below HA.out) hn hok hd).mono ?_
  rintro e w1 ⟨rfl, hb⟩
  have HB := Lib.hid (below2 HA.out hb HA.out.size)
  clear hb
  go_wp2_with fail
  go_ret
  exact ⟨rfl, HB.out⟩
theorem ne_len {α : Type} {l : List α} : l ≠ [] ↔ 0 < l.length := by
  cases l <;> simp
set_option maxRecDepth 100000 in
set_option maxHeartbeats 8000000 in
theorem mayBase_any (v : Bw) (m : Nat) (w : World) (h : BwAt w m v) (hf : v.b.f.length ≤ 1100000) (ht : v.b.tips.length ≤ 1100000) (hB : BdA 1100000 3 v.b.tr) :
    Calls Tryz.prog 93 #[.agg (bwcells v)] w (IsTo w (BaseP v.b)) := by
  obtain ⟨⟨num, F, tips, t, tr⟩, fa, fc, ta, tc, ra, rc⟩ := v
  have H := Lib.hid h
  have HBd := Lib.hid hB
  dsimp only at hf ht
  have ht0 := h.t.1
  dsimp only at ht0
  have he := enters_of Tryz.func141 (by kernel_rfl) rfl
  have hA : Below w.heap.size w (w.alloc (.cells (basecells num fa F.length fc ta tips.length tc t ra tr.length rc) 32)).drew := ((Below.refl _ _).alloc (Nat.le_refl _) _).drew
  have HA := Lib.hid hA
  clear h hB hA
  simp only [bwcells]
  go_enter Tryz.func93, Tryz.ntmps93
  go_wp2_with fail
  refine region_text [([0, 1, 3, 4], false), ([2], true), ([5, 6, 7, 8, 9, 10, 11, 12, 13, 14, 15, 16, 17, 18, 19, 20, 21, 22, 23, 24], false)] mixed (by kernel_rfl) ?_
  simp only [wpSegs, List.map_cons, List.map_nil, List.getD_cons_succ, List.getD_cons_zero]
  go_wp2_with fail
  refine (canon_any fa fc F _ (H.out.f.below HA.out) H.out.okf hf).mono ?_
  rintro e w1 ⟨a1, c1, rfl, hown, hb⟩
  have E : Hid (BoxE 32 w w1 (basecells num fa F.length fc ta tips.length tc t ra tr.length rc)) := Lib.hid (BoxE.of (((Below.refl _ _).drew).trans hb))
  have Hb := Lib.hid hb
  have d0 := cells_at E.out.blk
  simp only [basecells] at d0
  have z0 := heap_lt E.out.blk
  have Hv := Lib.hid (vec_of hown)
  have hcl : (canonV F).length ≤ 64 := vecOf_length _
  clear hb hown
  go_wp2_with fail
  refine And.intro (Agree.of_below Hb.out) ?_
  go_wp2_with fail
  refine (equalV_any a1 fa c1 fc (canonV F) F _ Hv.out (H.out.f.below E.out.bel) (by omega) hf).mono ?_
  rintro e w2 ⟨z, rfl, hz, hb⟩
  replace E := Lib.hid (E.out.step hb)
  have Hz := Lib.hid hz
  clear hb hz d0 z0 Hb
  have d0 := cells_at E.out.blk
  simp only [basecells] at d0
  have z0 := heap_lt E.out.blk
  cases z with
  | false =>
    have Hn := Lib.hid (show ¬ BaseP ⟨num, F, tips, t, tr⟩ from fun h => by have := Hz.out.2 h.canon; cases this)
    go_wp2_with fail
    refine And.intro (by kernel_rfl) ?_
    go_wp2_with fail
    go_ret
    exact no_name Hn.out E.out.bel
  | true =>
    have Hcan := Lib.hid (Hz.out.1 rfl)
    clear Hz
    by_cases h64 : 64 < tips.length
    · have Hn := Lib.hid (show ¬ BaseP ⟨num, F, tips, t, tr⟩ from fun h => by have := h.few; dsimp only at this; omega)
      go_wp2_with fail
      refine And.intro (by kernel_rfl) ?_
      go_wp2_with fail
      go_ret
      exact no_name Hn.out E.out.bel
    · go_wp2_with fail
      refine (riseD_any ta tc tips _ (H.out.tips.below E.out.bel) ht).mono ?_
      intro e w3 hto
      obtain ⟨z, rfl, hz, hb⟩ := hto
      replace E := Lib.hid (E.out.step hb)
      have Hz := Lib.hid hz
      clear hb hz d0 z0
      have d0 := cells_at E.out.blk
      simp only [basecells] at d0
      have z0 := heap_lt E.out.blk
      cases z with
      | false =>
        have Hn := Lib.hid (show ¬ BaseP ⟨num, F, tips, t, tr⟩ from fun h => by have := Hz.out.2 h.rise; cases this)
        go_wp2_with fail
        refine And.intro (by kernel_rfl) ?_
        go_wp2_with fail
        go_ret
        exact no_name Hn.out E.out.bel
      | true =>
        have Hrise := Lib.hid (Hz.out.1 rfl)
        clear Hz
        go_wp2_with fail
        refine (containsD_fn 141 #[.pointer (some ⟨w.heap.size, 0, none⟩)] (fun d => !hasV F d) ta tc tips _ (H.out.tips.below E.out.bel) ht he (fun r i s hm W hW => outside_any num fa F fc ta tips.length tc t ra tr.length rc w.heap.size r i s W ((hW.block _ (heap_lt E.out.blk)).trans E.out.blk) ((H.out.f.below E.out.bel).below hW) H.out.okf hf (H.out.okt _ hm).1)).mono ?_
        intro e w4 hto
        obtain ⟨z, rfl, hz, hb⟩ := hto
        replace E := Lib.hid (E.out.step hb)
        have Hz := Lib.hid hz
        clear hb hz d0 z0
        have d0 := cells_at E.out.blk
        simp only [basecells] at d0
        have z0 := heap_lt E.out.blk
        cases z with
        | true =>
          have Hn := Lib.hid (show ¬ BaseP ⟨num, F, tips, t, tr⟩ from fun h => by
            obtain ⟨d, hd, h2⟩ := Hz.out.1 rfl
            rw [h.within d hd] at h2; cases h2)
          go_wp2_with fail
          refine And.intro (by kernel_rfl) ?_
          go_wp2_with fail
          go_ret
          exact no_name Hn.out E.out.bel
        | false =>
          have Hwith := Lib.hid (show ∀ d ∈ tips, hasV F d = true from fun d hd => by
            cases hh : hasV F d with
            | true => rfl
            | false => have := Hz.out.2 ⟨d, hd, by rw [hh]; rfl⟩; cases this)
          clear Hz
          by_cases hT : t ≤ 1099511627776
          rotate_left
          · have Hn := Lib.hid (show ¬ BaseP ⟨num, F, tips, t, tr⟩ from fun h => hT h.time)
            have eT : decide (t ≤ 1099511627776) = false := by simpa using hT
            go_wp2_with fail
            refine And.intro (by kernel_rfl) ?_
            go_wp2_with fail
            go_ret
            exact no_name Hn.out E.out.bel
          have eT : decide (t ≤ 1099511627776) = true := by simpa using hT
          by_cases hF0 : 0 < F.length
          · have eF' : decide ((0 : Int) < (F.length : Int)) = true := decide_eq_true (by omega)
            by_cases ht1 : 0 < t
            · have et' : decide ((0 : Int) < t) = true := decide_eq_true (by omega)
              by_cases hp0 : 0 < tips.length
              · have ep' : decide ((0 : Int) < (tips.length : Int)) = true := decide_eq_true (by omega)
                go_wp2_with fail
                refine And.intro (by kernel_rfl) ?_
                go_wp2_with fail
                refine (treeMay_any m ra rc tr _ (H.out.tr.below E.out.bel) HBd.out).mono ?_
                intro e w5 hto
                obtain ⟨z, rfl, hz, hb⟩ := hto
                have HB5 := Lib.hid (E.out.step hb).bel
                have Hz := Lib.hid hz
                clear hz hb
                go_wp2_with fail
                go_ret
                exact ⟨z, rfl, ⟨fun h => ⟨Hcan.out, by show tips.length ≤ 64; omega, Hrise.out, Hwith.out, hT, by show F ≠ [] ↔ 0 < t; rw [ne_len]; omega, by show F ≠ [] ↔ tips ≠ []; rw [ne_len, ne_len]; omega, Hz.out.1 h⟩, fun h => Hz.out.2 h.tree⟩, HB5.out⟩
              · have ep' : decide ((0 : Int) < (tips.length : Int)) = false := decide_eq_false (by omega)
                have Hn := Lib.hid (show ¬ BaseP ⟨num, F, tips, t, tr⟩ from fun h => by
                  have h1 := h.some1
                  have h2 := h.some2
                  replace h1 : F ≠ [] ↔ 0 < t := h1
                  replace h2 : F ≠ [] ↔ tips ≠ [] := h2
                  rw [ne_len] at h1 h2
                  rw [ne_len] at h2
                  omega)
                go_wp2_with fail
                refine And.intro (by kernel_rfl) ?_
                go_wp2_with fail
                go_ret
                exact no_name Hn.out E.out.bel
            · have et' : decide ((0 : Int) < t) = false := decide_eq_false (by omega)
              by_cases hp0 : 0 < tips.length
              · have ep' : decide ((0 : Int) < (tips.length : Int)) = true := decide_eq_true (by omega)
                have Hn := Lib.hid (show ¬ BaseP ⟨num, F, tips, t, tr⟩ from fun h => by
                  have h1 := h.some1
                  have h2 := h.some2
                  replace h1 : F ≠ [] ↔ 0 < t := h1
                  replace h2 : F ≠ [] ↔ tips ≠ [] := h2
                  rw [ne_len] at h1 h2
                  rw [ne_len] at h2
                  omega)
                go_wp2_with fail
                refine And.intro (by kernel_rfl) ?_
                go_wp2_with fail
                go_ret
                exact no_name Hn.out E.out.bel
              · have ep' : decide ((0 : Int) < (tips.length : Int)) = false := decide_eq_false (by omega)
                have Hn := Lib.hid (show ¬ BaseP ⟨num, F, tips, t, tr⟩ from fun h => by
                  have h1 := h.some1
                  have h2 := h.some2
                  replace h1 : F ≠ [] ↔ 0 < t := h1
                  replace h2 : F ≠ [] ↔ tips ≠ [] := h2
                  rw [ne_len] at h1 h2
                  rw [ne_len] at h2
                  omega)
                go_wp2_with fail
                refine And.intro (by kernel_rfl) ?_
                go_wp2_with fail
                go_ret
                exact no_name Hn.out E.out.bel
          · have eF' : decide ((0 : Int) < (F.length : Int)) = false := decide_eq_false (by omega)
            by_cases ht1 : 0 < t
            · have et' : decide ((0 : Int) < t) = true := decide_eq_true (by omega)
              by_cases hp0 : 0 < tips.length
              · have ep' : decide ((0 : Int) < (tips.length : Int)) = true := decide_eq_true (by omega)
                have Hn := Lib.hid (show ¬ BaseP ⟨num, F, tips, t, tr⟩ from fun h => by
                  have h1 := h.some1
                  have h2 := h.some2
                  replace h1 : F ≠ [] ↔ 0 < t := h1
                  replace h2 : F ≠ [] ↔ tips ≠ [] := h2
                  rw [ne_len] at h1 h2
                  rw [ne_len] at h2
                  omega)
                go_wp2_with fail
                refine And.intro (by kernel_rfl) ?_
                go_wp2_with fail
                go_ret
                exact no_name Hn.out E.out.bel
              · have ep' : decide ((0 : Int) < (tips.length : Int)) = false := decide_eq_false (by omega)
                have Hn := Lib.hid (show ¬ BaseP ⟨num, F, tips, t, tr⟩ from fun h => by
                  have h1 := h.some1
                  have h2 := h.some2
                  replace h1 : F ≠ [] ↔ 0 < t := h1
                  replace h2 : F ≠ [] ↔ tips ≠ [] := h2
                  rw [ne_len] at h1 h2
                  rw [ne_len] at h2
                  omega)
                go_wp2_with fail
                refine And.intro (by kernel_rfl) ?_
                go_wp2_with fail
                go_ret
                exact no_name Hn.out E.out.bel
            · have et' : decide ((0 : Int) < t) = false := decide_eq_false (by omega)
              by_cases hp0 : 0 < tips.length
              · have ep' : decide ((0 : Int) < (tips.length : Int)) = true := decide_eq_true (by omega)
                have Hn := Lib.hid (show ¬ BaseP ⟨num, F, tips, t, tr⟩ from fun h => by
                  have h1 := h.some1
                  have h2 := h.some2
                  replace h1 : F ≠ [] ↔ 0 < t := h1
                  replace h2 : F ≠ [] ↔ tips ≠ [] := h2
                  rw [ne_len] at h1 h2
                  rw [ne_len] at h2
                  omega)
                go_wp2_with fail
                refine And.intro (by kernel_rfl) ?_
                go_wp2_with fail
                go_ret
                exact no_name Hn.out E.out.bel
              · have ep' : decide ((0 : Int) < (tips.length : Int)) = false := decide_eq_false (by omega)
                go_wp2_with fail
                refine And.intro (by kernel_rfl) ?_
                go_wp2_with fail
                refine (treeMay_any m ra rc tr _ (H.out.tr.below E.out.bel) HBd.out).mono ?_
                intro e w5 hto
                obtain ⟨z, rfl, hz, hb⟩ := hto
                have HB5 := Lib.hid (E.out.step hb).bel
                have Hz := Lib.hid hz
                clear hz hb
                go_wp2_with fail
                go_ret
                exact ⟨z, rfl, ⟨fun h => ⟨Hcan.out, by show tips.length ≤ 64; omega, Hrise.out, Hwith.out, hT, by show F ≠ [] ↔ 0 < t; rw [ne_len]; omega, by show F ≠ [] ↔ tips ≠ []; rw [ne_len, ne_len]; omega, Hz.out.1 h⟩, fun h => Hz.out.2 h.tree⟩, HB5.out⟩
end Go.Proofs.YtaandcblndldmaaGreat

/- WidB -/
/- WidA -/
namespace Go.Proofs.YtaandcblndldmaaGreat
open Go.RowKit
set_option linter.unusedVariables false
set_option linter.unusedSimpArgs false

theorem BdA.bdT : ∀ {n : Nat} {T : List Nd}, BdA 1100000 n T → BdT 1100000 n T
  | 0, _, _ => trivial
  | n + 1, T, h => fun x hx => ⟨(h.2 x hx).2.1, BdA.bdT (h.2 x hx).2.2⟩
end Go.Proofs.YtaandcblndldmaaGreat

/- WidB -/
namespace Go.Proofs.YtaandcblndldmaaGreat
open Go.RowKit
set_option linter.unusedVariables false
set_option linter.unusedSimpArgs false

/-- commits handed in -/
structure Cms (w : World) (a : Option Addr) (c : Nat) (l : List Cw) : Prop where
  sl : Sl w 11 a l.length c (ccs l)
  each : ∀ v ∈ l, CwAt w v
theorem Cms.below {w w' : World} {a : Option Addr} {c : Nat} {l : List Cw} (h : Cms w a c l) (hb : Below w.heap.size w w') : Cms w' a c l := ⟨h.sl.below hb, fun v hv => (h.each v hv).below hb⟩
structure CwC (w : World) (b : Addr) (v : Cw) : Prop where
  c0 : w.cell? b = some (.int .u8 v.c.d.1.1)
  c1 : w.cell? ⟨b.block, b.off + 1, none⟩ = some (.int .u32 v.c.d.1.2)
  c2 : w.cell? ⟨b.block, b.off + 2, none⟩ = some (.int .u64 v.c.d.2)
  c3 : w.cell? ⟨b.block, b.off + 3, none⟩ = some (.slice v.qa v.c.ps.length v.qc)
  c4 : w.cell? ⟨b.block, b.off + 4, none⟩ = some (.slice v.va v.c.vv.length v.vc)
  c5 : w.cell? ⟨b.block, b.off + 5, none⟩ = some (.int .u64 v.c.t)
  c6 : w.cell? ⟨b.block, b.off + 6, none⟩ = some (.int .u8 v.c.o.k)
  c7 : w.cell? ⟨b.block, b.off + 7, none⟩ = some (.slice v.pa v.c.o.p.length v.pc)
  c8 : w.cell? ⟨b.block, b.off + 8, none⟩ = some (.int .i64 v.c.o.n)
  c9 : w.cell? ⟨b.block, b.off + 9, none⟩ = some (.string v.c.o.x)
  c10 : w.cell? ⟨b.block, b.off + 10, none⟩ = some (.slice v.da v.c.o.ds.length v.dc)
theorem Cms.at_ {w : World} {a : Option Addr} {c : Nat} {l : List Cw} (h : Cms w a c l) {i : Nat} {v : Cw} (hv : l[i]? = some v) : ∃ ad, a = some ad ∧ CwC w (ad.add (i * 11)) v ∧ ad.block < w.heap.size := by
  have hi := (List.getElem?_eq_some_iff.1 hv).1
  rcases h.sl.2.2.2 with ⟨_, h5, _⟩ | ⟨ad, rfl, hc⟩
  · omega
  · have g : ∀ j, j < 11 → w.cell? (ad.add (i * 11 + j)) = (ccel v)[j]? := fun j hj => by
      have e := ccs_at hv j hj
      have e2 : (ccel v)[j]? = some ((ccel v)[j]'(by rw [ccel_len]; exact hj)) := by simp
      rw [e2]
      exact hc _ _ (by rw [e, e2])
    have g0 := g 0 (by omega)
    have g1 := g 1 (by omega)
    have g2 := g 2 (by omega)
    have g3 := g 3 (by omega)
    have g4 := g 4 (by omega)
    have g5 := g 5 (by omega)
    have g6 := g 6 (by omega)
    have g7 := g 7 (by omega)
    have g8 := g 8 (by omega)
    have g9 := g 9 (by omega)
    have g10 := g 10 (by omega)
    rw [Nat.add_zero] at g0
    rw [← Go.Deep.add_add] at g1 g2 g3 g4 g5 g6 g7 g8 g9 g10
    refine ⟨ad, rfl, ⟨g0, g1, g2, g3, g4, g5, g6, g7, g8, g9, g10⟩, ?_⟩
    have := World.block_lt_of_cell? w _ g0
    rwa [add_block] at this
end Go.Proofs.YtaandcblndldmaaGreat

/- RMbA -/
namespace Go.Proofs.YtaandcblndldmaaGreat
open Go.RowKit
set_option linter.unusedVariables false
set_option linter.unusedSimpArgs false

set_option maxRecDepth 100000 in
set_option maxHeartbeats 8000000 in
theorem rmayBase_any (v : Bw) (m : Nat) (w : World) (h : BwAt w m v) (hf : v.b.f.length ≤ 1100000) (ht : v.b.tips.length ≤ 1100000) (hB : BdA 1100000 3 v.b.tr) :
    Calls Tryz.prog 40 #[.agg (bwcells v)] w (IsTo w (BaseP v.b)) := by
  obtain ⟨⟨num, F, tips, t, tr⟩, fa, fc, ta, tc, ra, rc⟩ := v
  have H := Lib.hid h
  have HBd := Lib.hid hB
  dsimp only at hf ht
  have ht0 := h.t.1
  dsimp only at ht0
  have HA := Lib.hid (show Below w.heap.size w (w.alloc (.cells (basecells num fa F.length fc ta tips.length tc t ra tr.length rc) 32)).drew from ((Below.refl _ _).alloc (Nat.le_refl _) _).drew)
  clear h hB
  simp only [bwcells]
  go_enter Tryz.func40, Tryz.ntmps40
  go_wp2_with fail
  refine region_text [([0, 1, 3, 4], false), ([2], true), ([5, 6, 7, 8, 9, 10, 11, 12, 13, 14, 15, 16, 17, 18, 19, 20, 21, 22, 23], false)] mixed (by kernel_rfl) ?_
  simp only [wpSegs, List.map_cons, List.map_nil, List.getD_cons_succ, List.getD_cons_zero]
  go_wp2_with fail
  refine (rcanon_any fa fc F _ (H.out.f.below HA.out) H.out.okf hf).mono ?_
  rintro e w1 ⟨a1, c1, rfl, hown, hb⟩
  have E : Hid (BoxE 32 w w1 (basecells num fa F.length fc ta tips.length tc t ra tr.length rc)) := Lib.hid (BoxE.of (((Below.refl _ _).drew).trans hb))
  have Hb := Lib.hid hb
  have d0 := cells_at E.out.blk
  simp only [basecells] at d0
  have z0 := heap_lt E.out.blk
  have Hv := Lib.hid (vec_of hown)
  have hcl : (canonV F).length ≤ 64 := vecOf_length _
  clear hb hown
  go_wp2_with fail
  refine And.intro (Agree.of_below Hb.out) ?_
  go_wp2_with fail
  refine (same_any a1 fa c1 fc (canonV F) F _ Hv.out (H.out.f.below E.out.bel) (by omega) hf).mono ?_
  rintro e w2 ⟨rfl, hb⟩
  replace E := Lib.hid (E.out.step hb)
  clear hb d0 z0 Hb
  have d0 := cells_at E.out.blk
  simp only [basecells] at d0
  have z0 := heap_lt E.out.blk
  by_cases hcan : canonV F = F
  rotate_left
  · have Hn := Lib.hid (show ¬ BaseP ⟨num, F, tips, t, tr⟩ from fun h => hcan h.canon)
    rw [decide_eq_false hcan]
    go_wp2_with fail
    refine And.intro (by kernel_rfl) ?_
    go_wp2_with fail
    go_ret
    exact no_name Hn.out E.out.bel
  rw [decide_eq_true hcan]
  have Hcan := Lib.hid hcan
  clear hcan
  by_cases h64 : 64 < tips.length
  · have Hn := Lib.hid (show ¬ BaseP ⟨num, F, tips, t, tr⟩ from fun h => by have h1 : tips.length ≤ 64 := h.few; omega)
    have e1 : decide ((64 : Int) < (tips.length : Int)) = true := decide_eq_true (by omega)
    go_wp2_with fail
    refine And.intro (by kernel_rfl) ?_
    go_wp2_with fail
    go_ret
    exact no_name Hn.out E.out.bel
  have e1 : decide ((64 : Int) < (tips.length : Int)) = false := decide_eq_false (by omega)
  by_cases hT : 1099511627776 < t
  · have Hn := Lib.hid (show ¬ BaseP ⟨num, F, tips, t, tr⟩ from fun h => by have h1 : t ≤ 1099511627776 := h.time; omega)
    have e2 : decide (1099511627776 < t) = true := decide_eq_true hT
    go_wp2_with fail
    refine And.intro (by kernel_rfl) ?_
    go_wp2_with fail
    go_ret
    exact no_name Hn.out E.out.bel
  have e2 : decide (1099511627776 < t) = false := decide_eq_false hT
  go_wp2_with fail
  refine (rmayTop_any m ra rc tr _ (H.out.tr.below E.out.bel) HBd.out.bdT).mono ?_
  intro e w3 hto
  obtain ⟨z, rfl, hz, hb⟩ := hto
  replace E := Lib.hid (E.out.step hb)
  have Hz := Lib.hid hz
  clear hb hz d0 z0
  have d0 := cells_at E.out.blk
  simp only [basecells] at d0
  have z0 := heap_lt E.out.blk
  cases z with
  | false =>
    have Hn := Lib.hid (show ¬ BaseP ⟨num, F, tips, t, tr⟩ from fun h => by have := Hz.out.2 h.tree; cases this)
    go_wp2_with fail
    refine And.intro (by kernel_rfl) ?_
    go_wp2_with fail
    go_ret
    exact no_name Hn.out E.out.bel
  | true =>
    have Htr := Lib.hid (Hz.out.1 rfl)
    clear Hz
    go_wp2_with fail
    refine And.intro (by kernel_rfl) ?_
    go_wp2_with fail
    clear d0 z0
    go_loopw [3] (fun i wr => ∃ k : Nat, k ≤ tips.length ∧ i = .int .i64 k ∧ Hid (∀ d ∈ tips.take k, hasV F d = true) ∧ Hid (upTo ltD tips k) ∧ Hid (BoxE 32 w wr (basecells num fa F.length fc ta tips.length tc t ra tr.length rc))) (fun i _ => tips.length - (intOf i).toNat)
    case atStart => exact ⟨0, Nat.zero_le _, rfl, Lib.hid (by simp), Lib.hid upTo.zero, E⟩
    case round =>
      obtain ⟨k, hk, rfl, HW, HU, B⟩ := hrel
      clear E
      have d0 := cells_at B.out.blk
      simp only [basecells] at d0
      have z0 := heap_lt B.out.blk
      by_cases hlt : k < tips.length
      · obtain ⟨⟨⟨r, i⟩, s⟩, hx⟩ : ∃ x, tips[k]? = some x := ⟨tips[k], by simp [hlt]⟩
        obtain ⟨ad, had, f0, f1, f2, hl0⟩ := (H.out.tips.below B.out.bel).at hx
        dsimp only at had f0 f1 f2
        subst had
        have Hx := Lib.hid hx
        clear hx
        have BD := Lib.hid (B.out.step ((Below.refl _ _).drew))
        go_wp2_with fail
        refine region_text [([0, 1, 2, 3, 4, 5, 6, 7, 8, 9, 10, 11, 12, 13, 14, 15, 16, 17, 18, 19, 20, 21, 22, 23, 24, 25, 26, 27], false)] mixed (by kernel_rfl) ?_
        simp only [wpSegs, List.map_cons, List.map_nil, List.getD_cons_succ, List.getD_cons_zero]
        go_wp2_with fail
        refine (rhas_any fa fc F r i s _ (H.out.f.below BD.out.bel) hf).mono ?_
        rintro e w4 ⟨rfl, hb⟩
        replace B := Lib.hid (BD.out.step hb)
        clear hb d0 z0 BD
        have d0 := cells_at B.out.blk
        simp only [basecells] at d0
        have z0 := heap_lt B.out.blk
        cases hin : hasV F ((r, i), s) with
        | false =>
          have Hn := Lib.hid (show ¬ BaseP ⟨num, F, tips, t, tr⟩ from fun h => by
            have h1 := h.within _ (List.mem_of_getElem? Hx.out)
            have h2 : hasV F ((r, i), s) = true := h1
            rw [hin] at h2; cases h2)
          go_wp2_with fail
          refine And.intro (by kernel_rfl) ?_
          go_wp2_with fail
          go_ret
          exact no_name Hn.out B.out.bel
        | true =>
          have HW' := Lib.hid (all_snoc Hx.out HW.out hin)
          clear hin
          cases k with
          | zero =>
            have HU' : Hid (upTo ltD tips 1) := Lib.hid upTo.one
            clear HU
            have ek : decide ((0 : Int) < ((0 : Nat) : Int)) = false := decide_eq_false (by omega)
            go_wp2_with fail
            refine And.intro (by kernel_rfl) ?_
            go_wp2_with fail
            go_roundw
            case rel => exact ⟨1, by omega, by go_num, HW', HU', B⟩
            case measure => simp [intOf]; omega
          | succ k =>
            obtain ⟨⟨⟨r', i'⟩, s'⟩, hy⟩ : ∃ x, tips[k]? = some x := ⟨tips[k], by simp⟩
            obtain ⟨ae, hae, g0, g1, g2, hl1⟩ := (H.out.tips.below B.out.bel).at hy
            obtain ⟨af, haf, k0, k1, k2, hl2⟩ := (H.out.tips.below B.out.bel).at Hx.out
            dsimp only at hae g0 g1 g2 haf k0 k1 k2
            obtain rfl : ad = ae := Option.some.inj (hae)
            obtain rfl : ad = af := Option.some.inj (haf)
            clear f0 f1 f2 haf
            have Hy := Lib.hid hy
            clear hy hae
            have ek : decide ((0 : Int) < ((k + 1 : Nat) : Int)) = true := decide_eq_true (by omega)
            have BD := Lib.hid B.out
            go_wp2_with fail
            refine (rless_any r' i' s' r i s _).mono ?_
            rintro e w5 ⟨rfl, hb⟩
            replace B := Lib.hid (B.out.step hb)
            clear hb d0 z0 BD
            have d0 := cells_at B.out.blk
            simp only [basecells] at d0
            have z0 := heap_lt B.out.blk
            cases hq : lessD ((r', i'), s') ((r, i), s) with
            | true =>
              have HU' := Lib.hid (HU.out.succ Hy.out Hx.out hq)
              clear hq
              go_wp2_with fail
              refine And.intro (by kernel_rfl) ?_
              go_wp2_with fail
              go_roundw
              case rel => exact ⟨k + 2, by omega, by go_num, HW', HU', B⟩
              case measure => simp [intOf]; omega
            | false =>
              have Hn := Lib.hid (show ¬ BaseP ⟨num, F, tips, t, tr⟩ from fun h => not_risen Hy.out Hx.out hq h.rise)
              clear hq
              go_wp2_with fail
              refine And.intro (by kernel_rfl) ?_
              go_wp2_with fail
              go_ret
              exact no_name Hn.out B.out.bel
      · have hkk : k = tips.length := by omega
        have HW2 := Lib.hid (show ∀ d ∈ tips, hasV F d = true from fun d hd => HW.out d (by rw [hkk, List.take_length]; exact hd))
        have HP := Lib.hid (show tips.Pairwise ltD from upTo.all (lt := ltD) (fun {a b c} h k => ltD_trans h k) HU.out (by omega))
        clear HW HU
        clear hkk
        by_cases h0F : 0 < F.length
        · have xF : decide ((0 : Int) < (F.length : Int)) = true := decide_eq_true (by omega)
          have yF : ((F.length : Int) == (0 : Int)) = false := by rw [beq_eq_false_iff_ne]; omega
          by_cases h0t : 0 < t
          · have xt : decide ((0 : Int) < t) = true := decide_eq_true (by omega)
            have yt : (t == (0 : Int)) = false := by rw [beq_eq_false_iff_ne]; omega
            by_cases h0p : 0 < tips.length
            · have xp : decide ((0 : Int) < (tips.length : Int)) = true := decide_eq_true (by omega)
              have yp : ((tips.length : Int) == (0 : Int)) = false := by rw [beq_eq_false_iff_ne]; omega
              go_wp2_with fail
              go_ret
              exact yes_name (show BaseP ⟨num, F, tips, t, tr⟩ from ⟨Hcan.out, by show tips.length ≤ 64; omega, HP.out, HW2.out, hT, by show F ≠ [] ↔ 0 < t; rw [ne_len]; omega, by show F ≠ [] ↔ tips ≠ []; rw [ne_len, ne_len]; omega, Htr.out⟩) B.out.bel
            · have xp : decide ((0 : Int) < (tips.length : Int)) = false := decide_eq_false (by omega)
              have yp : ((tips.length : Int) == (0 : Int)) = true := by rw [beq_iff_eq]; omega
              have Hn := Lib.hid (show ¬ BaseP ⟨num, F, tips, t, tr⟩ from fun h => by
                have h1 := h.some1
                have h2 := h.some2
                replace h1 : F ≠ [] ↔ 0 < t := h1
                replace h2 : F ≠ [] ↔ tips ≠ [] := h2
                rw [ne_len] at h1 h2
                rw [ne_len] at h2
                omega)
              go_wp2_with fail
              go_ret
              exact no_name Hn.out B.out.bel
          · have xt : decide ((0 : Int) < t) = false := decide_eq_false (by omega)
            have yt : (t == (0 : Int)) = true := by rw [beq_iff_eq]; omega
            by_cases h0p : 0 < tips.length
            · have xp : decide ((0 : Int) < (tips.length : Int)) = true := decide_eq_true (by omega)
              have yp : ((tips.length : Int) == (0 : Int)) = false := by rw [beq_eq_false_iff_ne]; omega
              have Hn := Lib.hid (show ¬ BaseP ⟨num, F, tips, t, tr⟩ from fun h => by
                have h1 := h.some1
                have h2 := h.some2
                replace h1 : F ≠ [] ↔ 0 < t := h1
                replace h2 : F ≠ [] ↔ tips ≠ [] := h2
                rw [ne_len] at h1 h2
                rw [ne_len] at h2
                omega)
              go_wp2_with fail
              go_ret
              exact no_name Hn.out B.out.bel
            · have xp : decide ((0 : Int) < (tips.length : Int)) = false := decide_eq_false (by omega)
              have yp : ((tips.length : Int) == (0 : Int)) = true := by rw [beq_iff_eq]; omega
              have Hn := Lib.hid (show ¬ BaseP ⟨num, F, tips, t, tr⟩ from fun h => by
                have h1 := h.some1
                have h2 := h.some2
                replace h1 : F ≠ [] ↔ 0 < t := h1
                replace h2 : F ≠ [] ↔ tips ≠ [] := h2
                rw [ne_len] at h1 h2
                rw [ne_len] at h2
                omega)
              go_wp2_with fail
              go_ret
              exact no_name Hn.out B.out.bel
        · have xF : decide ((0 : Int) < (F.length : Int)) = false := decide_eq_false (by omega)
          have yF : ((F.length : Int) == (0 : Int)) = true := by rw [beq_iff_eq]; omega
          by_cases h0t : 0 < t
          · have xt : decide ((0 : Int) < t) = true := decide_eq_true (by omega)
            have yt : (t == (0 : Int)) = false := by rw [beq_eq_false_iff_ne]; omega
            by_cases h0p : 0 < tips.length
            · have xp : decide ((0 : Int) < (tips.length : Int)) = true := decide_eq_true (by omega)
              have yp : ((tips.length : Int) == (0 : Int)) = false := by rw [beq_eq_false_iff_ne]; omega
              have Hn := Lib.hid (show ¬ BaseP ⟨num, F, tips, t, tr⟩ from fun h => by
                have h1 := h.some1
                have h2 := h.some2
                replace h1 : F ≠ [] ↔ 0 < t := h1
                replace h2 : F ≠ [] ↔ tips ≠ [] := h2
                rw [ne_len] at h1 h2
                rw [ne_len] at h2
                omega)
              go_wp2_with fail
              go_ret
              exact no_name Hn.out B.out.bel
            · have xp : decide ((0 : Int) < (tips.length : Int)) = false := decide_eq_false (by omega)
              have yp : ((tips.length : Int) == (0 : Int)) = true := by rw [beq_iff_eq]; omega
              have Hn := Lib.hid (show ¬ BaseP ⟨num, F, tips, t, tr⟩ from fun h => by
                have h1 := h.some1
                have h2 := h.some2
                replace h1 : F ≠ [] ↔ 0 < t := h1
                replace h2 : F ≠ [] ↔ tips ≠ [] := h2
                rw [ne_len] at h1 h2
                rw [ne_len] at h2
                omega)
              go_wp2_with fail
              go_ret
              exact no_name Hn.out B.out.bel
          · have xt : decide ((0 : Int) < t) = false := decide_eq_false (by omega)
            have yt : (t == (0 : Int)) = true := by rw [beq_iff_eq]; omega
            by_cases h0p : 0 < tips.length
            · have xp : decide ((0 : Int) < (tips.length : Int)) = true := decide_eq_true (by omega)
              have yp : ((tips.length : Int) == (0 : Int)) = false := by rw [beq_eq_false_iff_ne]; omega
              have Hn := Lib.hid (show ¬ BaseP ⟨num, F, tips, t, tr⟩ from fun h => by
                have h1 := h.some1
                have h2 := h.some2
                replace h1 : F ≠ [] ↔ 0 < t := h1
                replace h2 : F ≠ [] ↔ tips ≠ [] := h2
                rw [ne_len] at h1 h2
                rw [ne_len] at h2
                omega)
              go_wp2_with fail
              go_ret
              exact no_name Hn.out B.out.bel
            · have xp : decide ((0 : Int) < (tips.length : Int)) = false := decide_eq_false (by omega)
              have yp : ((tips.length : Int) == (0 : Int)) = true := by rw [beq_iff_eq]; omega
              go_wp2_with fail
              go_ret
              exact yes_name (show BaseP ⟨num, F, tips, t, tr⟩ from ⟨Hcan.out, by show tips.length ≤ 64; omega, HP.out, HW2.out, hT, by show F ≠ [] ↔ 0 < t; rw [ne_len]; omega, by show F ≠ [] ↔ tips ≠ []; rw [ne_len, ne_len]; omega, Htr.out⟩) B.out.bel
end Go.Proofs.YtaandcblndldmaaGreat
