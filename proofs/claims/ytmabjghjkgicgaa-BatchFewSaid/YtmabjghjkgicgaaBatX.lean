/- The law BatchFew: its walk. -/
import Derived.Test.YtmabjghjkgicgaaBatU
namespace Go.Proofs.Ytmabjghjkgicgaa
open Go.RowKit
set_option linter.unusedVariables false
set_option linter.unusedSimpArgs false

set_option maxRecDepth 100000 in
set_option maxHeartbeats 1000000 in
theorem batchFew_walk (a : Option Addr) (c : Nat) (l : List Ow) (w : World) (h : Ops w a c l) :
    Calls Try.prog 4 #[.slice a l.length c] w fun e w' => e = .returned (.bool true) ∧ Below w.heap.size w w' := by
  have H := Lib.hid h
  clear h
  go_enter Try.func4, Try.ntmps4
  go_wp2_with fail
  refine (great39_any a c l _ H.out).mono ?_
  rintro e w1 ⟨q, rfl, hq, hb1⟩
  have HB1 := Lib.hid hb1
  cases q with
  | true =>
    clear hq hb1
    go_wp2_with fail
    refine (known39_any _).mono ?_
    rintro e w2 ⟨rfl, hb2⟩
    have HB2 := Lib.hid (below2 HB1.out hb2 HB1.out.size)
    clear hb2
    go_wp2_with fail
    go_ret
    exact ⟨rfl, HB2.out⟩
  | false =>
    have hn : l.length ≤ 30 := hq rfl
    clear hq hb1
    go_wp2_with fail
    refine (few_any a c l _ (H.out.below HB1.out) (by omega)).mono ?_
    intro e w2 hto
    obtain ⟨xa, xc, X, k, rfl, hF, ho, hq, hb⟩ := hto.form
    have hX := hF.len
    simp only [List.length_map] at hX
    have hk := hF.code
    have HF := Lib.hid hF
    have Ho := Lib.hid ho
    have Hq := Lib.hid hq
    have HB2 := Lib.hid (below2 HB1.out hb HB1.out.size)
    have HB12 := Lib.hid hb.size
    clear hto hF ho hq hb
    go_wp2_with fail
    refine (rfew_any a c l w _ H.out HB2.out (by omega)).mono ?_
    intro e w3 hto
    obtain ⟨ya, yc, Y, k', rfl, hG, hy⟩ := hto.form HB2.out.size
    have hYX := HF.out.uniq hG
    obtain ⟨rfl, hYX⟩ := hYX
    have HG := Lib.hid hG
    have HYX := Lib.hid hYX
    have hY := hG.len
    simp only [List.length_map] at hY
    have Hy := Lib.hid hy
    have HB3 := Lib.hid (below2 HB2.out hy.bel HB2.out.size)
    have HX3 := Lib.hid (Ho.out.below hy.bel)
    have HQ3 := Lib.hid (fun v hv => (Hq.out v hv).below hy.bel)
    clear hto hG hy hYX
    go_wp2_with fail
    refine (rsameOs_any xa ya xc yc X Y _ (ops_of HX3.out fun v hv => (HQ3.out v hv).at_) Hy.out.ops (by omega) (by omega) (fun v hv => (HQ3.out v hv).may) (fun v hv => (Hy.out.each v hv).may)).mono ?_
    intro e w4 hto
    obtain ⟨z, rfl, hz, hb4⟩ := hto
    obtain rfl : z = true := hz.2 HYX.out.symm
    have Hb4 := Lib.hid hb4
    have HB4 := Lib.hid (below2 HB3.out hb4 HB3.out.size)
    clear hz hb4
    have H53 := Lib.hid hn
    rcases hk with rfl | rfl
    all_goals
      go_wp2_with fail
      refine (undone_any a c l _ (H.out.below HB4.out) (by omega)).mono ?_
      intro e w5 hto
      obtain ⟨k, L, n, hP, rfl, h2, h0, hb5⟩ := hto
      obtain ⟨rfl, rfl⟩ := HF.out.uniq hP
      first
        | obtain rfl := h0 rfl
        | obtain rfl := h2 rfl
      have HB5 := Lib.hid (below2 HB4.out hb5 HB4.out.size)
      have H35 := Lib.hid (below2 Hb4.out hb5 Hb4.out.size)
      clear hP h2 h0 hb5
      try simp only [List.length_map]
      go_wp2_with fail
      go_loopw [58] (fun j wr => ∃ q : Nat, q ≤ X.length ∧ j = .int .i64 q ∧ WO w1.heap.size w2.heap.size w5 wr xa xc X) (fun j _ => X.length - (intOf j).toNat)
      case atStart => exact ⟨0, Nat.zero_le _, rfl, WO.start Ho.out Hq.out (below2 Hy.out.bel H35.out Hy.out.bel.size)⟩
      case round =>
        obtain ⟨q, hq, rfl, hW⟩ := hrel
        have HW := Lib.hid hW
        clear hW
        by_cases hlt : q < X.length
        · obtain ⟨v, hx⟩ : ∃ v, X[q]? = some v := ⟨X[q], by simp [hlt]⟩
          have hv := List.mem_of_getElem? hx
          have Hv := Lib.hid hv
          have Hx := Lib.hid hx
          obtain ⟨g, hg, hg1, hg2⟩ := owns_form HW.out.own (by omega)
          subst hg
          have hm := (Hq.out v hv).may
          have hp0 : 1 ≤ v.o.p.length := hm.path.1
          have hds : v.o.ds.length ≤ 64 := hm.few
          obtain ⟨c1, c4⟩ := HW.out.at hx
          obtain ⟨gp, hgp, f0, ⟨x0, k0⟩, hlp, hW2⟩ := HW.out.path hv (by omega) ⟨#[63]⟩
          rw [hgp] at c1
          have HW2 := Lib.hid hW2
          clear hW2 hm hv hx hgp c4
          go_upto_region 11 with (fail)
          have c5 := (HW2.out.at Hx.out).2
          generalize (wr.setCell ⟨gp, 0, none⟩ (.string ⟨#[63]⟩)) = W1 at *
          clear c1 f0 k0
          go_wp2_with fail
          go_loopw [73] (fun j wx => ∃ r : Nat, r ≤ v.o.ds.length ∧ j = .int .i64 r ∧ WO w1.heap.size w2.heap.size w5 wx (some ⟨g, 0, none⟩) xc X) (fun j _ => v.o.ds.length - (intOf j).toNat)
          case atStart => exact ⟨0, Nat.zero_le _, rfl, HW2.out⟩
          case round =>
            obtain ⟨r, hr, rfl, hU⟩ := hrel
            have HU := Lib.hid hU
            clear hU
            by_cases hlt2 : r < v.o.ds.length
            · obtain ⟨d1, d4⟩ := HU.out.at Hx.out
              obtain ⟨gd, hgd, f1, ⟨x1, k1⟩, hld, hU2⟩ := HU.out.seq Hv.out hlt2 0
              rw [hgd] at d4
              have HU2 := Lib.hid hU2
              clear hU2 hgd d1 c5
              go_wp2_with fail
              go_roundw
              case rel => exact ⟨r + 1, hlt2, by go_num, HU2.out⟩
              case measure => simp [intOf]; omega
            · clear c5
              go_wp2_with fail
              go_roundw
              case rel => exact ⟨q + 1, hlt, by go_num, HU.out⟩
              case measure => simp [intOf]; omega
        · have HBw := Lib.hid (HB5.out.trans (HW.out.below HB1.out.size HB5.out.size))
          have HR := Lib.hid (HW.out.rq HB1.out.size (Hy.out.below H35.out) (Nat.le_refl _))
          go_wp2_with fail
          refine (rfew_any a c l w _ H.out HBw.out (by omega)).mono ?_
          intro e w7 hto
          obtain ⟨za, zc, Z, k, rfl, hG, hz⟩ := hto.form HBw.out.size
          obtain ⟨rfl, hZX⟩ := HF.out.uniq hG
          have HZX := Lib.hid hZX
          have hZ := hG.len
          simp only [List.length_map] at hZ
          have Hz := Lib.hid hz
          have HBz := Lib.hid (below2 HBw.out hz.bel HBw.out.size)
          clear hto hG hz hZX
          go_wp2_with fail
          refine (rsameOs_any ya za yc zc Y Z _ (ops_of (HR.out.1.below Hz.out.bel) fun v hv => (HR.out.2 v hv).below Hz.out.bel) Hz.out.ops (by omega) (by omega) (fun v hv => (Hy.out.each v hv).may) (fun v hv => (Hz.out.each v hv).may)).mono ?_
          intro e w8 hto
          obtain ⟨z, rfl, hz, hb8⟩ := hto
          obtain rfl : z = true := hz.2 (HYX.out.trans HZX.out.symm)
          have HB8 := Lib.hid (below2 HBz.out hb8 HBz.out.size)
          clear hz hb8
          go_wp2_with fail
          refine (known39_any _).mono ?_
          rintro e w9 ⟨rfl, hb9⟩
          have HB9 := Lib.hid (below2 HB8.out hb9 HB8.out.size)
          clear hb9
          go_wp2_with fail
          go_ret
          exact ⟨rfl, HB9.out⟩
end Go.Proofs.Ytmabjghjkgicgaa
