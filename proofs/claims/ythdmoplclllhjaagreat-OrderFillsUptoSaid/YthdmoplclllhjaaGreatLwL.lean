/- varvelaw15.OrderLacks: the walk. -/
import Derived.Test.YthdmoplclllhjaaGreatHeaF
import Derived.Test.YthdmoplclllhjaaGreatKno15
import Derived.Test.YthdmoplclllhjaaGreatLwA
namespace Go.Proofs.YthdmoplclllhjaaGreat
open Go.RowKit
set_option linter.unusedVariables false
set_option linter.unusedSimpArgs false

theorem lackP_mem {S : List Cm} {V : List Dt} {m : Int} {c : Cm} (h : c ∈ lackP S V m) : c ∈ S := (List.mem_filter.1 (List.mem_of_mem_take h)).1
theorem CmP.b {v : Cw} (h : CmP v.c) : CwB v := by
  have h1 := h.few
  have h2 : v.c.vv.length ≤ 64 := by rw [← h.canon]; exact vecOf_length _
  have h3 := h.op.path.2.1
  have h4 := h.op.few
  exact ⟨by omega, by omega, by omega, by omega⟩
theorem CmP.vv0 {c : Cm} (h : CmP c) : c.vv ≠ [] := fun e => by
  have h1 := h.own
  rw [e, getN_nil] at h1
  have h2 := ((may_iff _).1 h.dot).2.1
  omega
/-- a row of dots whose first number may have been changed -/
def SeqW (w : World) (base : Nat) (a : Option Addr) (n c : Nat) : Prop := ∃ g xs, ∃ x : Int, a = some ⟨g, 0, none⟩ ∧ w.ownsRow base 41 3 (.slice a n c) n xs ∧ xs[2]? = some (.int .u64 x)
theorem SeqW.of {w : World} {base : Nat} {a : Option Addr} {c : Nat} {v : List Dt} (h : OwnD w base a c v) (h0 : v ≠ []) : SeqW w base a v.length c := by
  obtain ⟨g, rfl, _, _⟩ := h.form h0
  obtain ⟨d, hd⟩ : ∃ d, v[0]? = some d := ⟨v[0]'(List.length_pos_iff.2 h0), by simp [List.length_pos_iff.2 h0]⟩
  refine ⟨g, dcells v, d.2, rfl, h, ?_⟩
  have := dcells_at hd 2 (by omega)
  simpa [dcell] using this
/-- what was handed out, while its numbers are changed -/
structure StE (w0 wx : World) (base : Nat) (ra : Option Addr) (rc : Nat) (R : List Cw) : Prop where
  row : OwnC wx base ra rc R
  each : ∀ v ∈ R, SeqW wx base v.va v.c.vv.length v.vc
  bel : Below base w0 wx
  eq : base = w0.heap.size
theorem StE.put {w0 wx : World} {base : Nat} {ra : Option Addr} {rc : Nat} {R : List Cw} (h : StE w0 wx base ra rc R) {v : Cw} (hv : v ∈ R) {g : Nat} (hg : v.va = some ⟨g, 0, none⟩) (y : Int) : StE w0 (wx.setCell ⟨g, 2, none⟩ (.int .u64 y)) base ra rc R := by
  have hC : Chg [g] wx (wx.setCell ⟨g, 2, none⟩ (.int .u64 y)) := (Chg.refl _ _).put _ _ (by simp)
  obtain ⟨g1, xs1, x1, e1, o1, _⟩ := h.each v hv
  rw [hg] at e1 o1
  cases e1
  have hgl := (owns_lt o1 g (by simp [ob])).1
  refine ⟨h.row.chg hC (fun k hk hm => ?_), fun u hu => ?_, h.bel.trans (hC.below (by rw [h.eq]; exact h.bel.size) (by simpa using hgl)), h.eq⟩
  · rw [List.mem_singleton] at hm
    subst hm
    obtain ⟨C1, f1, q1⟩ := ob_row h.row k hk
    obtain ⟨C2, f2, q2⟩ := ob_row o1 k (by simp [ob])
    rw [q1] at q2
    cases q2
  · obtain ⟨g2, xs, x, e2, o2, hx⟩ := h.each u hu
    by_cases e : g2 = g
    · subst e
      rw [e2] at o2 ⊢
      refine ⟨g2, xs.set 2 (.int .u64 y), y, rfl, (o2.stored 2 (.int .u64 y)).1, ?_⟩
      rw [List.getElem?_set_self (List.getElem?_eq_some_iff.1 hx).1]
    · exact ⟨g2, xs, x, e2, owns_chg o2 hC (fun k hk hm => by
        rw [e2] at hk
        have h1 : k = g2 := by simpa [ob] using hk
        rw [List.mem_singleton] at hm
        exact e (by rw [← h1, hm])), hx⟩
theorem StE.cell {w0 wx : World} {base : Nat} {ra : Option Addr} {rc : Nat} {R : List Cw} (h : StE w0 wx base ra rc R) {v : Cw} (hv : v ∈ R) : ∃ g, ∃ x : Int, v.va = some ⟨g, 0, none⟩ ∧ wx.cell? ⟨g, 2, none⟩ = some (.int .u64 x) ∧ wx.frozen? ⟨g, 2, none⟩ = false ∧ g < wx.heap.size := by
  obtain ⟨g, xs, x, e, o, hx⟩ := h.each v hv
  rw [e] at o
  refine ⟨g, x, e, ?_, World.ownsRow.frozenAt o 2, (owns_lt o g (by simp [ob])).2⟩
  have h1 := World.ownsRow.cellAt (g := g) o 2 (by have h2 := (List.getElem?_eq_some_iff.1 hx).1; have h3 := o.1; omega)
  rw [h1, hx]
set_option maxRecDepth 100000 in
set_option maxHeartbeats 32000000 in
theorem orderLacks_walk (v : Bw) (m : Nat) (la0 : Option Addr) (lc0 : Nat) (l : List Cw) (ua : Option Addr) (uc : Nat) (U : List Dt) (most : Int) (x y : Cw) (w : World) (h : BwAt w m v) (hl : Cms w la0 lc0 l) (hU : Vec w ua uc U) (hok : okV U) (htp : v.b.tips.length ≤ 1100000) (hB : BdA 1100000 3 v.b.tr) :
    Calls Tryz.prog 8 #[.agg (bwcells v), .slice la0 l.length lc0, .slice ua U.length uc, .int .i64 most, .agg (cwcells x), .agg (cwcells y)] w (fun e w' => e = .returned (.bool true) ∧ Below w.heap.size w w') := by
  obtain ⟨⟨num, F, tips, t, tr⟩, fa, fc, ta, tc, ra, rc⟩ := v
  obtain ⟨⟨⟨⟨r1, i1⟩, s1⟩, ps1, uu1, t1, ⟨k1, n1, x1, p1, ds1⟩⟩, qa1, qc1, ua1, uc1, pa1, pc1, da1, dc1⟩ := x
  obtain ⟨⟨⟨⟨r2, i2⟩, s2⟩, ps2, uu2, t2, ⟨k2, n2, x2, p2, ds2⟩⟩, qa2, qc2, ua2, uc2, pa2, pc2, da2, dc2⟩ := y
  have H := Lib.hid h
  have HL := Lib.hid hl
  have HU := Lib.hid hU
  have Hok := Lib.hid hok
  have HBd := Lib.hid hB
  dsimp only at htp
  have E : Hid (Below w.heap.size w (((w.alloc (.cells (basecells num fa F.length fc ta tips.length tc t ra tr.length rc) 28)).alloc (.cells (ccells r1 i1 s1 qa1 ps1.length qc1 ua1 uu1.length uc1 t1 k1 pa1 p1.length pc1 n1 x1 da1 ds1.length dc1) 46)).alloc (.cells (ccells r2 i2 s2 qa2 ps2.length qc2 ua2 uu2.length uc2 t2 k2 pa2 p2.length pc2 n2 x2 da2 ds2.length dc2) 46)) ∧ _) := Lib.hid (three_own w (.cells (basecells num fa F.length fc ta tips.length tc t ra tr.length rc) 28) (.cells (ccells r1 i1 s1 qa1 ps1.length qc1 ua1 uu1.length uc1 t1 k1 pa1 p1.length pc1 n1 x1 da1 ds1.length dc1) 46) (.cells (ccells r2 i2 s2 qa2 ps2.length qc2 ua2 uu2.length uc2 t2 k2 pa2 p2.length pc2 n2 x2 da2 ds2.length dc2) 46))
  clear h hl hU hok hB
  simp only [bwcells, cwcells]
  go_enter Tryz.func8, Tryz.ntmps8
  go_wp2_with fail
  refine (both15_any ⟨⟨num, F, tips, t, tr⟩, fa, fc, ta, tc, ra, rc⟩ m la0 lc0 l _ (H.out.below E.out.1) (HL.out.below E.out.1) htp HBd.out).mono ?_
  intro e w1 hto
  rcases hto.two with ⟨rfl, hb⟩ | ⟨P, rfl, hp, hPl, hPv⟩
  · have HB := Lib.hid (below2 E.out.1 hb E.out.1.size)
    clear hto hb
    go_wp2_with fail
    refine (known15_any _).mono ?_
    rintro e w2 ⟨rfl, hb⟩
    have HB2 := Lib.hid (below2 HB.out hb HB.out.size)
    clear hb
    go_wp2_with fail
    go_ret
    exact ⟨rfl, HB2.out⟩
  have HP1 := Lib.hid hp
  have HB := Lib.hid (below2 E.out.1 hp.bel E.out.1.size)
  have HX1 := Lib.hid ((hp.bel.block _ (heap_lt E.out.2.1)).trans E.out.2.1)
  have HY1 := Lib.hid ((hp.bel.block _ (heap_lt E.out.2.2)).trans E.out.2.2)
  have HwA := Lib.hid hp.rg.lt
  clear hto hp hPv E
  generalize (((w.alloc (.cells (basecells num fa F.length fc ta tips.length tc t ra tr.length rc) 28)).alloc (.cells (ccells r1 i1 s1 qa1 ps1.length qc1 ua1 uu1.length uc1 t1 k1 pa1 p1.length pc1 n1 x1 da1 ds1.length dc1) 46)).alloc (.cells (ccells r2 i2 s2 qa2 ps2.length qc2 ua2 uu2.length uc2 t2 k2 pa2 p2.length pc2 n2 x2 da2 ds2.length dc2) 46)) = wA at HP1 HwA
  by_cases h100 : 100 < U.length
  · have h1u : decide ((100 : Int) < (U.length : Int)) = true := decide_eq_true (by omega)
    go_wp2_with fail
    refine (known15_any _).mono ?_
    rintro e w2 ⟨rfl, hb⟩
    have HB2 := Lib.hid (below2 HB.out hb HB.out.size)
    clear hb
    go_wp2_with fail
    go_ret
    exact ⟨rfl, HB2.out⟩
  have h1u : decide ((100 : Int) < (U.length : Int)) = false := decide_eq_false (by omega)
  go_wp2_with fail
  refine (rlacks_R P.pw wA P.m P.v P.S P.la P.lc ua uc U most _ HP1.out.rg (HU.out.below HB.out) (by omega)).mono ?_
  rintro e w2 ⟨wa, wc, W, rfl, hW, hWm, hWo, hb2⟩
  have HP2 := Lib.hid (HP1.out.below hb2)
  have HB2 := Lib.hid (below2 HB.out hb2 HB.out.size)
  have HX2 := Lib.hid ((hb2.block _ (heap_lt HX1.out)).trans HX1.out)
  have HY2 := Lib.hid ((hb2.block _ (heap_lt HY1.out)).trans HY1.out)
  have HW := Lib.hid hW
  have HWc := Lib.hid (show Cms w2 wa wc W from ⟨hWo.cms, fun v hv => (HP2.out.rg.each v (hWm v hv)).below HP2.out.rg.bel⟩)
  have hWl : W.length ≤ 200 := by
    have h1 := congrArg List.length hW
    have h2 := HP2.out.rg.few
    have h3 : (cms W).length = W.length := by unfold cms; simp
    have h4 : (cms P.S).length = P.S.length := by unfold cms; simp
    have h5 : (lackP (cms P.S) U most).length ≤ (cms P.S).length := by
      unfold lackP
      rw [List.length_take]
      have := List.length_filter_le (fun c : Cm => !hasV U c.d) (cms P.S)
      omega
    omega
  clear hW hWm hWo hb2 HP1 HB HX1 HY1
  go_wp2_with fail
  go_loopw [40] (fun j wr => ∃ q : Nat, q ≤ 2 ∧ j = .int .i64 q ∧ Hid (PairAt wA wr P) ∧ Hid (Below w.heap.size w wr) ∧ Hid (Below w2.heap.size w2 wr)) (fun j _ => 2 - (intOf j).toNat)
  case atStart => exact ⟨0, by omega, rfl, HP2, HB2, Lib.hid (Below.refl _ _)⟩
  case round =>
    obtain ⟨q, hq, rfl, HP, HB, HB9⟩ := hrel
    by_cases hlt : q < 2
    · go_wp2_with fail
      refine (lacks_G P.pg P.mb P.w0 3 P.b P.L P.va P.vc P.vv ua uc U most _ HP.out.gr (HU.out.below HB.out) Hok.out (by omega)).mono ?_
      rintro e w3 ⟨ga, gc, R, S, rfl, hp, hs, hr, ho, he, hb⟩
      obtain rfl : cms P.S = S := sorted_uniq HP.out.perm HP.out.rg.sorted hp hs
      have HR := Lib.hid (show cms R = cms W by rw [hr, HW.out])
      have hmay : ∀ v ∈ R, CmP v.c := fun v hv => by
        have h1 : v.c ∈ cms R := List.mem_map.2 ⟨v, hv, rfl⟩
        rw [hr] at h1
        obtain ⟨u, hu, e⟩ := List.mem_map.1 (HP.out.perm.subset (lackP_mem h1))
        rw [← e]
        exact HP.out.gr.may u hu
      have HMay := Lib.hid hmay
      have hRl : R.length = W.length := by have h1 := congrArg List.length HR.out; unfold cms at h1; simpa using h1
      have hRl2 : R.length ≤ 200 := by omega
      have HC := Lib.hid (show Cms w3 ga gc R from ⟨ho.cms, fun v hv => (he v hv).at_⟩)
      have HO := Lib.hid ho
      have HE := Lib.hid he
      have HB3 := Lib.hid hb
      have HWc3 := Lib.hid ((HWc.out.below HB9.out).below hb)
      clear hp hs hr ho he hb hmay hRl
      go_wp2_with fail
      refine (sameAll11_any ga wa gc wc R W _ HC.out HWc3.out (fun v hv => (HMay.out v hv).b) HR.out (by omega)).mono ?_
      rintro e w4 ⟨rfl, hb⟩
      have E4 : Hid (StE wr w4 wr.heap.size ga gc R) := Lib.hid ⟨HO.out.below hb, fun v hv => SeqW.of ((HE.out v hv).below hb).vv (HMay.out v hv).vv0, below2 HB3.out hb HB3.out.size, rfl⟩
      clear hb HC HO HE HWc3 HB3
      go_wp2_with fail
      obtain ⟨wb, hwb⟩ : ∃ wb, wb = wr := ⟨_, rfl⟩
      rw [← hwb] at E4 HP HB HB9
      clear hwb
      go_loopw [52] (fun j wx => ∃ z : Nat, z ≤ R.length ∧ j = .int .i64 z ∧ Hid (StE wb wx wb.heap.size ga gc R)) (fun j _ => R.length - (intOf j).toNat)
      case atStart => exact ⟨0, by omega, rfl, E4⟩
      case round =>
        obtain ⟨z, hz, rfl, G⟩ := hrel
        clear E4
        by_cases hzl : z < R.length
        · obtain ⟨u, hu⟩ : ∃ u, R[z]? = some u := ⟨R[z], by simp [hzl]⟩
          obtain ⟨gg, hgg⟩ := G.out.row.ptr (by omega)
          subst hgg
          have hum := List.mem_of_getElem? hu
          obtain ⟨g, sq, hva, hcs, hcf, hgl⟩ := G.out.cell hum
          have hn0 : 0 < u.c.vv.length := List.length_pos_iff.2 (HMay.out u hum).vv0
          have hc4 : wr.cell? ⟨gg, z * 11 + 4, none⟩ = some (.slice (some ⟨g, 0, none⟩) u.c.vv.length u.vc) := by rw [← hva]; exact OwnC.range G.out.row hu 4 _ rfl
          have hn9 : u.c.vv.length ≤ 64 := by rw [← (HMay.out u hum).canon]; exact vecOf_length _
          have HG := Lib.hid (fun yy : Int => G.out.put hum hva yy)
          clear hu hum hva
          generalize u.c.vv.length = vn at hc4 hn0 hn9
          go_wp2_with fail
          go_roundw
          case rel => exact ⟨z + 1, by omega, by go_num, Lib.hid (HG.out _)⟩
          case measure => simp [intOf]; omega
        · have HP5 := Lib.hid (HP.out.below G.out.bel)
          have HB5 := Lib.hid (below2 HB.out G.out.bel HB.out.size)
          have HB95 := Lib.hid (below2 HB9.out G.out.bel HB9.out.size)
          go_wp2_with fail
          go_roundw
          case rel => exact ⟨q + 1, by omega, by go_num, HP5, HB5, HB95⟩
          case measure => simp [intOf]; omega
    · have HX := Lib.hid ((HB9.out.block _ (heap_lt HX2.out)).trans HX2.out)
      have HY := Lib.hid ((HB9.out.block _ (heap_lt HY2.out)).trans HY2.out)
      obtain rfl : q = 2 := by omega
      clear hlt hq
      go_upto_region 18 with (fail)
      have B0 : Hid (Below w.heap.size w wr.drew) := Lib.hid (HB.out.trans (((Below.refl wr.heap.size wr).drew).mono HB.out.size))
      have d0 := cells_at HX.out
      have z0 := heap_lt HX.out
      have d1 := cells_at HY.out
      have z1 := heap_lt HY.out
      simp only [ccells] at d0 d1
      by_cases hA : t1 < t2
      · have Hz := Lib.hid (show ltCb ⟨((r1, i1), s1), ps1, uu1, t1, ⟨k1, n1, x1, p1, ds1⟩⟩ ⟨((r2, i2), s2), ps2, uu2, t2, ⟨k2, n2, x2, p2, ds2⟩⟩ = true by
          unfold ltCb
          dsimp only
          rw [decide_eq_true hA]; rfl)
        have y1 : decide (t1 < t2) = true := decide_eq_true hA
        refine region_text [([0, 1, 3, 4, 5, 6, 7], false), ([2], true), ([8, 9, 10, 11, 12, 13, 14, 15, 16, 17, 18, 19, 20, 21, 22, 23, 24, 25, 26], false)] mixed (by kernel_rfl) ?_
        simp only [wpSegs, List.map_cons, List.map_nil, List.getD_cons_succ, List.getD_cons_zero]
        go_wp2_with fail
        refine (ahead15_any ⟨⟨((r1, i1), s1), ps1, uu1, t1, ⟨k1, n1, x1, p1, ds1⟩⟩, qa1, qc1, ua1, uc1, pa1, pc1, da1, dc1⟩ ⟨⟨((r2, i2), s2), ps2, uu2, t2, ⟨k2, n2, x2, p2, ds2⟩⟩, qa2, qc2, ua2, uc2, pa2, pc2, da2, dc2⟩ _).mono ?_
        rintro e w5 ⟨rfl, hb⟩
        have hA5 := Agree.of_below hb
        have HB5 := Lib.hid (below2 B0.out hb B0.out.size)
        have HX5 := Lib.hid ((hb.block _ (by simpa using z0)).trans (show wr.drew.heap[_]? = _ from HX.out))
        have HY5 := Lib.hid ((hb.block _ (by simpa using z1)).trans (show wr.drew.heap[_]? = _ from HY.out))
        clear hb d0 d1 z0 z1
        have d0 := cells_at HX5.out
        have z0 := heap_lt HX5.out
        have d1 := cells_at HY5.out
        have z1 := heap_lt HY5.out
        simp only [ccells] at d0 d1
        dsimp only
        rw [Hz.out]
        go_wp2_with fail
        refine And.intro hA5 ?_
        clear hA5
        go_wp2_with fail
        have HB6 := HB5
        refine (known15_any _).mono ?_
        rintro e w7 ⟨rfl, hb⟩
        have HB7 := Lib.hid (below2 HB6.out hb HB6.out.size)
        clear hb
        go_wp2_with fail
        refine And.intro (by kernel_rfl) ?_
        go_wp2_with fail
        go_ret
        exact ⟨rfl, HB7.out⟩
      · by_cases hE : t1 = t2
        · subst hE
          have Hz := Lib.hid (show ltCb ⟨((r1, i1), s1), ps1, uu1, t1, ⟨k1, n1, x1, p1, ds1⟩⟩ ⟨((r2, i2), s2), ps2, uu2, t1, ⟨k2, n2, x2, p2, ds2⟩⟩ = lessD ((r1, i1), s1) ((r2, i2), s2) by
            unfold ltCb
            dsimp only
            rw [decide_eq_false hA, decide_eq_true rfl]; simp)
          skip
          refine region_text [([0, 1, 3, 4, 5, 6, 7], false), ([2], true), ([8, 9, 10, 11, 12, 13, 14, 15, 16, 17, 18, 19, 20, 21, 22, 23, 24, 25, 26], false)] mixed (by kernel_rfl) ?_
          simp only [wpSegs, List.map_cons, List.map_nil, List.getD_cons_succ, List.getD_cons_zero]
          go_wp2_with fail
          refine (ahead15_any ⟨⟨((r1, i1), s1), ps1, uu1, t1, ⟨k1, n1, x1, p1, ds1⟩⟩, qa1, qc1, ua1, uc1, pa1, pc1, da1, dc1⟩ ⟨⟨((r2, i2), s2), ps2, uu2, t1, ⟨k2, n2, x2, p2, ds2⟩⟩, qa2, qc2, ua2, uc2, pa2, pc2, da2, dc2⟩ _).mono ?_
          rintro e w5 ⟨rfl, hb⟩
          have hA5 := Agree.of_below hb
          have HB5 := Lib.hid (below2 B0.out hb B0.out.size)
          have HX5 := Lib.hid ((hb.block _ (by simpa using z0)).trans (show wr.drew.heap[_]? = _ from HX.out))
          have HY5 := Lib.hid ((hb.block _ (by simpa using z1)).trans (show wr.drew.heap[_]? = _ from HY.out))
          clear hb d0 d1 z0 z1
          have d0 := cells_at HX5.out
          have z0 := heap_lt HX5.out
          have d1 := cells_at HY5.out
          have z1 := heap_lt HY5.out
          simp only [ccells] at d0 d1
          dsimp only
          rw [Hz.out]
          go_wp2_with fail
          refine And.intro hA5 ?_
          clear hA5
          go_wp2_with fail
          refine (rless_any r1 i1 s1 r2 i2 s2 _).mono ?_
          rintro e w6 ⟨rfl, hb⟩
          have HB6 := Lib.hid (below2 HB5.out hb HB5.out.size)
          clear hb
          go_wp2_with fail
          refine (known15_any _).mono ?_
          rintro e w7 ⟨rfl, hb⟩
          have HB7 := Lib.hid (below2 HB6.out hb HB6.out.size)
          clear hb
          go_wp2_with fail
          refine And.intro (by kernel_rfl) ?_
          go_wp2_with fail
          go_ret
          exact ⟨rfl, HB7.out⟩
        · have Hz := Lib.hid (show ltCb ⟨((r1, i1), s1), ps1, uu1, t1, ⟨k1, n1, x1, p1, ds1⟩⟩ ⟨((r2, i2), s2), ps2, uu2, t2, ⟨k2, n2, x2, p2, ds2⟩⟩ = false by
            unfold ltCb
            dsimp only
            rw [decide_eq_false hA, decide_eq_false hE]; rfl)
          have y1 : decide (t1 < t2) = false := decide_eq_false hA
          have y2 : (t1 == t2) = false := by rw [beq_eq_false_iff_ne]; exact hE
          refine region_text [([0, 1, 3, 4, 5, 6, 7], false), ([2], true), ([8, 9, 10, 11, 12, 13, 14, 15, 16, 17, 18, 19, 20, 21, 22, 23, 24, 25, 26], false)] mixed (by kernel_rfl) ?_
          simp only [wpSegs, List.map_cons, List.map_nil, List.getD_cons_succ, List.getD_cons_zero]
          go_wp2_with fail
          refine (ahead15_any ⟨⟨((r1, i1), s1), ps1, uu1, t1, ⟨k1, n1, x1, p1, ds1⟩⟩, qa1, qc1, ua1, uc1, pa1, pc1, da1, dc1⟩ ⟨⟨((r2, i2), s2), ps2, uu2, t2, ⟨k2, n2, x2, p2, ds2⟩⟩, qa2, qc2, ua2, uc2, pa2, pc2, da2, dc2⟩ _).mono ?_
          rintro e w5 ⟨rfl, hb⟩
          have hA5 := Agree.of_below hb
          have HB5 := Lib.hid (below2 B0.out hb B0.out.size)
          have HX5 := Lib.hid ((hb.block _ (by simpa using z0)).trans (show wr.drew.heap[_]? = _ from HX.out))
          have HY5 := Lib.hid ((hb.block _ (by simpa using z1)).trans (show wr.drew.heap[_]? = _ from HY.out))
          clear hb d0 d1 z0 z1
          have d0 := cells_at HX5.out
          have z0 := heap_lt HX5.out
          have d1 := cells_at HY5.out
          have z1 := heap_lt HY5.out
          simp only [ccells] at d0 d1
          dsimp only
          rw [Hz.out]
          go_wp2_with fail
          refine And.intro hA5 ?_
          clear hA5
          go_wp2_with fail
          have HB6 := HB5
          refine (known15_any _).mono ?_
          rintro e w7 ⟨rfl, hb⟩
          have HB7 := Lib.hid (below2 HB6.out hb HB6.out.size)
          clear hb
          go_wp2_with fail
          refine And.intro (by kernel_rfl) ?_
          go_wp2_with fail
          go_ret
          exact ⟨rfl, HB7.out⟩
end Go.Proofs.YthdmoplclllhjaaGreat
