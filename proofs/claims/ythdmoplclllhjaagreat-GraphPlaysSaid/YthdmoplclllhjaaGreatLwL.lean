/- order.Lacks$1, order.Lacks: the contracts. | varveref11.Same, SameAll where both are alike; varveref15.Lacks: the contracts. | varvelaw15.both: the contract. (printed by wip/tools/genboth.py) | varvelaw15.known: the contract. | varvelaw13.known | varvelaw13.BaseAncestors: the walk. (printed by wip/tools/genlwa.py) | varvelaw15.OrderLacks: the walk. -/
import Derived.Test.YthdmoplclllhjaaGreatHeaD
import Derived.Test.YthdmoplclllhjaaGreatWitA
import Derived.Test.YthdmoplclllhjaaGreatChnD
import Derived.Test.YthdmoplclllhjaaGreatGraQ
import Derived.Test.YthdmoplclllhjaaGreatRgE
import Derived.Test.YthdmoplclllhjaaGreatROpA
import Derived.Test.YthdmoplclllhjaaGreatBothA
import Derived.Test.YthdmoplclllhjaaGreatRMbA
import Derived.Test.YthdmoplclllhjaaGreatRgA
import Derived.Test.YthdmoplclllhjaaGreatRegO
/- HeaF -/
/- HeaE -/
namespace Go.Proofs.YthdmoplclllhjaaGreat
open Go.RowKit
set_option linter.unusedVariables false
set_option linter.unusedSimpArgs false

@[go_sem] theorem assert_c (a b c d e f g h i j k : Value) (w : World) : (Instr.typeAssert (.iface 46 (.agg #[a, b, c, d, e, f, g, h, i, j, k])) 20 46 true).run Tryz.prog w = .ok (.tuple #[.agg #[a, b, c, d, e, f, g, h, i, j, k], .bool true]) w := by kernel_rfl
theorem QuAt.chg {w w' : World} {qp g c base : Nat} {l : List Cw} {F : List Nat} (h : QuAt w qp g c base l) (hc : Chg F w w') (h1 : qp ∉ F) (h2 : g ∉ F) : QuAt w' qp g c base l :=
  ⟨heap_chg h.q hc h1, h.own.chg hc (fun k hk => by have e : k = g := by simpa [ob] using hk
                                                    rw [e]; exact h2), h.ne⟩
end Go.Proofs.YthdmoplclllhjaaGreat

/- HeaF -/
namespace Go.Proofs.YthdmoplclllhjaaGreat
open Go.RowKit
set_option linter.unusedVariables false
set_option linter.unusedSimpArgs false

/-- a commit is not great beyond measure -/
def CwB (v : Cw) : Prop := v.c.ps.length ≤ 1100000 ∧ v.c.vv.length ≤ 1100000 ∧ v.c.o.p.length ≤ 1100000 ∧ v.c.o.ds.length ≤ 1100000
set_option maxRecDepth 100000 in
set_option maxHeartbeats 8000000 in
theorem same11_any (u v : Cw) (w : World) (hu : CwAt w u) (hv : CwAt w v) (hb : CwB u) (he : u.c = v.c) :
    Calls Tryz.prog 43 #[.agg (cwcells u), .agg (cwcells v)] w fun e w' => e = .returned (.bool true) ∧ Below w.heap.size w w' := by
  obtain ⟨⟨⟨⟨r, i⟩, s⟩, ps, uu, t, ⟨k, n, x, p, ds⟩⟩, qa, qc, ua, uc, pa, pc, da, dc⟩ := u
  obtain ⟨c', qa', qc', ua', uc', pa', pc', da', dc'⟩ := v
  dsimp only at he
  subst he
  have HU := Lib.hid hu
  have HV := Lib.hid hv
  obtain ⟨b1, b2, b3, b4⟩ := hb
  dsimp only at b1 b2 b3 b4
  have E : Hid (Below w.heap.size w ((w.alloc (.cells (ccells r i s qa ps.length qc ua uu.length uc t k pa p.length pc n x da ds.length dc) 46)).alloc (.cells (ccells r i s qa' ps.length qc' ua' uu.length uc' t k pa' p.length pc' n x da' ds.length dc') 46)) ∧ ((w.alloc (.cells (ccells r i s qa ps.length qc ua uu.length uc t k pa p.length pc n x da ds.length dc) 46)).alloc (.cells (ccells r i s qa' ps.length qc' ua' uu.length uc' t k pa' p.length pc' n x da' ds.length dc') 46)).heap[w.heap.size]? = some (.cells (ccells r i s qa ps.length qc ua uu.length uc t k pa p.length pc n x da ds.length dc) 46 (0, 0)) ∧ ((w.alloc (.cells (ccells r i s qa ps.length qc ua uu.length uc t k pa p.length pc n x da ds.length dc) 46)).alloc (.cells (ccells r i s qa' ps.length qc' ua' uu.length uc' t k pa' p.length pc' n x da' ds.length dc') 46)).heap[w.heap.size + 1]? = some (.cells (ccells r i s qa' ps.length qc' ua' uu.length uc' t k pa' p.length pc' n x da' ds.length dc') 46 (0, 0))) :=
    Lib.hid ⟨((Below.refl _ _).alloc (Nat.le_refl _) _).alloc (by simp) _, (heap_old _ _ (by simp)).trans (heap_new _ _), heap_new2 _ _ _⟩
  clear hu hv
  simp only [cwcells]
  go_enter Tryz.func43, Tryz.ntmps43
  go_upto_region 1 with (fail)
  obtain ⟨wa, hwa⟩ : ∃ wa, wa = ((w.alloc (.cells (ccells r i s qa ps.length qc ua uu.length uc t k pa p.length pc n x da ds.length dc) 46)).alloc (.cells (ccells r i s qa' ps.length qc' ua' uu.length uc' t k pa' p.length pc' n x da' ds.length dc') 46)) := ⟨_, rfl⟩
  simp only [ccells] at hwa
  have E2 := E.out
  clear E
  simp only [ccells] at E2
  rw [← hwa] at E2 ⊢
  clear hwa
  have E := Lib.hid E2
  clear E2
  have d0 := cells_at E.out.2.1
  have d1 := cells_at E.out.2.2
  have z0 := heap_lt E.out.2.1
  have z1 := heap_lt E.out.2.2
  have x1 : eqD ((r, i), s) ((r, i), s) = true := (eqD_iff _ _).2 rfl
  go_wp2_with fail
  refine (same_any qa qa' qc qc' ps ps _ (HU.out.ps.below E.out.1) (HV.out.ps.below E.out.1) b1 b1).mono ?_
  rintro e w1 ⟨rfl, hb1⟩
  have B1 := Lib.hid (below2 E.out.1 hb1 E.out.1.size)
  have F1 := Lib.hid ((hb1.block _ z0).trans E.out.2.1)
  have G1 := Lib.hid ((hb1.block _ z1).trans E.out.2.2)
  clear hb1 E d0 d1 z0 z1
  have d0 := cells_at F1.out
  have d1 := cells_at G1.out
  have z0 := heap_lt F1.out
  have z1 := heap_lt G1.out
  have x2 : decide (ps = ps) = true := decide_eq_true rfl
  go_wp2_with fail
  refine (same_any ua ua' uc uc' uu uu _ (HU.out.vv.below B1.out) (HV.out.vv.below B1.out) b2 b2).mono ?_
  rintro e w2 ⟨rfl, hb1⟩
  have B2 := Lib.hid (below2 B1.out hb1 B1.out.size)
  have F2 := Lib.hid ((hb1.block _ z0).trans F1.out)
  have G2 := Lib.hid ((hb1.block _ z1).trans G1.out)
  clear hb1 d0 d1 z0 z1 B1 F1 G1
  have d0 := cells_at F2.out
  have d1 := cells_at G2.out
  have z0 := heap_lt F2.out
  have z1 := heap_lt G2.out
  have x3 : decide (uu = uu) = true := decide_eq_true rfl
  go_wp2_with fail
  refine (rsameO_any ⟨⟨k, n, x, p, ds⟩, pa, pc, da, dc⟩ ⟨⟨k, n, x, p, ds⟩, pa', pc', da', dc'⟩ _ (HU.out.below B2.out).op (HV.out.below B2.out).op b3 b4 b3 b4).mono ?_
  rintro e w3 ⟨q, rfl, hq, hb1⟩
  obtain rfl : q = true := hq.2 rfl
  have B3 := Lib.hid (below2 B2.out hb1 B2.out.size)
  clear hb1 hq
  go_wp2_with fail
  go_ret
  exact ⟨rfl, B3.out⟩
set_option maxRecDepth 100000 in
set_option maxHeartbeats 8000000 in
theorem sameAll11_any (a a' : Option Addr) (c c' : Nat) (l l' : List Cw) (w : World) (h : Cms w a c l) (h' : Cms w a' c' l') (hb : ∀ v ∈ l, CwB v) (he : cms l = cms l') (hl : l.length ≤ 1000) :
    Calls Tryz.prog 32 #[.slice a l.length c, .slice a' l'.length c'] w fun e w' => e = .returned (.bool true) ∧ Below w.heap.size w w' := by
  have hll : l'.length = l.length := by have h1 := congrArg List.length he; unfold cms at h1; simpa using h1.symm
  have H := Lib.hid h
  have H' := Lib.hid h'
  have Hb := Lib.hid hb
  have He := Lib.hid he
  rw [hll]
  have Hll := Lib.hid hll
  clear h h' hb he hll
  go_enter Tryz.func32, Tryz.ntmps32
  go_wp2_with fail
  go_loopw [5] (fun j wr => ∃ k : Nat, k ≤ l.length ∧ j = .int .i64 k ∧ Hid (Below w.heap.size w wr)) (fun j _ => l.length - (intOf j).toNat)
  case atStart => exact ⟨0, Nat.zero_le _, rfl, Lib.hid (Below.refl _ _)⟩
  case round =>
    obtain ⟨k, hk, rfl, B⟩ := hrel
    by_cases hlt : k < l.length
    · obtain ⟨x, hx⟩ : ∃ v, l[k]? = some v := ⟨l[k], by simp [hlt]⟩
      obtain ⟨y, hy⟩ : ∃ v, l'[k]? = some v := ⟨l'[k]'(by rw [Hll.out]; exact hlt), by simp⟩
      have hxy : x.c = y.c := by
        have h1 := cms_i hx
        rw [He.out, cms_i hy] at h1
        exact (Option.some.inj h1).symm
      have HX := Lib.hid ((H.out.each x (List.mem_of_getElem? hx)).below B.out)
      have HY := Lib.hid ((H'.out.each y (List.mem_of_getElem? hy)).below B.out)
      have HB := Lib.hid (Hb.out x (List.mem_of_getElem? hx))
      have Hxy := Lib.hid hxy
      obtain ⟨ad, had, ⟨c0, c1, c2, c3, c4, c5, c6, c7, c8, c9, c10⟩, hlb⟩ := (H.out.below B.out).at_ hx
      obtain ⟨ae, hae, ⟨e0, e1, e2, e3, e4, e5, e6, e7, e8, e9, e10⟩, hlb2⟩ := (H'.out.below B.out).at_ hy
      have B0 : Hid (Below w.heap.size w wr.drew) := Lib.hid (B.out.trans (((Below.refl wr.heap.size wr).drew).mono B.out.size))
      subst had
      subst hae
      clear hx hy hxy
      obtain ⟨⟨⟨⟨r, i1⟩, s⟩, ps, uu, t, ⟨kk, n, x1, p, ds⟩⟩, qa, qc, ua, uc, pa, pc, da, dc⟩ := x
      obtain ⟨⟨⟨⟨r', i'⟩, s'⟩, ps', uu', t', ⟨k', n', x', p', ds'⟩⟩, qa', qc', ua', uc', pa', pc', da', dc'⟩ := y
      dsimp only at c0 c1 c2 c3 c4 c5 c6 c7 c8 c9 c10 e0 e1 e2 e3 e4 e5 e6 e7 e8 e9 e10
      go_wp2_with fail
      refine region_text [([0, 1, 2, 3, 4, 5, 6, 7, 8, 9], false)] mixed (by kernel_rfl) ?_
      simp only [wpSegs, List.map_cons, List.map_nil, List.getD_cons_succ, List.getD_cons_zero]
      go_wp2_with fail
      refine (same11_any ⟨⟨((r, i1), s), ps, uu, t, ⟨kk, n, x1, p, ds⟩⟩, qa, qc, ua, uc, pa, pc, da, dc⟩ ⟨⟨((r', i'), s'), ps', uu', t', ⟨k', n', x', p', ds'⟩⟩, qa', qc', ua', uc', pa', pc', da', dc'⟩ _ (HX.out.below (Below.refl _ _).drew) (HY.out.below (Below.refl _ _).drew) HB.out Hxy.out).mono ?_
      rintro e w1 ⟨rfl, hb⟩
      have HB1 := Lib.hid (below2 B0.out hb B0.out.size)
      clear hb c0 c1 c2 c3 c4 c5 c6 c7 c8 c9 c10 e0 e1 e2 e3 e4 e5 e6 e7 e8 e9 e10
      go_wp2_with fail
      refine And.intro (by kernel_rfl) ?_
      go_wp2_with fail
      go_roundw
      case rel => exact ⟨k + 1, by omega, by go_num, HB1⟩
      case measure => simp [intOf]; omega
    · go_wp2_with fail
      go_ret
      exact ⟨rfl, B.out⟩
end Go.Proofs.YthdmoplclllhjaaGreat

/- Kno15 -/
/- Bo15 -/
namespace Go.Proofs.YthdmoplclllhjaaGreat
open Go.RowKit
set_option linter.unusedVariables false
set_option linter.unusedSimpArgs false

end Go.Proofs.YthdmoplclllhjaaGreat

/- Kno15 -/
namespace Go.Proofs.YthdmoplclllhjaaGreat
open Go.RowKit
set_option linter.unusedVariables false
set_option linter.unusedSimpArgs false

@[go_sem] theorem index3_0 (a b c : Value) (w : World) : (Instr.index 139 (.agg #[a, b, c]) (.int .i64 0)).run Tryz.prog w = .ok a w := by kernel_rfl
@[go_sem] theorem index3_1 (a b c : Value) (w : World) : (Instr.index 139 (.agg #[a, b, c]) (.int .i64 1)).run Tryz.prog w = .ok b w := by kernel_rfl
@[go_sem] theorem index3_2 (a b c : Value) (w : World) : (Instr.index 139 (.agg #[a, b, c]) (.int .i64 2)).run Tryz.prog w = .ok c w := by kernel_rfl
end Go.Proofs.YthdmoplclllhjaaGreat

/- LwA -/
/- Kno13 -/
namespace Go.Proofs.YthdmoplclllhjaaGreat
open Go.RowKit
set_option linter.unusedVariables false
set_option linter.unusedSimpArgs false
set_option maxRecDepth 100000
@[go_sem] theorem index4_0 (a0 a1 a2 a3 a4 a5 a6 a7 a8 a9 a10 b0 b1 b2 b3 b4 b5 b6 b7 b8 b9 b10 c0 c1 c2 c3 c4 c5 c6 c7 c8 c9 c10 d0 d1 d2 d3 d4 d5 d6 d7 d8 d9 d10 : Value) (w : World) : (Instr.index 130 (.agg #[a0, a1, a2, a3, a4, a5, a6, a7, a8, a9, a10, b0, b1, b2, b3, b4, b5, b6, b7, b8, b9, b10, c0, c1, c2, c3, c4, c5, c6, c7, c8, c9, c10, d0, d1, d2, d3, d4, d5, d6, d7, d8, d9, d10]) (.int .i64 0)).run Tryz.prog w = .ok (.agg #[a0, a1, a2, a3, a4, a5, a6, a7, a8, a9, a10]) w := by kernel_rfl
@[go_sem] theorem index4_1 (a0 a1 a2 a3 a4 a5 a6 a7 a8 a9 a10 b0 b1 b2 b3 b4 b5 b6 b7 b8 b9 b10 c0 c1 c2 c3 c4 c5 c6 c7 c8 c9 c10 d0 d1 d2 d3 d4 d5 d6 d7 d8 d9 d10 : Value) (w : World) : (Instr.index 130 (.agg #[a0, a1, a2, a3, a4, a5, a6, a7, a8, a9, a10, b0, b1, b2, b3, b4, b5, b6, b7, b8, b9, b10, c0, c1, c2, c3, c4, c5, c6, c7, c8, c9, c10, d0, d1, d2, d3, d4, d5, d6, d7, d8, d9, d10]) (.int .i64 1)).run Tryz.prog w = .ok (.agg #[b0, b1, b2, b3, b4, b5, b6, b7, b8, b9, b10]) w := by kernel_rfl
@[go_sem] theorem index4_2 (a0 a1 a2 a3 a4 a5 a6 a7 a8 a9 a10 b0 b1 b2 b3 b4 b5 b6 b7 b8 b9 b10 c0 c1 c2 c3 c4 c5 c6 c7 c8 c9 c10 d0 d1 d2 d3 d4 d5 d6 d7 d8 d9 d10 : Value) (w : World) : (Instr.index 130 (.agg #[a0, a1, a2, a3, a4, a5, a6, a7, a8, a9, a10, b0, b1, b2, b3, b4, b5, b6, b7, b8, b9, b10, c0, c1, c2, c3, c4, c5, c6, c7, c8, c9, c10, d0, d1, d2, d3, d4, d5, d6, d7, d8, d9, d10]) (.int .i64 2)).run Tryz.prog w = .ok (.agg #[c0, c1, c2, c3, c4, c5, c6, c7, c8, c9, c10]) w := by kernel_rfl
@[go_sem] theorem index4_3 (a0 a1 a2 a3 a4 a5 a6 a7 a8 a9 a10 b0 b1 b2 b3 b4 b5 b6 b7 b8 b9 b10 c0 c1 c2 c3 c4 c5 c6 c7 c8 c9 c10 d0 d1 d2 d3 d4 d5 d6 d7 d8 d9 d10 : Value) (w : World) : (Instr.index 130 (.agg #[a0, a1, a2, a3, a4, a5, a6, a7, a8, a9, a10, b0, b1, b2, b3, b4, b5, b6, b7, b8, b9, b10, c0, c1, c2, c3, c4, c5, c6, c7, c8, c9, c10, d0, d1, d2, d3, d4, d5, d6, d7, d8, d9, d10]) (.int .i64 3)).run Tryz.prog w = .ok (.agg #[d0, d1, d2, d3, d4, d5, d6, d7, d8, d9, d10]) w := by kernel_rfl
theorem of13_any (rep : Int) (w : World) : Calls Tryz.prog 96 #[.int .u8 rep] w fun e w' => e = .returned (.agg #[.int .u8 rep, .int .u32 1, .int .u64 1]) ∧ Below w.heap.size w w' := by
  go_enter Tryz.func96, Tryz.ntmps96
  go_wp2_with fail
  exact bodyPost_ret (v := .agg #[.int .u8 rep, .int .u32 1, .int .u64 1]) (by simp [results, Tryz.results96, go_sem]) rfl ⟨rfl, (Below.refl _ _).alloc (Nat.le_refl _) _⟩
end Go.Proofs.YthdmoplclllhjaaGreat

/- LwA -/
namespace Go.Proofs.YthdmoplclllhjaaGreat
open Go.RowKit
set_option linter.unusedVariables false
set_option linter.unusedSimpArgs false

end Go.Proofs.YthdmoplclllhjaaGreat

/- LwL -/
namespace Go.Proofs.YthdmoplclllhjaaGreat
open Go.RowKit
set_option linter.unusedVariables false
set_option linter.unusedSimpArgs false

theorem CmP.b {v : Cw} (h : CmP v.c) : CwB v := by
  have h1 := h.few
  have h2 : v.c.vv.length ≤ 64 := by rw [← h.canon]; exact vecOf_length _
  have h3 := h.op.path.2.1
  have h4 := h.op.few
  exact ⟨by omega, by omega, by omega, by omega⟩
theorem CmP.vv0 {c : Cm} (h : CmP c) : c.vv ≠ [] := fun e => by
  have h1 := h.own
  rw [e, getN_nil] at h1
  have h2 := ((may_iff _).1 h.dot).2.1
  omega
/-- a row of dots whose first number may have been changed -/
def SeqW (w : World) (base : Nat) (a : Option Addr) (n c : Nat) : Prop := ∃ g xs, ∃ x : Int, a = some ⟨g, 0, none⟩ ∧ w.ownsRow base 41 3 (.slice a n c) n xs ∧ xs[2]? = some (.int .u64 x)
theorem SeqW.of {w : World} {base : Nat} {a : Option Addr} {c : Nat} {v : List Dt} (h : OwnD w base a c v) (h0 : v ≠ []) : SeqW w base a v.length c := by
  obtain ⟨g, rfl, _, _⟩ := h.form h0
  obtain ⟨d, hd⟩ : ∃ d, v[0]? = some d := ⟨v[0]'(List.length_pos_iff.2 h0), by simp [List.length_pos_iff.2 h0]⟩
  refine ⟨g, dcells v, d.2, rfl, h, ?_⟩
  have := dcells_at hd 2 (by omega)
  simpa [dcell] using this
/-- what was handed out, while its numbers are changed -/
structure StE (w0 wx : World) (base : Nat) (ra : Option Addr) (rc : Nat) (R : List Cw) : Prop where
  row : OwnC wx base ra rc R
  each : ∀ v ∈ R, SeqW wx base v.va v.c.vv.length v.vc
  bel : Below base w0 wx
  eq : base = w0.heap.size
theorem StE.put {w0 wx : World} {base : Nat} {ra : Option Addr} {rc : Nat} {R : List Cw} (h : StE w0 wx base ra rc R) {v : Cw} (hv : v ∈ R) {g : Nat} (hg : v.va = some ⟨g, 0, none⟩) (y : Int) : StE w0 (wx.setCell ⟨g, 2, none⟩ (.int .u64 y)) base ra rc R := by
  have hC : Chg [g] wx (wx.setCell ⟨g, 2, none⟩ (.int .u64 y)) := (Chg.refl _ _).put _ _ (by simp)
  obtain ⟨g1, xs1, x1, e1, o1, _⟩ := h.each v hv
  rw [hg] at e1 o1
  cases e1
  have hgl := (owns_lt o1 g (by simp [ob])).1
  refine ⟨h.row.chg hC (fun k hk hm => ?_), fun u hu => ?_, h.bel.trans (hC.below (by rw [h.eq]; exact h.bel.size) (by simpa using hgl)), h.eq⟩
  · rw [List.mem_singleton] at hm
    subst hm
    obtain ⟨C1, f1, q1⟩ := ob_row h.row k hk
    obtain ⟨C2, f2, q2⟩ := ob_row o1 k (by simp [ob])
    rw [q1] at q2
    cases q2
  · obtain ⟨g2, xs, x, e2, o2, hx⟩ := h.each u hu
    by_cases e : g2 = g
    · subst e
      rw [e2] at o2 ⊢
      refine ⟨g2, xs.set 2 (.int .u64 y), y, rfl, (o2.stored 2 (.int .u64 y)).1, ?_⟩
      rw [List.getElem?_set_self (List.getElem?_eq_some_iff.1 hx).1]
    · exact ⟨g2, xs, x, e2, owns_chg o2 hC (fun k hk hm => by
        rw [e2] at hk
        have h1 : k = g2 := by simpa [ob] using hk
        rw [List.mem_singleton] at hm
        exact e (by rw [← h1, hm])), hx⟩
theorem StE.cell {w0 wx : World} {base : Nat} {ra : Option Addr} {rc : Nat} {R : List Cw} (h : StE w0 wx base ra rc R) {v : Cw} (hv : v ∈ R) : ∃ g, ∃ x : Int, v.va = some ⟨g, 0, none⟩ ∧ wx.cell? ⟨g, 2, none⟩ = some (.int .u64 x) ∧ wx.frozen? ⟨g, 2, none⟩ = false ∧ g < wx.heap.size := by
  obtain ⟨g, xs, x, e, o, hx⟩ := h.each v hv
  rw [e] at o
  refine ⟨g, x, e, ?_, World.ownsRow.frozenAt o 2, (owns_lt o g (by simp [ob])).2⟩
  have h1 := World.ownsRow.cellAt (g := g) o 2 (by have h2 := (List.getElem?_eq_some_iff.1 hx).1; have h3 := o.1; omega)
  rw [h1, hx]
end Go.Proofs.YthdmoplclllhjaaGreat
