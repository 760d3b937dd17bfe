/- The reference's MayIncs, May, JoinIncs (varveref17). | varveref36.who, ahead, SameFlaws: the contracts. -/
import Derived.Test.YtaandcblndldmaaGreatMatB
import Derived.Test.YtaandcblndldmaaGreatVec4
import Derived.Test.YtaandcblndldmaaGreatLwV
/- EpoC -/
namespace Go.Proofs.YtaandcblndldmaaGreat
open Go.RowKit
set_option linter.unusedVariables false
set_option linter.unusedSimpArgs false

set_option maxHeartbeats 1000000 in
theorem rmayIncs_any (a : Option Addr) (c : Nat) (l : List Int) (n : Int) (w : World) (hv : U32 w a c l) (hn : l.length ≤ 1100000) :
    Calls Tryz.prog 97 #[.slice a l.length c, .int .i64 n] w fun e w' => e = .returned (.bool (mayIncs l n)) ∧ Below w.heap.size w w' := by
  have Hv := Lib.hid hv
  clear hv
  by_cases h1 : n < 1
  · have He := Lib.hid (show mayIncs l n = false by simp [mayIncs]; omega)
    go_enter Tryz.func97, Tryz.ntmps97
    go_wp2_with fail
    go_ret
    exact ⟨by rw [He.out]; rfl, Below.refl _ _⟩
  · have h1' : decide (n < 1) = false := by simpa using h1
    by_cases h2 : 16 < n
    · have He := Lib.hid (show mayIncs l n = false by simp [mayIncs]; omega)
      go_enter Tryz.func97, Tryz.ntmps97
      go_wp2_with fail
      go_ret
      exact ⟨by rw [He.out]; rfl, Below.refl _ _⟩
    · have h2' : decide (16 < n) = false := by simpa using h2
      by_cases h3 : (l.length : Int) = n
      · subst h3
        have He := Lib.hid (show mayIncs l l.length = l.all incOk by simp [mayIncs]; omega)
        go_enter Tryz.func97, Tryz.ntmps97
        go_wp2_with fail
        go_loopw [5] (fun j wr => ∃ k : Nat, k ≤ l.length ∧ j = .int .i64 k ∧ Hid (∀ x ∈ l.take k, incOk x = true) ∧ Below w.heap.size w wr) (fun j _ => l.length - (intOf j).toNat)
        case atStart => exact ⟨0, Nat.zero_le _, rfl, Lib.hid (by simp), Below.refl _ _⟩
        case round =>
          obtain ⟨k, hk, rfl, hle, hb⟩ := hrel
          have Hb := Lib.hid hb
          clear hb
          by_cases hlt : k < l.length
          · obtain ⟨x, hx⟩ : ∃ x, l[k]? = some x := ⟨l[k], by simp [hlt]⟩
            obtain ⟨ad, had, c0, hl0⟩ := (Hv.out.below Hb.out).at hx
            subst had
            have Hx := Lib.hid hx
            clear hx
            by_cases g1 : x < 1
            · have Ha := Lib.hid (show l.all incOk = false by rw [List.all_eq_false]; exact ⟨x, List.mem_of_getElem? Hx.out, by simp [incOk]; omega⟩)
              go_wp2_with fail
              go_ret
              exact ⟨by rw [He.out, Ha.out]; rfl, Hb.out⟩
            · have g1' : decide (x < 1) = false := by simpa using g1
              by_cases g2 : 4 < x
              · have Ha := Lib.hid (show l.all incOk = false by rw [List.all_eq_false]; exact ⟨x, List.mem_of_getElem? Hx.out, by simp [incOk]; omega⟩)
                go_wp2_with fail
                go_ret
                exact ⟨by rw [He.out, Ha.out]; rfl, Hb.out⟩
              · have g2' : decide (4 < x) = false := by simpa using g2
                have Hi := Lib.hid (show incOk x = true by simp [incOk]; omega)
                go_wp2_with fail
                go_roundw
                case rel => exact ⟨k + 1, by omega, by go_num, Lib.hid (all_snoc Hx.out hle.out Hi.out), Hb.out⟩
                case measure => simp [intOf]; omega
          · have Ha := Lib.hid (show l.all incOk = true by rw [List.all_eq_true]; intro x hx; exact hle.out x (by rwa [List.take_of_length_le (by omega)]))
            go_wp2_with fail
            go_ret
            exact ⟨by rw [He.out, Ha.out]; rfl, Hb.out⟩
      · have h3' : ((l.length : Int) == n) = false := by simpa using h3
        have He := Lib.hid (show mayIncs l n = false by simp [mayIncs, h3])
        go_enter Tryz.func97, Tryz.ntmps97
        go_wp2_with fail
        go_ret
        exact ⟨by rw [He.out]; rfl, Below.refl _ _⟩

end Go.Proofs.YtaandcblndldmaaGreat

/- AudL -/
namespace Go.Proofs.YtaandcblndldmaaGreat
open Go.RowKit
set_option linter.unusedVariables false
set_option linter.unusedSimpArgs false

set_option maxRecDepth 100000 in
set_option maxHeartbeats 16000000 in
theorem who36_any (v : Sw) (m : Nat) (w : World) (h : SwAt w m v) (hN : SwN v) : Calls Tryz.prog 39 #[.agg (swcells v)] w fun e w' => e = .returned (.bool (whoB v)) ∧ Below w.heap.size w w' := by
  obtain ⟨k, ip, ia, ic, incs, ⟨⟨num, F, tips, t, tr⟩, fa, fc, ta, tc, ra, rc⟩, la, lc, l⟩ := v
  have H := Lib.hid h
  have hk := h.k
  have n1 := hN.incs
  dsimp only at hk n1
  have B0 : Hid (BoxE 35 w (w.alloc (.cells (sncells k ip ia incs.length ic num fa F.length fc ta tips.length tc t ra tr.length rc la l.length lc) 35)) (sncells k ip ia incs.length ic num fa F.length fc ta tips.length tc t ra tr.length rc la l.length lc)) := Lib.hid ⟨heap_new _ _, (Below.refl _ _).alloc (Nat.le_refl _) _⟩
  clear h hN
  simp only [swcells]
  go_enter Tryz.func39, Tryz.ntmps39
  go_upto_region 2 with (fail)
  generalize (w.alloc (.cells (sncells k ip ia incs.length ic num fa F.length fc ta tips.length tc t ra tr.length rc la l.length lc) 35)) = wa at B0 ⊢
  have d0 := cells_at B0.out.blk
  simp only [sncells] at d0
  have z0 := heap_lt B0.out.blk
  have BD := Lib.hid (B0.out.step ((Below.refl _ _).drew))
  clear B0
  refine region_text [([0, 1, 2, 3, 4, 5, 6, 7, 8, 9, 10, 11, 12, 13, 14, 15, 16, 17, 18, 19, 20, 21, 22, 23, 24, 25, 26, 27, 28, 29, 30], false)] mixed (by kernel_rfl) ?_
  simp only [wpSegs, List.map_cons, List.map_nil, List.getD_cons_succ, List.getD_cons_zero]
  go_wp2_with fail
  refine (rmayActor_any k ip _).mono ?_
  rintro e w1 ⟨rfl, hb⟩
  have B1 := Lib.hid (BD.out.step hb)
  clear hb d0 z0 BD
  have d0 := cells_at B1.out.blk
  simp only [sncells] at d0
  have z0 := heap_lt B1.out.blk
  cases hm : mayA ((k : Int), ip) with
  | false =>
    have He := Lib.hid (show whoB ⟨k, ip, ia, ic, incs, ⟨⟨num, F, tips, t, tr⟩, fa, fc, ta, tc, ra, rc⟩, la, lc, l⟩ = false by simp [whoB, mayK, hm])
    clear hm
    go_wp2_with fail
    refine And.intro (by kernel_rfl) ?_
    go_wp2_with fail
    go_ret
    exact ⟨by rw [He.out]; rfl, B1.out.bel⟩
  | true =>
    have Hm := Lib.hid hm
    clear hm
    go_wp2_with fail
    refine (rmayIncs_any ia ic incs incs.length _ (H.out.inc.below B1.out.bel) n1).mono ?_
    rintro e w2 ⟨rfl, hb⟩
    have B2 := Lib.hid (B1.out.step hb)
    clear hb d0 z0
    have d0 := cells_at B2.out.blk
    simp only [sncells] at d0
    have z0 := heap_lt B2.out.blk
    cases hmi : mayIncs incs incs.length with
    | false =>
      have He := Lib.hid (show whoB ⟨k, ip, ia, ic, incs, ⟨⟨num, F, tips, t, tr⟩, fa, fc, ta, tc, ra, rc⟩, la, lc, l⟩ = false by simp [whoB, mayK, hmi])
      clear hmi
      go_wp2_with fail
      refine And.intro (by kernel_rfl) ?_
      go_wp2_with fail
      go_ret
      exact ⟨by rw [He.out]; rfl, B2.out.bel⟩
    | true =>
      have Hmi := Lib.hid hmi
      clear hmi
      by_cases hkn : (k : Int) < (incs.length : Int)
      rotate_left
      · have y0 : decide ((k : Int) < (incs.length : Int)) = false := decide_eq_false hkn
        have He := Lib.hid (show whoB ⟨k, ip, ia, ic, incs, ⟨⟨num, F, tips, t, tr⟩, fa, fc, ta, tc, ra, rc⟩, la, lc, l⟩ = false by simp [whoB, mayK, hkn])
        go_wp2_with fail
        refine And.intro (by kernel_rfl) ?_
        go_wp2_with fail
        go_ret
        exact ⟨by rw [He.out]; rfl, B2.out.bel⟩
      have y0 : decide ((k : Int) < (incs.length : Int)) = true := decide_eq_true hkn
      have hl : k < incs.length := by omega
      obtain ⟨x, hx⟩ : ∃ x, incs[k]? = some x := ⟨incs[k], by simp [hl]⟩
      have He := Lib.hid (mayK_of (a := ⟨k, ip, incs, []⟩) (n := incs.length) Hm.out hkn Hmi.out (x := x) (by simpa using hx))
      obtain ⟨ad, had, c0, hl0⟩ := (H.out.inc.below B2.out.bel).at hx
      subst had
      clear hx
      by_cases hxi : x = ip
      · have y1 : (x == ip) = true := by rw [hxi]; simp
        replace He := Lib.hid (show whoB ⟨k, ip, some ad, ic, incs, ⟨⟨num, F, tips, t, tr⟩, fa, fc, ta, tc, ra, rc⟩, la, lc, l⟩ = true from He.out.trans (by rw [hxi]; simp))
        go_wp2_with fail
        refine And.intro (by kernel_rfl) ?_
        clear c0
        go_wp2_with fail
        go_ret
        exact ⟨by rw [He.out]; rfl, B2.out.bel⟩
      · have y1 : (x == ip) = false := by rw [beq_eq_false_iff_ne]; exact hxi
        replace He := Lib.hid (show whoB ⟨k, ip, some ad, ic, incs, ⟨⟨num, F, tips, t, tr⟩, fa, fc, ta, tc, ra, rc⟩, la, lc, l⟩ = false from He.out.trans (by rw [beq_eq_false_iff_ne]; exact hxi))
        go_wp2_with fail
        refine And.intro (by kernel_rfl) ?_
        clear c0
        go_wp2_with fail
        go_ret
        exact ⟨by rw [He.out]; rfl, B2.out.bel⟩
set_option maxRecDepth 100000 in
set_option maxHeartbeats 8000000 in
theorem ahead36_any (u v : Cw) (w : World) :
    Calls Tryz.prog 100 #[.agg (cwcells u), .agg (cwcells v)] w fun e w' => e = .returned (.bool (ltCb u.c v.c)) ∧ Below w.heap.size w w' := by
  obtain ⟨⟨⟨⟨r, i⟩, s⟩, ps, uu, t, ⟨k, n, x, p, ds⟩⟩, qa, qc, ua, uc, pa, pc, da, dc⟩ := u
  obtain ⟨⟨⟨⟨r', i'⟩, s'⟩, ps', uu', t', ⟨k', n', x', p', ds'⟩⟩, qa', qc', ua', uc', pa', pc', da', dc'⟩ := v
  have E : Hid (Below w.heap.size w ((w.alloc (.cells (ccells r i s qa ps.length qc ua uu.length uc t k pa p.length pc n x da ds.length dc) 54)).alloc (.cells (ccells r' i' s' qa' ps'.length qc' ua' uu'.length uc' t' k' pa' p'.length pc' n' x' da' ds'.length dc') 54)) ∧ ((w.alloc (.cells (ccells r i s qa ps.length qc ua uu.length uc t k pa p.length pc n x da ds.length dc) 54)).alloc (.cells (ccells r' i' s' qa' ps'.length qc' ua' uu'.length uc' t' k' pa' p'.length pc' n' x' da' ds'.length dc') 54)).heap[w.heap.size]? = some (.cells (ccells r i s qa ps.length qc ua uu.length uc t k pa p.length pc n x da ds.length dc) 54 (0, 0)) ∧ ((w.alloc (.cells (ccells r i s qa ps.length qc ua uu.length uc t k pa p.length pc n x da ds.length dc) 54)).alloc (.cells (ccells r' i' s' qa' ps'.length qc' ua' uu'.length uc' t' k' pa' p'.length pc' n' x' da' ds'.length dc') 54)).heap[w.heap.size + 1]? = some (.cells (ccells r' i' s' qa' ps'.length qc' ua' uu'.length uc' t' k' pa' p'.length pc' n' x' da' ds'.length dc') 54 (0, 0))) :=
    Lib.hid ⟨((Below.refl _ _).alloc (Nat.le_refl _) _).alloc (by simp) _, (heap_old _ _ (by simp)).trans (heap_new _ _), heap_new2 _ _ _⟩
  have d0 := cells_at E.out.2.1
  have d1 := cells_at E.out.2.2
  have z0 := heap_lt E.out.2.1
  have z1 := heap_lt E.out.2.2
  simp only [ccells] at d0 d1
  simp only [cwcells]
  go_enter Tryz.func100, Tryz.ntmps100
  by_cases hlt : t < t'
  · have y0 : decide (t < t') = true := decide_eq_true hlt
    have Hr := Lib.hid (show ltCb ⟨((r, i), s), ps, uu, t, ⟨k, n, x, p, ds⟩⟩ ⟨((r', i'), s'), ps', uu', t', ⟨k', n', x', p', ds'⟩⟩ = true by
      unfold ltCb
      rw [decide_eq_true (show t < t' from hlt)]; rfl)
    go_wp2_with fail
    go_ret
    exact ⟨by rw [Hr.out]; rfl, E.out.1⟩
  · have y0 : decide (t < t') = false := decide_eq_false hlt
    by_cases ht : t = t'
    · have y1 : (t == t') = true := by rw [beq_iff_eq]; exact ht
      have Hr := Lib.hid (show ltCb ⟨((r, i), s), ps, uu, t, ⟨k, n, x, p, ds⟩⟩ ⟨((r', i'), s'), ps', uu', t', ⟨k', n', x', p', ds'⟩⟩ = lessD ((r, i), s) ((r', i'), s') by
        unfold ltCb
        rw [decide_eq_false (show ¬ t < t' from hlt), decide_eq_true (show t = t' from ht)]; simp)
      clear ht hlt
      go_wp2_with fail
      refine (rless_any r i s r' i' s' _).mono ?_
      rintro e w1 ⟨rfl, hg⟩
      have HB := Lib.hid (below2 E.out.1 hg E.out.1.size)
      clear hg
      go_wp2_with fail
      go_ret
      exact ⟨by rw [Hr.out]; rfl, HB.out⟩
    · have y1 : (t == t') = false := by rw [beq_eq_false_iff_ne]; exact ht
      have Hr := Lib.hid (show ltCb ⟨((r, i), s), ps, uu, t, ⟨k, n, x, p, ds⟩⟩ ⟨((r', i'), s'), ps', uu', t', ⟨k', n', x', p', ds'⟩⟩ = false by
        unfold ltCb
        rw [decide_eq_false (show ¬ t < t' from hlt), decide_eq_false (show ¬ t = t' from ht)]; simp)
      clear ht hlt
      go_wp2_with fail
      go_ret
      exact ⟨by rw [Hr.out]; rfl, E.out.1⟩
theorem fcells_at {l : List Fw} {k : Nat} {x : Fw} (h : l[k]? = some x) : (fcells l)[k * 2]? = some (.int .i64 x.1) ∧ (fcells l)[k * 2 + 1]? = some (.int .i64 x.2) := by
  induction l generalizing k with
  | nil => simp at h
  | cons y l ih =>
    cases k with
    | zero => simp at h; subst h; exact ⟨rfl, rfl⟩
    | succ k =>
      have := ih (k := k) (by simpa using h)
      rw [show (k + 1) * 2 = k * 2 + 1 + 1 from by omega]
      exact ⟨by simpa [fcells] using this.1, by simpa [fcells] using this.2⟩
theorem FlV.at2 {w : World} {a : Option Addr} {c : Nat} {v : List Fw} (h : FlV w a c v) {k : Nat} {d : Fw} (hd : v[k]? = some d) :
    ∃ ad, a = some ad ∧ w.cell? (ad.add (k * 2)) = some (.int .i64 d.1) ∧ w.cell? ⟨(ad.add (k * 2)).block, (ad.add (k * 2)).off + 1, none⟩ = some (.int .i64 d.2) ∧ ad.block < w.heap.size := by
  have hk : k < v.length := (List.getElem?_eq_some_iff.1 hd).1
  obtain ⟨_, _, _, ⟨_, h0, _⟩ | ⟨ad, rfl, hc⟩⟩ := h
  · omega
  · have h0 := hc (k * 2) (.int .i64 d.1) (fcells_at hd).1
    have h1 := hc (k * 2 + 1) (.int .i64 d.2) (fcells_at hd).2
    rw [← Go.Deep.add_add] at h1
    have e1 : (ad.add (k * 2)).add 1 = ⟨(ad.add (k * 2)).block, (ad.add (k * 2)).off + 1, none⟩ := rfl
    refine ⟨ad, rfl, h0, e1 ▸ h1, ?_⟩
    have := World.block_lt_of_cell? w _ h0
    have hb : (ad.add (k * 2)).block = ad.block := by unfold Addr.add; split <;> rfl
    rwa [hb] at this
def eqF (x y : Fw) : Bool := (x.1 == y.1) && (x.2 == y.2)
theorem eqF_iff (x y : Fw) : eqF x y = true ↔ x = y := by
  obtain ⟨a, b⟩ := x
  obtain ⟨c, d⟩ := y
  simp [eqF]
theorem eqF_at (d : Nat) (r i r' i' : Int) (w : World) : (Op.equalIn (d + 2) 77 (.agg #[.int .i64 r, .int .i64 i]) (.agg #[.int .i64 r', .int .i64 i'])).run Tryz.prog w = .ok ((r == r') && (i == i')) w :=
  eq_two w Tryz.underlying77 (by kernel_rfl) (by decide) (by decide) (part_one w (Tryz.isAgg3 w) rfl) (part_one w (Tryz.isAgg3 w) rfl) (run_equalIn_int w d _ _ _ _ _ Tryz.underlying3)
    (part_one w (Tryz.isAgg38 w) rfl) (part_one w (Tryz.isAgg38 w) rfl) (run_equalIn_int w d _ _ _ _ _ Tryz.underlying38)
@[go_sem high] theorem run_neF (r i r' i' : Int) (w : World) : (binOp .neq 77 (.agg #[.int .i64 r, .int .i64 i]) (.agg #[.int .i64 r', .int .i64 i'])).run Tryz.prog w = .ok (.bool (!eqF (r, i) (r', i'))) w := by
  rw [run_neq_struct, show (10000 : Nat) = 9998 + 2 from rfl, eqF_at]
  rfl
set_option maxHeartbeats 1000000 in
theorem sameFl_any (a b : Option Addr) (c d : Nat) (l m : List Fw) (w : World) (hv : FlV w a c l) (hu : FlV w b d m) (hn : l.length ≤ 1100000) (hm : m.length ≤ 1100000) :
    Calls Tryz.prog 10 #[.slice a l.length c, .slice b m.length d] w fun e w' => e = .returned (.bool (decide (l = m))) ∧ Below w.heap.size w w' := by
  have Hv := Lib.hid hv
  have Hu := Lib.hid hu
  clear hv hu
  by_cases hl : l.length = m.length
  · have Hl := Lib.hid hl
    rw [← hl]
    clear hl
    go_enter Tryz.func10, Tryz.ntmps10
    go_wp2_with fail
    go_loopw [5] (fun i wr => ∃ k : Nat, k ≤ l.length ∧ i = .int .i64 k ∧ Hid (l.take k = m.take k) ∧ Below w.heap.size w wr) (fun i _ => l.length - (intOf i).toNat)
    case atStart => exact ⟨0, Nat.zero_le _, rfl, Lib.hid (by simp), Below.refl _ _⟩
    case round =>
      obtain ⟨k, hk, rfl, heq, hb⟩ := hrel
      have Hb := Lib.hid hb
      clear hb
      by_cases hlt : k < l.length
      · have hlu : k < m.length := by have := Hl.out; omega
        obtain ⟨⟨r, i⟩, hx⟩ : ∃ x, l[k]? = some x := ⟨l[k], by simp [hlt]⟩
        obtain ⟨⟨r', i'⟩, hy⟩ : ∃ x, m[k]? = some x := ⟨m[k], by simp [hlu]⟩
        obtain ⟨ad, had, d0, d1, hlt0⟩ := FlV.at2 (v := l) (Sl.below Hv.out Hb.out) hx
        obtain ⟨ae, hae, e0, e1, hlt1⟩ := FlV.at2 (v := m) (Sl.below Hu.out Hb.out) hy
        subst had hae
        dsimp only at d0 d1 e0 e1
        have Hx := Lib.hid hx
        have Hy := Lib.hid hy
        clear hx hy
        cases hq : eqF (r, i) (r', i') with
        | true =>
          go_wp2_with fail
          go_quiet (fail)
          go_wp2_with fail
          go_roundw
          case rel => exact ⟨k + 1, by omega, by go_num, Lib.hid (by rw [take_snoc' Hx.out, take_snoc' Hy.out, heq.out, (eqF_iff _ _).1 hq]), below_drewN Hb.out _⟩
          case measure => simp [intOf]; omega
        | false =>
          have He := Lib.hid (show decide (l = m) = false by simp; intro e; subst e; have := Hx.out.symm.trans Hy.out; rw [Option.some.injEq, ← eqF_iff, hq] at this; cases this)
          go_wp2_with fail
          go_quiet (fail)
          go_wp2_with fail
          go_ret
          exact ⟨by rw [He.out]; rfl, below_drewN Hb.out _⟩
      · have he : l = m := take_ext k Hl.out (by omega) heq.out
        have He := Lib.hid (show decide (l = m) = true by simpa using he)
        clear he
        go_wp2_with fail
        go_ret
        exact ⟨by rw [He.out]; rfl, Hb.out⟩
  · have He := Lib.hid (show decide (l = m) = false by simp; intro e; exact hl (by rw [e]))
    have hl' : ((l.length : Int) != (m.length : Int)) = true := by simp; omega
    go_enter Tryz.func10, Tryz.ntmps10
    go_wp2_with fail
    go_ret
    exact ⟨by rw [He.out]; rfl, Below.refl _ _⟩
end Go.Proofs.YtaandcblndldmaaGreat
