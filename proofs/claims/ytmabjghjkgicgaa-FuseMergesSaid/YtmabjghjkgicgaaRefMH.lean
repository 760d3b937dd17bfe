/- varveref06.Merge: reg4. -/
import Derived.Test.YtmabjghjkgicgaaRefMB
namespace Go.Proofs.Ytmabjghjkgicgaa
open Go.RowKit
set_option linter.unusedVariables false
set_option linter.unusedSimpArgs false


set_option maxRecDepth 100000 in
set_option maxHeartbeats 8000000 in
theorem rmerge_reg4 (l a b : Lf) (la lt ia ta ja ua : Option Addr) (lc ld ic tc jc uc : Nat) (w : World) (hl : LfAt w l la lc lt ld) (ha : LfAt w a ia ic ta tc) (hb : LfAt w b ja jc ua uc) (hol : okL l) (hoa : okL a) (hob : okL b)
    (hall : AllMay l a b) (hk0 : l.k = 2) (hk1 : a.k = 2) (hk2 : b.k = 2) (hla : a.items.length ≤ 400000) (hlb : b.items.length ≤ 400000) (hta : a.tombs.length ≤ 400000) (htb : b.tombs.length ≤ 400000) (h0 : b.t ≠ 0) (h1 : a.t ≠ 0) (hah : aheadT b.t b.d a.t a.d = false) :
    Calls Try.prog 18 #[lval l la lc lt ld, lval a ia ic ta tc, lval b ja jc ua uc] w (RMergeTo w l a b) := by
  obtain ⟨k'', n'', t'', ⟨⟨r'', i''⟩, s''⟩, x'', is'', ts''⟩ := l
  obtain ⟨k, n, t, ⟨⟨r, i⟩, s⟩, x, is, ts⟩ := a
  obtain ⟨k', n', t', ⟨⟨r', i'⟩, s'⟩, x', is', ts'⟩ := b
  dsimp only at hk0 hk1 hk2 h0 h1 hah hla hlb hta htb
  subst hk0 hk1 hk2
  have Hna := Lib.hid h1
  have Hnb := Lib.hid h0
  have Hah := Lib.hid hah
  have e0 : (t' == 0) = false := by simpa using h0
  have e1 : (t == 0) = false := by simpa using h1
  have e2 : (t != 0) = true := by simpa using h1
  have e3 : (t' != 0) = true := by simpa using h0
  have Hl := Lib.hid hl
  have Ha := Lib.hid ha
  have Hb := Lib.hid hb
  have Hol := Lib.hid hol
  have Hoa := Lib.hid hoa
  have Hob := Lib.hid hob
  have Hall := Lib.hid hall
  clear hl ha hb hol hoa hob hall
  simp only [lval]
  go_enter Try.func18, Try.ntmps18
  go_wp2_with fail
  refine (rmayLf_any ⟨2, n'', t'', ((r'', i''), s''), x'', is'', ts''⟩ la lt lc ld _ (Hl.out.below ?h1) Hol.out).mono ?_
  case h1 => exact ((((Below.refl _ _).alloc (Nat.le_refl _) _).alloc (by simp) _).alloc (by simp <;> omega) _).alloc (by simp <;> omega) _
  rintro e w1 ⟨q, rfl, hq, hb1⟩
  have E : Hid (MgE w w1 (lcells ⟨2, n'', t'', ((r'', i''), s''), x'', is'', ts''⟩ la lc lt ld) (lcells ⟨2, n, t, ((r, i), s), x, is, ts⟩ ia ic ta tc) (lcells ⟨2, n', t', ((r', i'), s'), x', is', ts'⟩ ja jc ua uc) zcells) := Lib.hid (MgE.of hb1)
  clear hb1
  have Hql := Lib.hid hq
  clear hq
  have d0 := cells_at E.out.b0
  have d1 := cells_at E.out.b1
  have d2 := cells_at E.out.b2
  have d3 := cells_at E.out.b3
  have g3 := free_at E.out.b3
  simp only [lcells, zcells] at d0 d1 d2 d3
  cases q with
  | false => exact absurd (Hql.out.2 Hall.out.1) (by simp)
  | true =>
    go_wp2_with fail
    refine (rmayLf_any ⟨2, n, t, ((r, i), s), x, is, ts⟩ ia ta ic tc _ (Ha.out.below E.out.bel) Hoa.out).mono ?_
    rintro e w2 ⟨q, rfl, hq, hb1⟩
    replace E := Lib.hid (E.out.step hb1)
    clear hb1 d0 d1 d2 d3 g3
    have Hqa := Lib.hid hq
    clear hq
    have d0 := cells_at E.out.b0
    have d1 := cells_at E.out.b1
    have d2 := cells_at E.out.b2
    have d3 := cells_at E.out.b3
    have g3 := free_at E.out.b3
    simp only [lcells, zcells] at d0 d1 d2 d3
    cases q with
    | false => exact absurd (Hqa.out.2 Hall.out.2.1) (by simp)
    | true =>
      go_wp2_with fail
      refine (rmayLf_any ⟨2, n', t', ((r', i'), s'), x', is', ts'⟩ ja ua jc uc _ (Hb.out.below E.out.bel) Hob.out).mono ?_
      rintro e w3 ⟨q, rfl, hq, hb1⟩
      replace E := Lib.hid (E.out.step hb1)
      clear hb1 d0 d1 d2 d3 g3
      have Hqb := Lib.hid hq
      clear hq
      have d0 := cells_at E.out.b0
      have d1 := cells_at E.out.b1
      have d2 := cells_at E.out.b2
      have d3 := cells_at E.out.b3
      have g3 := free_at E.out.b3
      simp only [lcells, zcells] at d0 d1 d2 d3
      cases q with
      | false => exact absurd (Hqb.out.2 Hall.out.2.2) (by simp)
      | true =>
        have hsE := E.out.sz
        have hsE0 : w.heap.size < w3.heap.size := by omega
        have hsE1 : w.heap.size + 1 < w3.heap.size := by omega
        have hsE2 : w.heap.size + 2 < w3.heap.size := by omega
        have hsE3 : w.heap.size + 3 < w3.heap.size := by omega
        clear Hql Hqa Hqb
        go_wp2_with fail
        refine (rahead_any t' ((r', i'), s') t ((r, i), s) _).mono ?_
        rintro e w5 ⟨rfl, hb5⟩
        rw [Hah.out]
        obtain ⟨hx0, hx1, hz5, hB5⟩ := new2 hb5
        have E5 := Lib.hid (E.out.step hB5)
        have HX0 := Lib.hid hx0
        have HX1 := Lib.hid hx1
        have x0 := cells_at hx0
        have x1 := cells_at hx1
        have f0 := free_at hx0
        have f1 := free_at hx1
        clear hb5 hx0 hx1 hB5 d0 d1 d2 d3 g3 E
        have E := E5
        clear E5
        have d0 := cells_at E.out.b0
        have d1 := cells_at E.out.b1
        have d2 := cells_at E.out.b2
        have d3 := cells_at E.out.b3
        have g3 := free_at E.out.b3
        simp only [lcells, zcells] at d0 d1 d2 d3
        have hzs : w3.heap.size + 2 ≤ w5.heap.size := hz5
        go_wp2_with fail
        clear d0 d1 d2 d3 g3 x0 x1 f0 f1 hz5
        have E9 := E
        have hy1 := HX1.out
        have hy0 := HX0.out
        have hzz := hzs
        clear HX0 HX1 E
        generalize w5 = W9 at *
        have HY0 := Lib.hid hy0
        have HY1 := Lib.hid hy1
        have x0 := cells_at hy0
        have x1 := cells_at hy1
        have f0 := free_at hy0
        have f1 := free_at hy1
        have E := E9
        clear E9 hy0 hy1
        have d0 := cells_at E.out.b0
        have d1 := cells_at E.out.b1
        have d2 := cells_at E.out.b2
        have d3 := cells_at E.out.b3
        have g3 := free_at E.out.b3
        simp only [lcells, zcells] at d0 d1 d2 d3
        refine region_tree_at (fun q => q = w3.heap.size + 1) (sgOf [([0, 1, 2, 3, 4, 5, 6], false), ([7], true), ([8], false), ([9], true), ([10, 11], false)]) mixed (by kernel_rfl) ?_
        simp only [sgOf, wpSgB, List.map_cons, List.map_nil, List.getD_cons_succ, List.getD_cons_zero]
        go_wp2_with fail
        refine And.intro (held_set ⟨_, _, HY1.out⟩ _ _ (by simp)) ?_
        go_wp2_with fail
        refine And.intro (held_set3 (IsCells.set ⟨_, _, HY1.out⟩ _ _ _) _ (by simp) _ _ _ _ _ _) ?_
        go_wp2_with fail
        refine And.intro (And.intro (by kernel_rfl) (reads_of ?rds)) ?_
        case rds => exact ⟨trivial, rfl, trivial, rfl, trivial, rfl, trivial, trivial, trivial, trivial, trivial, trivial, trivial⟩
        go_wp2_with fail
        have hq1 : w.heap.size + 1 < w3.heap.size := by omega
        have hq2 : w.heap.size + 1 + 1 < w3.heap.size := by omega
        have hq3 : w.heap.size + 1 + 1 + 1 < w3.heap.size := by omega
        have hb5 := ((((E.out.bel.setCell (p := ⟨w3.heap.size, 2, none⟩) (by show _ ≤ w3.heap.size; omega) (.int .u64 t')).setCell (p := ⟨w3.heap.size, 3, none⟩) (by show _ ≤ w3.heap.size; omega) (.int .u8 ((r', i'), s').1.1)).setCell (p := ⟨w3.heap.size, 4, none⟩) (by show _ ≤ w3.heap.size; omega) (.int .u32 ((r', i'), s').1.2)).setCell (p := ⟨w3.heap.size, 5, none⟩) (by show _ ≤ w3.heap.size; omega) (.int .u64 ((r', i'), s').2)).setCell (p := ⟨w3.heap.size, 6, none⟩) (by show _ ≤ w3.heap.size; omega) (.string x')
        have hrg : regP ⟨2, n, t, ((r, i), s), x, is, ts⟩ ⟨2, n', t', ((r', i'), s'), x', is', ts'⟩ = ⟨2, n', t', ((r', i'), s'), x', is', ts'⟩ := by
          unfold regP
          exact if_pos (.inr ⟨Hnb.out, Hah.out⟩)
        have Hmg : Hid (Merged ⟨2, n'', t'', ((r'', i''), s''), x'', is'', ts''⟩ ⟨2, n, t, ((r, i), s), x, is, ts⟩ ⟨2, n', t', ((r', i'), s'), x', is', ts'⟩ { bare 2 with t := t', d := ((r', i'), s'), x := x' }) := Lib.hid (.inr (.inl ⟨rfl, by rw [hrg]⟩))
        clear hrg
        have HB5 := Lib.hid hb5
        clear hb5
        refine bodyPost_ret (v := .tuple #[lval { bare 2 with t := t', d := ((r', i'), s'), x := x' } none 0 none 0, .int .i64 0]) (by simp [results, Try.results18, go_sem, lval, d3, hsE3, hsE2, hq1, hq2, hq3, bare, noDot]) rfl ⟨none, 0, none, 0, { bare 2 with t := t', d := ((r', i'), s'), x := x' }, 0, rfl, .inr (.inr ⟨Hall.out, rfl, rfl, rfl, Hmg.out⟩), LfAt.none rfl rfl, (below_nine HB5.out _ _ _ _ _ _ _ _ _).drew⟩
end Go.Proofs.Ytmabjghjkgicgaa
