/- fuse.Merge, a case: log. -/
import Derived.Test.YtmabjghjkgicgaaFuseJ
namespace Go.Proofs.Ytmabjghjkgicgaa
open Go.RowKit
set_option linter.unusedVariables false
set_option linter.unusedSimpArgs false

set_option maxRecDepth 100000 in
set_option maxHeartbeats 8000000 in
theorem merge_log (l a b : Lf) (la lt ia ta ja ua : Option Addr) (lc ld ic tc jc uc : Nat) (w : World) (hl : LfAt w l la lc lt ld) (ha : LfAt w a ia ic ta tc) (hb : LfAt w b ja jc ua uc) (hol : okL l) (hoa : okL a) (hob : okL b)
    (hall : AllMay l a b) (hk0 : l.k = 4) (hk1 : a.k = 4) (hk2 : b.k = 4) (hla : a.items.length ≤ 400000) (hlb : b.items.length ≤ 400000) (hta : a.tombs.length ≤ 400000) (htb : b.tombs.length ≤ 400000) :
    Calls Try.prog 8 #[lval l la lc lt ld, lval a ia ic ta tc, lval b ja jc ua uc] w (MergeTo w l a b) := by
  obtain ⟨k'', n'', t'', ⟨⟨r'', i''⟩, s''⟩, x'', is'', ts''⟩ := l
  obtain ⟨k, n, t, ⟨⟨r, i⟩, s⟩, x, is, ts⟩ := a
  obtain ⟨k', n', t', ⟨⟨r', i'⟩, s'⟩, x', is', ts'⟩ := b
  dsimp only at hk0 hk1 hk2 hla hlb hta htb
  subst hk0 hk1 hk2
  have Hl := Lib.hid hl
  have Ha := Lib.hid ha
  have Hb := Lib.hid hb
  have Hol := Lib.hid hol
  have Hoa := Lib.hid hoa
  have Hob := Lib.hid hob
  have Hall := Lib.hid hall
  have he := enters_of Try.func28 (by kernel_rfl) rfl
  clear hl ha hb hol hoa hob hall
  simp only [lval]
  go_enter Try.func8, Try.ntmps8
  go_wp2_with fail
  refine (mayL_any ⟨4, n'', t'', ((r'', i''), s''), x'', is'', ts''⟩ la lt lc ld _ (Hl.out.below ?h1) Hol.out).mono ?_
  case h1 => exact ((((Below.refl _ _).alloc (Nat.le_refl _) _).alloc (by simp) _).alloc (by simp <;> omega) _).alloc (by simp <;> omega) _
  rintro e w1 ⟨q, rfl, hq, hb1⟩
  have E : Hid (MgE w w1 (lcells ⟨4, n'', t'', ((r'', i''), s''), x'', is'', ts''⟩ la lc lt ld) (lcells ⟨4, n, t, ((r, i), s), x, is, ts⟩ ia ic ta tc) (lcells ⟨4, n', t', ((r', i'), s'), x', is', ts'⟩ ja jc ua uc) zcells) := Lib.hid (MgE.of hb1)
  clear hb1
  have Hql := Lib.hid hq
  clear hq
  have d0 := cells_at E.out.b0
  have d1 := cells_at E.out.b1
  have d2 := cells_at E.out.b2
  have d3 := cells_at E.out.b3
  have g3 := free_at E.out.b3
  simp only [lcells, zcells] at d0 d1 d2 d3
  cases q with
  | false => exact absurd (Hql.out.2 Hall.out.1) (by simp)
  | true =>
    go_wp2_with fail
    refine (mayL_any ⟨4, n, t, ((r, i), s), x, is, ts⟩ ia ta ic tc _ (Ha.out.below E.out.bel) Hoa.out).mono ?_
    rintro e w2 ⟨q, rfl, hq, hb1⟩
    replace E := Lib.hid (E.out.step hb1)
    clear hb1 d0 d1 d2 d3 g3
    have Hqa := Lib.hid hq
    clear hq
    have d0 := cells_at E.out.b0
    have d1 := cells_at E.out.b1
    have d2 := cells_at E.out.b2
    have d3 := cells_at E.out.b3
    have g3 := free_at E.out.b3
    simp only [lcells, zcells] at d0 d1 d2 d3
    cases q with
    | false => exact absurd (Hqa.out.2 Hall.out.2.1) (by simp)
    | true =>
      go_wp2_with fail
      refine (mayL_any ⟨4, n', t', ((r', i'), s'), x', is', ts'⟩ ja ua jc uc _ (Hb.out.below E.out.bel) Hob.out).mono ?_
      rintro e w3 ⟨q, rfl, hq, hb1⟩
      replace E := Lib.hid (E.out.step hb1)
      clear hb1 d0 d1 d2 d3 g3
      have Hqb := Lib.hid hq
      clear hq
      have d0 := cells_at E.out.b0
      have d1 := cells_at E.out.b1
      have d2 := cells_at E.out.b2
      have d3 := cells_at E.out.b3
      have g3 := free_at E.out.b3
      simp only [lcells, zcells] at d0 d1 d2 d3
      cases q with
      | false => exact absurd (Hqb.out.2 Hall.out.2.2) (by simp)
      | true =>
        have hsE := E.out.sz
        have hsE0 : w.heap.size < w3.heap.size := by omega
        have hsE1 : w.heap.size + 1 < w3.heap.size := by omega
        have hsE2 : w.heap.size + 2 < w3.heap.size := by omega
        have hsE3 : w.heap.size + 3 < w3.heap.size := by omega
        clear Hql Hqa Hqb
        go_wp2_with fail
        refine region_text [([0, 1, 2, 3, 4, 5, 6, 7, 8, 9], false)] mixed (by kernel_rfl) ?_
        simp only [wpSegs, List.map_cons, List.map_nil, List.getD_cons_succ, List.getD_cons_zero]
        go_wp2_with fail
        refine (log_any ⟨4, n'', t'', ((r'', i''), s''), x'', is'', ts''⟩ ⟨4, n, t, ((r, i), s), x, is, ts⟩ ⟨4, n', t', ((r', i'), s'), x', is', ts'⟩ la lt ia ta ja ua lc ld ic tc jc uc _ (Ha.out.below ?h1) (Hb.out.below ?h2) (nodup_of Hall.out.2.1) (nodup_of Hall.out.2.2) Hoa.out Hob.out hla hlb).mono ?_
        case h1 => exact E.out.bel.trans (((Below.refl _ w3).alloc (Nat.le_refl _) _).drew.mono E.out.bel.size)
        case h2 => exact E.out.bel.trans (((Below.refl _ w3).alloc (Nat.le_refl _) _).drew.mono E.out.bel.size)
        rintro e w4 ⟨va, vc, m, ism, rfl, hI, hm, hM⟩
        have hb4 := hM.bel
        have hbz : Below w3.heap.size w3 w4 := ((Below.refl _ w3).alloc (Nat.le_refl _) _).drew.trans (hb4.mono (by simp))
        replace E := Lib.hid (E.out.step hbz)
        have hz3 := hbz.size
        have hs3 := E.out.sz
        clear d0 d1 d2 d3 g3 hbz
        have HI := Lib.hid hI
        have Hm := Lib.hid hm
        have HM := Lib.hid hM
        obtain ⟨mk, mn, mt, ⟨⟨mr, mi⟩, ms⟩, mx, mis, mts⟩ := m
        clear hI hm hM hb4
        simp only [lval]
        have d0 := cells_at E.out.b0
        have d1 := cells_at E.out.b1
        have d2 := cells_at E.out.b2
        have d3 := cells_at E.out.b3
        have g3 := free_at E.out.b3
        simp only [lcells, zcells] at d0 d1 d2 d3
        go_wp2_with fail
        refine And.intro (by kernel_rfl) ?_
        go_wp2_with fail
        refine bodyPost_ret (v := .tuple #[lval ⟨mk, mn, mt, ((mr, mi), ms), mx, mis, mts⟩ va vc none 0, .int .i64 0]) (by simp [results, Try.results8, go_sem, lval, d3, bare, noDot]) rfl ⟨va, vc, none, 0, ⟨mk, mn, mt, ((mr, mi), ms), mx, mis, mts⟩, 0, rfl, .inr (.inr ⟨Hall.out, rfl, rfl, rfl, .inr (.inr (.inr ⟨rfl, ism, HI.out, Hm.out⟩))⟩), nine_mem HM.out (by simp; omega) _ _ _ _ _ _ _ _ _ E.out.bel⟩
end Go.Proofs.Ytmabjghjkgicgaa
