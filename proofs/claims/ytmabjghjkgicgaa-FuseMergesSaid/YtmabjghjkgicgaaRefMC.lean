/- varveref06.Merge: counters. -/
import Derived.Test.YtmabjghjkgicgaaRefMB
namespace Go.Proofs.Ytmabjghjkgicgaa
open Go.RowKit
set_option linter.unusedVariables false
set_option linter.unusedSimpArgs false


set_option maxRecDepth 100000 in
set_option maxHeartbeats 8000000 in
theorem rmerge_counter (l a b : Lf) (la lt ia ta ja ua : Option Addr) (lc ld ic tc jc uc : Nat) (w : World) (hl : LfAt w l la lc lt ld) (ha : LfAt w a ia ic ta tc) (hb : LfAt w b ja jc ua uc) (hol : okL l) (hoa : okL a) (hob : okL b)
    (hall : AllMay l a b) (hk0 : l.k = 1) (hk1 : a.k = 1) (hk2 : b.k = 1) (hla : a.items.length ≤ 400000) (hlb : b.items.length ≤ 400000) (hta : a.tombs.length ≤ 400000) (htb : b.tombs.length ≤ 400000) :
    Calls Try.prog 18 #[lval l la lc lt ld, lval a ia ic ta tc, lval b ja jc ua uc] w (RMergeTo w l a b) := by
  obtain ⟨k'', n'', t'', ⟨⟨r'', i''⟩, s''⟩, x'', is'', ts''⟩ := l
  obtain ⟨k, n, t, ⟨⟨r, i⟩, s⟩, x, is, ts⟩ := a
  obtain ⟨k', n', t', ⟨⟨r', i'⟩, s'⟩, x', is', ts'⟩ := b
  dsimp only at hk0 hk1 hk2 hla hlb hta htb
  subst hk0 hk1 hk2
  have Hl := Lib.hid hl
  have Ha := Lib.hid ha
  have Hb := Lib.hid hb
  have Hol := Lib.hid hol
  have Hoa := Lib.hid hoa
  have Hob := Lib.hid hob
  have Hall := Lib.hid hall
  clear hl ha hb hol hoa hob hall
  simp only [lval]
  go_enter Try.func18, Try.ntmps18
  go_wp2_with fail
  refine (rmayLf_any ⟨1, n'', t'', ((r'', i''), s''), x'', is'', ts''⟩ la lt lc ld _ (Hl.out.below ?h1) Hol.out).mono ?_
  case h1 => exact ((((Below.refl _ _).alloc (Nat.le_refl _) _).alloc (by simp) _).alloc (by simp <;> omega) _).alloc (by simp <;> omega) _
  rintro e w1 ⟨q, rfl, hq, hb1⟩
  have E : Hid (MgE w w1 (lcells ⟨1, n'', t'', ((r'', i''), s''), x'', is'', ts''⟩ la lc lt ld) (lcells ⟨1, n, t, ((r, i), s), x, is, ts⟩ ia ic ta tc) (lcells ⟨1, n', t', ((r', i'), s'), x', is', ts'⟩ ja jc ua uc) zcells) := Lib.hid (MgE.of hb1)
  clear hb1
  have Hql := Lib.hid hq
  clear hq
  have d0 := cells_at E.out.b0
  have d1 := cells_at E.out.b1
  have d2 := cells_at E.out.b2
  have d3 := cells_at E.out.b3
  have g3 := free_at E.out.b3
  simp only [lcells, zcells] at d0 d1 d2 d3
  cases q with
  | false => exact absurd (Hql.out.2 Hall.out.1) (by simp)
  | true =>
    go_wp2_with fail
    refine (rmayLf_any ⟨1, n, t, ((r, i), s), x, is, ts⟩ ia ta ic tc _ (Ha.out.below E.out.bel) Hoa.out).mono ?_
    rintro e w2 ⟨q, rfl, hq, hb1⟩
    replace E := Lib.hid (E.out.step hb1)
    clear hb1 d0 d1 d2 d3 g3
    have Hqa := Lib.hid hq
    clear hq
    have d0 := cells_at E.out.b0
    have d1 := cells_at E.out.b1
    have d2 := cells_at E.out.b2
    have d3 := cells_at E.out.b3
    have g3 := free_at E.out.b3
    simp only [lcells, zcells] at d0 d1 d2 d3
    cases q with
    | false => exact absurd (Hqa.out.2 Hall.out.2.1) (by simp)
    | true =>
      go_wp2_with fail
      refine (rmayLf_any ⟨1, n', t', ((r', i'), s'), x', is', ts'⟩ ja ua jc uc _ (Hb.out.below E.out.bel) Hob.out).mono ?_
      rintro e w3 ⟨q, rfl, hq, hb1⟩
      replace E := Lib.hid (E.out.step hb1)
      clear hb1 d0 d1 d2 d3 g3
      have Hqb := Lib.hid hq
      clear hq
      have d0 := cells_at E.out.b0
      have d1 := cells_at E.out.b1
      have d2 := cells_at E.out.b2
      have d3 := cells_at E.out.b3
      have g3 := free_at E.out.b3
      simp only [lcells, zcells] at d0 d1 d2 d3
      cases q with
      | false => exact absurd (Hqb.out.2 Hall.out.2.2) (by simp)
      | true =>
        have hsE := E.out.sz
        have hsE0 : w.heap.size < w3.heap.size := by omega
        have hsE1 : w.heap.size + 1 < w3.heap.size := by omega
        have hsE2 : w.heap.size + 2 < w3.heap.size := by omega
        have hsE3 : w.heap.size + 3 < w3.heap.size := by omega
        clear Hql Hqa Hqb
        have Hw := Lib.hid (show IntKind.wrap .i64 (n - n'' + n') = wrap64 (wrap64 (n - n'') + n') by rw [wrap_is, wrap_two'])
        go_wp2_with fail
        refine bodyPost_ret (v := .tuple #[lval { bare 1 with n := wrap64 (wrap64 (n - n'') + n') } none 0 none 0, .int .i64 0]) (by simp [results, Try.results18, go_sem, lval, d3, hsE3, bare, noDot]; rfl) rfl ⟨none, 0, none, 0, { bare 1 with n := wrap64 (wrap64 (n - n'') + n') }, 0, rfl, .inr (.inr ⟨Hall.out, rfl, rfl, rfl, .inl ⟨rfl, by rw [Hw.out]⟩⟩), LfAt.none rfl rfl, ?_⟩
        exact (below_nine E.out.bel _ _ _ _ _ _ _ _ _).alloc (by simp; omega) _
end Go.Proofs.Ytmabjghjkgicgaa
