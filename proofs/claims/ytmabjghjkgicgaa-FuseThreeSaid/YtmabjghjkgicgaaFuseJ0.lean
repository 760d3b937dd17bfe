/- fuse.Merge, a case: bad. -/
import Derived.Test.YtmabjghjkgicgaaFuseJ
namespace Go.Proofs.Ytmabjghjkgicgaa
open Go.RowKit
set_option linter.unusedVariables false
set_option linter.unusedSimpArgs false

set_option maxRecDepth 100000 in
set_option maxHeartbeats 8000000 in
theorem merge_bad (l a b : Lf) (la lt ia ta ja ua : Option Addr) (lc ld ic tc jc uc : Nat) (w : World) (hl : LfAt w l la lc lt ld) (ha : LfAt w a ia ic ta tc) (hb : LfAt w b ja jc ua uc) (hol : okL l) (hoa : okL a) (hob : okL b)
    (hbad : ¬ AllMay l a b ∨ ¬ (l.k = a.k ∧ l.k = b.k)) :
    Calls Try.prog 8 #[lval l la lc lt ld, lval a ia ic ta tc, lval b ja jc ua uc] w (MergeTo w l a b) := by
  obtain ⟨k'', n'', t'', ⟨⟨r'', i''⟩, s''⟩, x'', is'', ts''⟩ := l
  obtain ⟨k, n, t, ⟨⟨r, i⟩, s⟩, x, is, ts⟩ := a
  obtain ⟨k', n', t', ⟨⟨r', i'⟩, s'⟩, x', is', ts'⟩ := b
  have Hl := Lib.hid hl
  have Ha := Lib.hid ha
  have Hb := Lib.hid hb
  have Hol := Lib.hid hol
  have Hoa := Lib.hid hoa
  have Hob := Lib.hid hob
  have Hbad := Lib.hid hbad
  clear hl ha hb hol hoa hob hbad
  simp only [lval]
  go_enter Try.func8, Try.ntmps8
  go_wp2_with fail
  refine (mayL_any ⟨k'', n'', t'', ((r'', i''), s''), x'', is'', ts''⟩ la lt lc ld _ (Hl.out.below ?h1) Hol.out).mono ?_
  case h1 => exact ((((Below.refl _ _).alloc (Nat.le_refl _) _).alloc (by simp) _).alloc (by simp <;> omega) _).alloc (by simp <;> omega) _
  rintro e w1 ⟨q, rfl, hq, hb1⟩
  have E : Hid (MgE w w1 (lcells ⟨k'', n'', t'', ((r'', i''), s''), x'', is'', ts''⟩ la lc lt ld) (lcells ⟨k, n, t, ((r, i), s), x, is, ts⟩ ia ic ta tc) (lcells ⟨k', n', t', ((r', i'), s'), x', is', ts'⟩ ja jc ua uc) zcells) := Lib.hid (MgE.of hb1)
  clear hb1
  have Hql := Lib.hid hq
  clear hq
  have d0 := cells_at E.out.b0
  have d1 := cells_at E.out.b1
  have d2 := cells_at E.out.b2
  have d3 := cells_at E.out.b3
  have g3 := free_at E.out.b3
  simp only [lcells, zcells] at d0 d1 d2 d3
  cases q with
  | false =>
    go_wp2_with fail
    refine bodyPost_ret (v := .tuple #[lval (bare 0) none 0 none 0, .int .i64 2]) (by simp [results, Try.results8, go_sem, lval, d3, bare, noDot]; rfl) rfl ⟨none, 0, none, 0, bare 0, 2, rfl, .inl ⟨fun h => (by have := Hql.out.2 h.1; simp at this), rfl, rfl⟩, MemL.zero (below_nine E.out.bel _ _ _ _ _ _ _ _ _)⟩
  | true =>
    go_wp2_with fail
    refine (mayL_any ⟨k, n, t, ((r, i), s), x, is, ts⟩ ia ta ic tc _ (Ha.out.below E.out.bel) Hoa.out).mono ?_
    rintro e w2 ⟨q, rfl, hq, hb1⟩
    replace E := Lib.hid (E.out.step hb1)
    clear hb1 d0 d1 d2 d3 g3
    have Hqa := Lib.hid hq
    clear hq
    have d0 := cells_at E.out.b0
    have d1 := cells_at E.out.b1
    have d2 := cells_at E.out.b2
    have d3 := cells_at E.out.b3
    have g3 := free_at E.out.b3
    simp only [lcells, zcells] at d0 d1 d2 d3
    cases q with
    | false =>
      go_wp2_with fail
      refine bodyPost_ret (v := .tuple #[lval (bare 0) none 0 none 0, .int .i64 2]) (by simp [results, Try.results8, go_sem, lval, d3, bare, noDot]; rfl) rfl ⟨none, 0, none, 0, bare 0, 2, rfl, .inl ⟨fun h => (by have := Hqa.out.2 h.2.1; simp at this), rfl, rfl⟩, MemL.zero (below_nine E.out.bel _ _ _ _ _ _ _ _ _)⟩
    | true =>
      go_wp2_with fail
      refine (mayL_any ⟨k', n', t', ((r', i'), s'), x', is', ts'⟩ ja ua jc uc _ (Hb.out.below E.out.bel) Hob.out).mono ?_
      rintro e w3 ⟨q, rfl, hq, hb1⟩
      replace E := Lib.hid (E.out.step hb1)
      clear hb1 d0 d1 d2 d3 g3
      have Hqb := Lib.hid hq
      clear hq
      have d0 := cells_at E.out.b0
      have d1 := cells_at E.out.b1
      have d2 := cells_at E.out.b2
      have d3 := cells_at E.out.b3
      have g3 := free_at E.out.b3
      simp only [lcells, zcells] at d0 d1 d2 d3
      cases q with
      | false =>
        go_wp2_with fail
        refine bodyPost_ret (v := .tuple #[lval (bare 0) none 0 none 0, .int .i64 2]) (by simp [results, Try.results8, go_sem, lval, d3, bare, noDot]; rfl) rfl ⟨none, 0, none, 0, bare 0, 2, rfl, .inl ⟨fun h => (by have := Hqb.out.2 h.2.2; simp at this), rfl, rfl⟩, MemL.zero (below_nine E.out.bel _ _ _ _ _ _ _ _ _)⟩
      | true =>
        have Hall := Lib.hid (show AllMay ⟨k'', n'', t'', ((r'', i''), s''), x'', is'', ts''⟩ ⟨k, n, t, ((r, i), s), x, is, ts⟩ ⟨k', n', t', ((r', i'), s'), x', is', ts'⟩ from ⟨Hql.out.1 (by simp), Hqa.out.1 (by simp), Hqb.out.1 (by simp)⟩)
        have hne : ¬ (k'' = k ∧ k'' = k') := Hbad.out.elim (fun h => absurd Hall.out h) id
        have Hne := Lib.hid hne
        clear Hbad Hql Hqa Hqb
        by_cases hk1 : k'' = k
        · have hk2 : ¬ k'' = k' := fun e => hne ⟨hk1, e⟩
          clear hne
          subst hk1
          go_wp2_with fail
          refine bodyPost_ret (v := .tuple #[lval (bare 0) none 0 none 0, .int .i64 15]) (by simp [results, Try.results8, go_sem, lval, d3, bare, noDot]; rfl) rfl ⟨none, 0, none, 0, bare 0, 15, rfl, .inr (.inl ⟨Hall.out, fun h => Hne.out ⟨trivial, h.2⟩, rfl, rfl⟩), MemL.zero (below_nine E.out.bel _ _ _ _ _ _ _ _ _)⟩
        · clear hne
          go_wp2_with fail
          refine bodyPost_ret (v := .tuple #[lval (bare 0) none 0 none 0, .int .i64 15]) (by simp [results, Try.results8, go_sem, lval, d3, bare, noDot]; rfl) rfl ⟨none, 0, none, 0, bare 0, 15, rfl, .inr (.inl ⟨Hall.out, Hne.out, rfl, rfl⟩), MemL.zero (below_nine E.out.bel _ _ _ _ _ _ _ _ _)⟩
end Go.Proofs.Ytmabjghjkgicgaa
