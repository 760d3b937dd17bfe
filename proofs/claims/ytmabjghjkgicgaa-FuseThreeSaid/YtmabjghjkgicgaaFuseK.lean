/- fuse.Merge, fuse.Purge: contracts. -/
import Derived.Test.YtmabjghjkgicgaaFuseJ0
import Derived.Test.YtmabjghjkgicgaaFuseJ1
import Derived.Test.YtmabjghjkgicgaaFuseJ2
import Derived.Test.YtmabjghjkgicgaaFuseJ3
import Derived.Test.YtmabjghjkgicgaaFuseJ4
namespace Go.Proofs.Ytmabjghjkgicgaa
open Go.RowKit
set_option linter.unusedVariables false
set_option linter.unusedSimpArgs false

theorem merge_any (l a b : Lf) (la lt ia ta ja ua : Option Addr) (lc ld ic tc jc uc : Nat) (w : World) (hl : LfAt w l la lc lt ld) (ha : LfAt w a ia ic ta tc) (hb : LfAt w b ja jc ua uc) (hol : okL l) (hoa : okL a) (hob : okL b)
    (hla : a.items.length ≤ 400000) (hlb : b.items.length ≤ 400000) (hta : a.tombs.length ≤ 400000) (htb : b.tombs.length ≤ 400000) :
    Calls Try.prog 8 #[lval l la lc lt ld, lval a ia ic ta tc, lval b ja jc ua uc] w (MergeTo w l a b) := by
  by_cases h1 : AllMay l a b
  · by_cases h2 : l.k = a.k ∧ l.k = b.k
    · rcases h1.1.kind with hk | hk | hk | hk
      · exact merge_counter l a b la lt ia ta ja ua lc ld ic tc jc uc w hl ha hb hol hoa hob h1 hk (h2.1 ▸ hk) (h2.2 ▸ hk) hla hlb hta htb
      · exact merge_register l a b la lt ia ta ja ua lc ld ic tc jc uc w hl ha hb hol hoa hob h1 hk (h2.1 ▸ hk) (h2.2 ▸ hk) hla hlb hta htb
      · exact merge_set l a b la lt ia ta ja ua lc ld ic tc jc uc w hl ha hb hol hoa hob h1 hk (h2.1 ▸ hk) (h2.2 ▸ hk) hla hlb hta htb
      · exact merge_log l a b la lt ia ta ja ua lc ld ic tc jc uc w hl ha hb hol hoa hob h1 hk (h2.1 ▸ hk) (h2.2 ▸ hk) hla hlb hta htb
    · exact merge_bad l a b la lt ia ta ja ua lc ld ic tc jc uc w hl ha hb hol hoa hob (.inr h2)
  · exact merge_bad l a b la lt ia ta ja ua lc ld ic tc jc uc w hl ha hb hol hoa hob (.inl h1)
/-- what Purge tells -/
def PurgeTo (w : World) (l : Lf) (e : Ending) (w' : World) : Prop :=
  ∃ ia ic ta tc m code, e = .returned (.tuple #[lval m ia ic ta tc, .int .i64 code]) ∧ PurgeR l code m ∧ MemL w w' m ia ic ta tc
theorem two_at' (w : World) (o0 o1 : Obj) {w1 : World} (hb : Below ((w.alloc o0).alloc o1).heap.size ((w.alloc o0).alloc o1) w1) :
    w1.heap[w.heap.size]? = some o0 ∧ w1.heap[w.heap.size + 1]? = some o1 ∧ w.heap.size + 2 ≤ w1.heap.size ∧ Below w.heap.size w w1 := by
  obtain ⟨h1, h2, h3, h4⟩ := new2 hb
  exact ⟨h1, h2, h3, h4⟩
theorem below_nine1 {w w1 : World} (hb : Below w.heap.size w w1) (x0 x1 x2 x3 x4 x5 x6 x7 x8 : Value) : Below w.heap.size w (((((((((w1.setCell ⟨w.heap.size + 1, 0, none⟩ x0).setCell ⟨w.heap.size + 1, 1, none⟩ x1).setCell ⟨w.heap.size + 1, 2, none⟩ x2).setCell ⟨w.heap.size + 1, 3, none⟩ x3).setCell ⟨w.heap.size + 1, 4, none⟩ x4).setCell ⟨w.heap.size + 1, 5, none⟩ x5).setCell ⟨w.heap.size + 1, 6, none⟩ x6).setCell ⟨w.heap.size + 1, 7, none⟩ x7).setCell ⟨w.heap.size + 1, 8, none⟩ x8) :=
  ((((((((hb.setCell (by simp) _).setCell (by simp) _).setCell (by simp) _).setCell (by simp) _).setCell (by simp) _).setCell (by simp) _).setCell (by simp) _).setCell (by simp) _).setCell (by simp) _
set_option maxRecDepth 100000 in
set_option maxHeartbeats 4000000 in
theorem purge_any (l : Lf) (ia ta : Option Addr) (ic tc : Nat) (w : World) (hl : LfAt w l ia ic ta tc) (hol : okL l) :
    Calls Try.prog 19 #[lval l ia ic ta tc] w (PurgeTo w l) := by
  obtain ⟨k, n, t, ⟨⟨r, i⟩, s⟩, x, is, ts⟩ := l
  have Hl := Lib.hid hl
  have Hol := Lib.hid hol
  clear hl hol
  simp only [lval]
  go_enter Try.func19, Try.ntmps19
  go_wp2_with fail
  refine (mayL_any ⟨k, n, t, ((r, i), s), x, is, ts⟩ ia ta ic tc _ (Hl.out.below ?h1) Hol.out).mono ?_
  case h1 => exact ((Below.refl _ _).alloc (Nat.le_refl _) _).alloc (by simp) _
  rintro e w1 ⟨q, rfl, hq, hb1⟩
  obtain ⟨f0, f1, hz, hB⟩ := two_at' w _ _ hb1
  have d0 := cells_at f0
  have d1 := cells_at f1
  have g0 := free_at f0
  have g1 := free_at f1
  have F0 := Lib.hid f0
  have F1 := Lib.hid f1
  have HB := Lib.hid hB
  have Hq := Lib.hid hq
  clear hb1 f0 f1 hB hq
  cases q with
  | false =>
    go_wp2_with fail
    refine bodyPost_ret (v := .tuple #[lval (bare 0) none 0 none 0, .int .i64 2]) (by simp [results, Try.results19, go_sem, lval, d1, bare, noDot]; rfl) rfl ⟨none, 0, none, 0, bare 0, 2, rfl, .inl ⟨fun h => (by have := Hq.out.2 h; simp at this), rfl, rfl⟩, MemL.zero (below_nine1 HB.out _ _ _ _ _ _ _ _ _)⟩
  | true =>
    go_wp2_with fail
    refine (cloneI_any ia ic is _ (Hl.out.its.below HB.out) Hl.out.li).mono ?_
    rintro e w2 ⟨va, vc, v, rfl, hv, hov, hb2⟩
    have f0 := (hb2.block _ (heap_lt F0.out)).trans F0.out
    have f1 := (hb2.block _ (heap_lt F1.out)).trans F1.out
    have HB2 := Lib.hid (below2 HB.out hb2 HB.out.size)
    have Hov := Lib.hid (hov.base (base' := w.heap.size + 2) hz)
    have Hv := Lib.hid hv
    have hlv : v.length ≤ 1000000 := by rw [hv]; exact Hl.out.li
    clear hb2 d0 d1 g0 g1 F0 F1 hov hv
    have d0 := cells_at f0
    have d1 := cells_at f1
    have g0 := free_at f0
    have g1 := free_at f1
    clear f0 f1
    go_wp2_with fail
    refine bodyPost_ret (v := .tuple #[lval ⟨k, n, t, ((r, i), s), x, v, []⟩ va vc none 0, .int .i64 0]) (by simp [results, Try.results19, go_sem, lval, d1, bare, noDot]) rfl ⟨va, vc, none, 0, ⟨k, n, t, ((r, i), s), x, v, []⟩, 0, rfl, .inr ⟨Hq.out.1 (by simp), rfl, by rw [Hv.out]⟩, ?_⟩
    have st : ∀ {W : World} (o j : Nat) (y : Value), o < w.heap.size + 2 → OwnI W (w.heap.size + 2) va vc v → OwnI (W.setCell ⟨o, j, none⟩ y) (w.heap.size + 2) va vc v := fun {W} o j y ho h =>
      owns_chg h (Chg.setCell W ⟨o, j, none⟩ y) (fun q hq hm => by have := (owns_lt h q hq).1; simp at hm; omega)
    exact ⟨⟨OwnI.its (base := w.heap.size + 2) (st _ _ _ (by omega) (st _ _ _ (by omega) (st _ _ _ (by omega) (st _ _ _ (by omega) (st _ _ _ (by omega) (st _ _ _ (by omega) (st _ _ _ (by omega) (st _ _ _ (by omega) (st _ _ _ (by omega) (st _ _ _ (by omega) (st _ _ _ (by omega) Hov.out))))))))))), Sl.nil _ 3, hlv, by simp⟩, fun _ => OwnI.base (base := w.heap.size + 2) (st _ _ _ (by omega) (st _ _ _ (by omega) (st _ _ _ (by omega) (st _ _ _ (by omega) (st _ _ _ (by omega) (st _ _ _ (by omega) (st _ _ _ (by omega) (st _ _ _ (by omega) (st _ _ _ (by omega) (st _ _ _ (by omega) (st _ _ _ (by omega) Hov.out))))))))))) (by omega), fun h => absurd rfl h, (((((((((((HB2.out.setCell (by simp) _).setCell (by simp) _).setCell (by simp) _).setCell (by simp) _).setCell (by simp) _).setCell (by simp) _).setCell (by simp) _).setCell (by simp) _).setCell (by simp) _).setCell (by simp) _).setCell (by simp) _)⟩
end Go.Proofs.Ytmabjghjkgicgaa
