/- varveref06.Purge: contract. -/
import Derived.Test.YtmabjghjkgicgaaRefMB
import Derived.Test.YtmabjghjkgicgaaLawA
namespace Go.Proofs.Ytmabjghjkgicgaa
open Go.RowKit
set_option linter.unusedVariables false
set_option linter.unusedSimpArgs false

/-- what the reference's Purge tells -/
def RPurgeTo (w : World) (l : Lf) (e : Ending) (w' : World) : Prop :=
  ∃ ia ic ta tc m code, e = .returned (.tuple #[lval m ia ic ta tc, .int .i64 code]) ∧ PurgeR l code m ∧ LfAt w' m ia ic ta tc ∧ Below w.heap.size w w'
theorem below_nine1' {w w1 : World} (hb : Below w.heap.size w w1) (x0 x1 x2 x3 x4 x5 x6 x7 x8 : Value) : Below w.heap.size w (((((((((w1.setCell ⟨w.heap.size + 1, 0, none⟩ x0).setCell ⟨w.heap.size + 1, 1, none⟩ x1).setCell ⟨w.heap.size + 1, 2, none⟩ x2).setCell ⟨w.heap.size + 1, 3, none⟩ x3).setCell ⟨w.heap.size + 1, 4, none⟩ x4).setCell ⟨w.heap.size + 1, 5, none⟩ x5).setCell ⟨w.heap.size + 1, 6, none⟩ x6).setCell ⟨w.heap.size + 1, 7, none⟩ x7).setCell ⟨w.heap.size + 1, 8, none⟩ x8) :=
  ((((((((hb.setCell (by simp) _).setCell (by simp) _).setCell (by simp) _).setCell (by simp) _).setCell (by simp) _).setCell (by simp) _).setCell (by simp) _).setCell (by simp) _).setCell (by simp) _
theorem chg_eleven (s : Nat) (w : World) (y z x0 x1 x2 x3 x4 x5 x6 x7 x8 : Value) : Chg [s, s + 1] w (((((((((((w.setCell ⟨s, 7, none⟩ y).setCell ⟨s, 8, none⟩ z).setCell ⟨s + 1, 0, none⟩ x0).setCell ⟨s + 1, 1, none⟩ x1).setCell ⟨s + 1, 2, none⟩ x2).setCell ⟨s + 1, 3, none⟩ x3).setCell ⟨s + 1, 4, none⟩ x4).setCell ⟨s + 1, 5, none⟩ x5).setCell ⟨s + 1, 6, none⟩ x6).setCell ⟨s + 1, 7, none⟩ x7).setCell ⟨s + 1, 8, none⟩ x8) := ((((((((((((Chg.refl [s, s + 1] w).set ⟨s, 7, none⟩ y (by simp)).set ⟨s, 8, none⟩ z (by simp)).set ⟨s + 1, 0, none⟩ x0 (by simp)).set ⟨s + 1, 1, none⟩ x1 (by simp)).set ⟨s + 1, 2, none⟩ x2 (by simp)).set ⟨s + 1, 3, none⟩ x3 (by simp)).set ⟨s + 1, 4, none⟩ x4 (by simp)).set ⟨s + 1, 5, none⟩ x5 (by simp)).set ⟨s + 1, 6, none⟩ x6 (by simp)).set ⟨s + 1, 7, none⟩ x7 (by simp)).set ⟨s + 1, 8, none⟩ x8 (by simp))
theorem below_eleven {s : Nat} {w0 w : World} (h : Below s w0 w) (y z x0 x1 x2 x3 x4 x5 x6 x7 x8 : Value) : Below s w0 (((((((((((w.setCell ⟨s, 7, none⟩ y).setCell ⟨s, 8, none⟩ z).setCell ⟨s + 1, 0, none⟩ x0).setCell ⟨s + 1, 1, none⟩ x1).setCell ⟨s + 1, 2, none⟩ x2).setCell ⟨s + 1, 3, none⟩ x3).setCell ⟨s + 1, 4, none⟩ x4).setCell ⟨s + 1, 5, none⟩ x5).setCell ⟨s + 1, 6, none⟩ x6).setCell ⟨s + 1, 7, none⟩ x7).setCell ⟨s + 1, 8, none⟩ x8) := (((((((((((h.setCell (Nat.le_refl _) _).setCell (Nat.le_refl _) _).setCell (by simp) _).setCell (by simp) _).setCell (by simp) _).setCell (by simp) _).setCell (by simp) _).setCell (by simp) _).setCell (by simp) _).setCell (by simp) _).setCell (by simp) _)
set_option maxRecDepth 100000 in
set_option maxHeartbeats 4000000 in
theorem rpurge_any (l : Lf) (ia ta : Option Addr) (ic tc : Nat) (w : World) (hl : LfAt w l ia ic ta tc) (hol : okL l) :
    Calls Try.prog 20 #[lval l ia ic ta tc] w (RPurgeTo w l) := by
  obtain ⟨k, n, t, ⟨⟨r, i⟩, s⟩, x, is, ts⟩ := l
  have Hl := Lib.hid hl
  have Hol := Lib.hid hol
  clear hl hol
  simp only [lval]
  go_enter Try.func20, Try.ntmps20
  go_wp2_with fail
  refine (rmayLf_any ⟨k, n, t, ((r, i), s), x, is, ts⟩ ia ta ic tc _ (Hl.out.below ?h1) Hol.out).mono ?_
  case h1 => exact ((Below.refl _ _).alloc (Nat.le_refl _) _).alloc (by simp) _
  rintro e w1 ⟨q, rfl, hq, hb1⟩
  obtain ⟨f0, f1, hz, hB⟩ := new2 hb1
  have d0 := cells_at f0
  have d1 := cells_at f1
  have g0 := free_at f0
  have g1 := free_at f1
  have F0 := Lib.hid f0
  have F1 := Lib.hid f1
  have HB := Lib.hid hB
  have Hq := Lib.hid hq
  clear hb1 f0 f1 hB hq
  cases q with
  | false =>
    go_wp2_with fail
    refine bodyPost_ret (v := .tuple #[lval (bare 0) none 0 none 0, .int .i64 2]) (by simp [results, Try.results20, go_sem, lval, d1, bare, noDot]; rfl) rfl ⟨none, 0, none, 0, bare 0, 2, rfl, .inl ⟨fun h => (by have := Hq.out.2 h; simp at this), rfl, rfl⟩, zero_at _, below_nine1' HB.out _ _ _ _ _ _ _ _ _⟩
  | true =>
    have hz1 : w.heap.size < w1.heap.size := by omega
    have hz2 : w.heap.size + 1 < w1.heap.size := by omega
    go_wp2_with (at_builtin; go_must (refine wpList_appI rfl _ _ rfl w1.heap.size (some ⟨w1.heap.size, 0, none⟩) 0 [] rfl (OwnI.made w1 (Nat.le_refl _)) ia ic is rfl (Hl.out.its.below ?s1) ?n1 ?b1 ?_))
    case s1 => exact HB.out.alloc (by omega) _
    case n1 => have := Hl.out.li; dsimp only at this; simp; omega
    case b1 => simp
    intro v5 a5 c5 w5 hv5 ho5 hb5 _
    have hb5' : Below w1.heap.size w1 w5 := ((Below.refl _ _).alloc (Nat.le_refl _) _).trans hb5
    have f0 := (hb5'.block _ (heap_lt F0.out)).trans F0.out
    have f1 := (hb5'.block _ (heap_lt F1.out)).trans F1.out
    have hv5' : v5 = is := by simpa using hv5
    clear hv5
    subst hv5'
    have Ho := Lib.hid ho5
    have HB5 := Lib.hid (below2 HB.out hb5' HB.out.size)
    have hli : v5.length ≤ 1000000 := Hl.out.li
    have hsz := hb5'.size
    clear d0 d1 g0 g1 F0 F1 HB hb5 hb5' ho5
    have d0 := cells_at f0
    have d1 := cells_at f1
    have g0 := free_at f0
    have g1 := free_at f1
    clear f0 f1
    go_wp2_with fail
    refine bodyPost_ret (v := .tuple #[lval ⟨k, n, t, ((r, i), s), x, v5, []⟩ a5 c5 none 0, .int .i64 0]) (by simp [results, Try.results20, go_sem, lval, d1, bare, noDot]) rfl ⟨a5, c5, none, 0, ⟨k, n, t, ((r, i), s), x, v5, []⟩, 0, rfl, .inr ⟨Hq.out.1 (by simp), rfl, rfl⟩, ⟨?_, Sl.nil _ 3, hli, by simp⟩, ?_⟩
    · exact Sl.chg (F := [w.heap.size, w.heap.size + 1]) (OwnI.its Ho.out) (chg_eleven _ _ _ _ _ _ _ _ _ _ _ _ _) (fun q hq hm => by have := (owns_lt Ho.out q hq).1; simp at hm; omega)
    · exact below_eleven HB5.out _ _ _ _ _ _ _ _ _ _ _
end Go.Proofs.Ytmabjghjkgicgaa
