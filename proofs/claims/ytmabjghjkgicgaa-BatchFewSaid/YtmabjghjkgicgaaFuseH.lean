/- fuse.counter, register, set, log: contracts. -/
import Derived.Test.YtmabjghjkgicgaaFuseG
import Derived.IntWalk
namespace Go.Proofs.Ytmabjghjkgicgaa
open Go.RowKit
set_option linter.unusedVariables false
set_option linter.unusedSimpArgs false

theorem wrap_is (n : Int) : IntKind.wrap .i64 n = wrap64 n := by
  simp only [IntKind.wrap, IntKind.signed, IntKind.bits, wrap64]
  simp
  split <;> omega
theorem wrap_two (x y : Int) : wrap64 (x + wrap64 y) = wrap64 (x + y) := by unfold wrap64; omega
theorem wrap_two' (x y : Int) : wrap64 (wrap64 x + y) = wrap64 (x + y) := by unfold wrap64; omega
set_option maxRecDepth 100000 in
set_option maxHeartbeats 2000000 in
theorem counter_any (l a b : Lf) (la lt ia ta ja ua : Option Addr) (lc ld ic tc jc uc : Nat) (w : World) :
    Calls Try.prog 25 #[lval l la lc lt ld, lval a ia ic ta tc, lval b ja jc ua uc] w fun e w' => e = .returned (lval { a with n := IntKind.wrap .i64 (a.n - l.n + b.n) } ia ic ta tc) ∧ Below w.heap.size w w' := by
  obtain ⟨k, n, t, ⟨⟨r, i⟩, s⟩, x, is, ts⟩ := a
  obtain ⟨k', n', t', ⟨⟨r', i'⟩, s'⟩, x', is', ts'⟩ := b
  obtain ⟨k'', n'', t'', ⟨⟨r'', i''⟩, s''⟩, x'', is'', ts''⟩ := l
  have He := Lib.hid (show IntKind.wrap .i64 (n - n'' + n') = wrap64 (n + wrap64 (n' - n'')) by rw [wrap_is, wrap_two]; congr 1; omega)
  simp only [lval]
  rw [He.out]
  go_enter Try.func25, Try.ntmps25
  go_wp2_with fail
  refine bodyPost_ret (v := lval ⟨k, wrap64 (n + wrap64 (n' - n'')), t, ((r, i), s), x, is, ts⟩ ia ic ta tc) (by simp [results, Try.results25, go_sem, lval]) rfl ⟨rfl, ((((Below.refl _ _).alloc (Nat.le_refl _) _).alloc (by simp) _).alloc (by simp <;> omega) _).alloc (by simp <;> omega) _⟩
theorem four_at (w : World) (o0 o1 o2 o3 : Obj) {w1 : World} (hb : Below ((((w.alloc o0).alloc o1).alloc o2).alloc o3).heap.size ((((w.alloc o0).alloc o1).alloc o2).alloc o3) w1) :
    w1.heap[w.heap.size]? = some o0 ∧ w1.heap[w.heap.size + 1]? = some o1 ∧ w1.heap[w.heap.size + 2]? = some o2 ∧ w1.heap[w.heap.size + 3]? = some o3 ∧ w.heap.size + 4 ≤ w1.heap.size ∧ Below w.heap.size w w1 := by
  have hs := hb.size
  simp at hs
  refine ⟨?_, ?_, ?_, ?_, by omega, ?_⟩
  · rw [hb.block _ (by simp <;> omega)]
    rw [heap_old _ _ (by simp <;> omega), heap_old _ _ (by simp <;> omega), heap_old _ _ (by simp)]
    exact heap_new w o0
  · rw [hb.block _ (by simp <;> omega)]
    rw [heap_old _ _ (by simp <;> omega), heap_old _ _ (by simp)]
    have := heap_new (w.alloc o0) o1
    simpa using this
  · rw [hb.block _ (by simp <;> omega)]
    rw [heap_old _ _ (by simp)]
    have := heap_new ((w.alloc o0).alloc o1) o2
    simpa using this
  · rw [hb.block _ (by simp <;> omega)]
    have := heap_new (((w.alloc o0).alloc o1).alloc o2) o3
    simpa using this
  · exact ((((Below.refl w.heap.size w).alloc (Nat.le_refl _) _).alloc (by simp) _).alloc (by simp <;> omega) _).alloc (by simp <;> omega) _ |>.trans (hb.mono (by simp <;> omega))
theorem below_nine {w w1 : World} (hb : Below w.heap.size w w1) (x0 x1 x2 x3 x4 x5 x6 x7 x8 : Value) : Below w.heap.size w (((((((((w1.setCell ⟨w.heap.size + 3, 0, none⟩ x0).setCell ⟨w.heap.size + 3, 1, none⟩ x1).setCell ⟨w.heap.size + 3, 2, none⟩ x2).setCell ⟨w.heap.size + 3, 3, none⟩ x3).setCell ⟨w.heap.size + 3, 4, none⟩ x4).setCell ⟨w.heap.size + 3, 5, none⟩ x5).setCell ⟨w.heap.size + 3, 6, none⟩ x6).setCell ⟨w.heap.size + 3, 7, none⟩ x7).setCell ⟨w.heap.size + 3, 8, none⟩ x8) :=
  ((((((((hb.setCell (by simp) _).setCell (by simp) _).setCell (by simp) _).setCell (by simp) _).setCell (by simp) _).setCell (by simp) _).setCell (by simp) _).setCell (by simp) _).setCell (by simp) _
/-- the register that wins is told -/
def RegTo (w : World) (a b : Lf) (va vb : Value) (e : Ending) (w' : World) : Prop := ((regP a b = b ∧ e = .returned vb) ∨ (regP a b = a ∧ e = .returned va)) ∧ Below w.heap.size w w'
set_option maxRecDepth 100000 in
set_option maxHeartbeats 2000000 in
theorem register_any (l a b : Lf) (la lt ia ta ja ua : Option Addr) (lc ld ic tc jc uc : Nat) (w : World) :
    Calls Try.prog 26 #[lval l la lc lt ld, lval a ia ic ta tc, lval b ja jc ua uc] w (RegTo w a b (lval a ia ic ta tc) (lval b ja jc ua uc)) := by
  obtain ⟨k, n, t, ⟨⟨r, i⟩, s⟩, x, is, ts⟩ := a
  obtain ⟨k', n', t', ⟨⟨r', i'⟩, s'⟩, x', is', ts'⟩ := b
  obtain ⟨k'', n'', t'', ⟨⟨r'', i''⟩, s''⟩, x'', is'', ts''⟩ := l
  simp only [lval]
  by_cases h0 : t = 0
  · subst h0
    have He := Lib.hid (show regP ⟨k, n, 0, ((r, i), s), x, is, ts⟩ ⟨k', n', t', ((r', i'), s'), x', is', ts'⟩ = ⟨k', n', t', ((r', i'), s'), x', is', ts'⟩ by simp [regP])
    go_enter Try.func26, Try.ntmps26
    go_wp2_with fail
    refine bodyPost_ret (v := lval ⟨k', n', t', ((r', i'), s'), x', is', ts'⟩ ja jc ua uc) (by simp [results, Try.results26, go_sem, lval]) rfl ⟨.inl ⟨He.out, rfl⟩, ((((Below.refl _ _).alloc (Nat.le_refl _) _).alloc (by simp) _).alloc (by simp <;> omega) _).alloc (by simp <;> omega) _⟩
  · by_cases h1 : t' = 0
    · subst h1
      have He := Lib.hid (show regP ⟨k, n, t, ((r, i), s), x, is, ts⟩ ⟨k', n', 0, ((r', i'), s'), x', is', ts'⟩ = ⟨k, n, t, ((r, i), s), x, is, ts⟩ by simp [regP, h0])
      go_enter Try.func26, Try.ntmps26
      go_wp2_with fail
      refine bodyPost_ret (v := lval ⟨k, n, t, ((r, i), s), x, is, ts⟩ ia ic ta tc) (by simp [results, Try.results26, go_sem, lval]) rfl ⟨.inr ⟨He.out, rfl⟩, ((((Below.refl _ _).alloc (Nat.le_refl _) _).alloc (by simp) _).alloc (by simp <;> omega) _).alloc (by simp <;> omega) _⟩
    · have h0' : (t == 0) = false := by simpa using h0
      have h1' : (t' == 0) = false := by simpa using h1
      go_enter Try.func26, Try.ntmps26
      go_wp2_with fail
      refine (ahead_any t' ((r', i'), s') t ((r, i), s) _).mono ?_
      rintro e w1 ⟨rfl, hb⟩
      have hb4 := hb
      obtain ⟨f0, f1, f2, f3, hz, hB⟩ := four_at w _ _ _ _ hb
      have d0 := cells_at f0
      have d1 := cells_at f1
      have d2 := cells_at f2
      have d3 := cells_at f3
      have g3 := free_at f3
      have HB := Lib.hid hB
      clear hb hb4 f0 f1 f2 f3 hB
      cases ha : aheadT t' ((r', i'), s') t ((r, i), s) with
      | true =>
        have He := Lib.hid (show regP ⟨k, n, t, ((r, i), s), x, is, ts⟩ ⟨k', n', t', ((r', i'), s'), x', is', ts'⟩ = ⟨k, n, t, ((r, i), s), x, is, ts⟩ by simp [regP, h0, h1, ha])
        clear ha
        go_wp2_with fail
        refine bodyPost_ret (v := lval ⟨k, n, t, ((r, i), s), x, is, ts⟩ ia ic ta tc) (by simp [results, Try.results26, go_sem, lval, d3]) rfl ⟨.inr ⟨He.out, rfl⟩, below_nine HB.out _ _ _ _ _ _ _ _ _⟩
      | false =>
        have He := Lib.hid (show regP ⟨k, n, t, ((r, i), s), x, is, ts⟩ ⟨k', n', t', ((r', i'), s'), x', is', ts'⟩ = ⟨k', n', t', ((r', i'), s'), x', is', ts'⟩ by simp [regP, h0, h1, ha])
        clear ha
        go_wp2_with fail
        refine bodyPost_ret (v := lval ⟨k', n', t', ((r', i'), s'), x', is', ts'⟩ ja jc ua uc) (by simp [results, Try.results26, go_sem, lval, d3]) rfl ⟨.inl ⟨He.out, rfl⟩, below_nine HB.out _ _ _ _ _ _ _ _ _⟩
end Go.Proofs.Ytmabjghjkgicgaa
