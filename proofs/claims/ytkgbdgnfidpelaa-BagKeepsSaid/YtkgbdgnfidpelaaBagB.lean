/- Contracts of bytes.Clone and letter.own. -/
import Derived.Test.YtkgbdgnfidpelaaMem
namespace Go.Proofs.Ytkgbdgnfidpelaa
open Go.RowKit
set_option linter.unusedVariables false
set_option linter.unusedSimpArgs false

theorem Try.info_u8 : (Try.prog.info? 5).map (fun i => (i.zero, i.size, i.bytes)) = some (some (.int .u8 0), 1, 1) := by kernel_rfl
theorem eqnil_u8s (w : World) (a : Option Addr) (n c n' c' : Nat) : (binOp .eql 24 (.slice a n c) (.slice none n' c')).run Try.prog w = .ok (.bool a.isNone) w := Lib.run_eql_slice_nil w _ _ a n c n' c' Try.underlying24
attribute [go_sem] eqnil_u8s

theorem clone_nil (w : World) : Calls Try.prog 30 #[.slice none 0 0] w fun e w' => e = .returned (.slice none 0 0) ∧ w = w' := by
  go_enter Try.func30, Try.ntmps30
  go_wp2
  go_ret
  exact ⟨rfl, rfl⟩

theorem clone_some (a : Addr) (n c : Nat) (xs : List Value) (w : World) (hl : xs.length = n * 1) (hx : ∀ j u, xs[j]? = some u → w.cell? (a.add j) = some u) (h1 : ∀ u ∈ xs, u.oneCell' = true) (hn : n ≤ 140737488355328) :
    Calls Try.prog 30 #[.slice (some a) n c] w fun e w' => ∃ v', e = .returned v' ∧ w'.ownsRow w.heap.size 5 1 v' n xs ∧ v' ≠ .slice none 0 0 ∧ Below w.heap.size w w' := by
  obtain ⟨i0, hi, hz0, hz1, hz2⟩ := info_parts Try.info_u8
  have Hl := Lib.hid hl; clear hl
  have Hx := Lib.hid hx; clear hx
  have H1 := Lib.hid h1; clear h1
  go_enter Try.func30, Try.ntmps30
  go_wp2_with (at_builtin; go_must (refine wpList_append_own _ rfl _ _ 24 rfl w.heap.size 5 i0 (.int .u8 0) 1 1 Try.underlying24 hi hz0 hz1 hz2 rfl (by decide) _ 0 [] rfl (World.ownsRow_made w #[] 0 (Nat.le_refl _) (by decide) rfl) a n c xs rfl Hl.out (fun j u hu => ?c1) H1.out ?c2 ?c3 ?c4 ?_))
  case c1 => have := Hx.out j u hu; rw [World.cell?_alloc_lt _ _ _ (World.block_lt_of_cell? w _ this)]; exact this
  case c2 => unfold maxLen; omega
  case c3 => omega
  case c4 => simp
  intro v' w1 ho hg hnil
  clear Hx H1
  go_wp2
  go_ret
  exact ⟨v', rfl, ho, hnil, ((Below.refl _ _).alloc (Nat.le_refl _) _).grown hg (by simp) (by intro k hk; simp [Value.ownBlock] at hk; omega)⟩

/-- bytes.Clone, nil too. -/
theorem clone_any (a : Option Addr) (n c : Nat) (xs : List Value) (w : World) (h : Sl w 1 a n c xs) (h1 : ∀ u ∈ xs, u.oneCell' = true) (hn : n ≤ 140737488355328) :
    Calls Try.prog 30 #[.slice a n c] w fun e w' => ∃ a' c', e = .returned (.slice a' n c') ∧ w'.ownsRow w.heap.size 5 1 (.slice a' n c') n xs ∧ Below w.heap.size w w' := by
  obtain ⟨hl, hc, hm, ⟨rfl, rfl, rfl⟩ | ⟨b, rfl, hx⟩⟩ := h
  · refine (clone_nil w).mono ?_
    rintro e w' ⟨rfl, rfl⟩
    obtain rfl : xs = [] := List.eq_nil_of_length_eq_zero (by omega)
    exact ⟨_, _, rfl, World.ownsRow_nil _ _ _ _, Below.refl _ _⟩
  · refine (clone_some b n c xs w hl hx h1 hn).mono ?_
    rintro e w' ⟨v', rfl, ho, _, hb⟩
    obtain ⟨a', c', rfl⟩ := owns_slice ho
    exact ⟨a', c', rfl, ho, hb⟩

/-- letter.own -/
theorem own_any (t8 : Int) (ch : Bool) (a : Option Addr) (n c : Nat) (xs : List Value) (w : World) (h : Sl w 1 a n c xs) (h1 : ∀ u ∈ xs, u.oneCell' = true) (hn : n ≤ 140737488355328) :
    Calls Try.prog 22 #[.agg #[.int .u8 t8, .slice a n c, .bool ch]] w fun e w' => ∃ a' c', e = .returned (.agg #[.int .u8 t8, .slice a' n c', .bool ch]) ∧ w'.ownsRow w.heap.size 5 1 (.slice a' n c') n xs ∧ Below w.heap.size w w' := by
  have H1 := Lib.hid h1; clear h1
  go_enter Try.func22, Try.ntmps22
  go_wp2_with fail
  refine (clone_any a n c xs _ (h.below ?hs) H1.out hn).mono ?_
  case hs => exact ((Below.refl _ _).alloc (Nat.le_refl _) _).alloc (by simp) _
  rintro e w1 ⟨a', c', rfl, ho, hb⟩
  obtain ⟨hb0, hb1, hz, hB⟩ := new2 hb
  have c0 := cells_at hb0
  have f0 := free_at hb0
  have c1 := cells_at hb1
  have f1 := free_at hb1
  clear hb0 hb1
  go_wp2
  refine bodyPost_ret (v := .agg #[.int .u8 t8, .slice a' n c', .bool ch]) (by simp [results, Try.results22, go_sem, c1]) rfl ⟨a', c', rfl, ?_, ?_⟩
  · refine owns_base (ownsRow_setCell_below (ownsRow_setCell_below (ownsRow_setCell_below (ownsRow_setCell_below ho ?_ _) ?_ _) ?_ _) ?_ _) ?_ <;> simp <;> omega
  · exact (((hB.setCell (by simp) _).setCell (by simp) _).setCell (by simp) _).setCell (by simp) _
end Go.Proofs.Ytkgbdgnfidpelaa
