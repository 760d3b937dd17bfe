/- The matrix in memory; New, Take. -/
import Derived.Test.YtblahapjdgncfaaMatB
namespace Go.Proofs.Ytblahapjdgncfaa
open Go.RowKit
set_option linter.unusedVariables false
set_option linter.unusedSimpArgs false

def ptrV : Option Nat → Value
  | none => .pointer none
  | some p => .pointer (some ⟨p, 0, none⟩)
/-- a row's block, within F, not pm -/
def RowAt (w : World) (F : Nat → Prop) (pm p : Nat) (a : Ak) : Prop :=
  ∃ ai ci av cv, w.heap[p]? = some (.cells #[.int .u8 a.r, .int .u32 a.i, .slice ai a.incs.length ci, .slice av a.vv.length cv] 51 (0, 0)) ∧ U32 w ai ci a.incs ∧ Vec w av cv a.vv ∧ ∀ k ∈ p :: (ob ai ++ ob av), F k ∧ k ≠ pm
theorem RowAt.chg {w w' : World} {F : Nat → Prop} {pm p : Nat} {a : Ak} {G : List Nat} (h : RowAt w F pm p a) (hc : Chg G w w') (hG : ∀ k ∈ G, F k → k = pm) : RowAt w' F pm p a := by
  obtain ⟨ai, ci, av, cv, h1, h2, h3, h4⟩ := h
  have hn : ∀ k ∈ p :: (ob ai ++ ob av), k ∉ G := fun k hk hg => (h4 k hk).2 (hG k hg (h4 k hk).1)
  refine ⟨ai, ci, av, cv, heap_chg h1 hc (hn p (by simp)), Sl.chg h2 hc (fun k hk => hn k (by simp [hk])), Sl.chg h3 hc (fun k hk => hn k (by simp [hk])), h4⟩
theorem RowAt.mono {w : World} {F G : Nat → Prop} {pm p : Nat} {a : Ak} (h : RowAt w F pm p a) (hF : ∀ k, F k → G k) : RowAt w G pm p a := by
  obtain ⟨ai, ci, av, cv, h1, h2, h3, h4⟩ := h
  exact ⟨ai, ci, av, cv, h1, h2, h3, fun k hk => ⟨hF k (h4 k hk).1, (h4 k hk).2⟩⟩
/-- the matrix of n at pm has the rows R, within F -/
structure MatAt (w : World) (F : Nat → Prop) (pm n : Nat) (R : Mx) (C : Array Value) (P : Nat → Option Nat) : Prop where
  blk : w.heap[pm]? = some (.cells C 96 (0, 0))
  size : C.size = 17
  c0 : C[0]? = some (.int .i64 n)
  cP : ∀ k, k < 16 → C[1 + k]? = some (ptrV (P k))
  hF : F pm
  hn : 1 ≤ n ∧ n ≤ 16
  rows : ∀ k, k < 16 → (P k = none ∧ R k = none) ∨ ∃ p a, P k = some p ∧ R k = some a ∧ RowAt w F pm p a
def MatR (w : World) (F : Nat → Prop) (pm n : Nat) (R : Mx) : Prop := ∃ C P, MatAt w F pm n R C P
theorem MatR.chg {w w' : World} {F : Nat → Prop} {pm n : Nat} {R : Mx} {G : List Nat} (h : MatR w F pm n R) (hc : Chg G w w') (hG : ∀ k ∈ G, ¬ F k) : MatR w' F pm n R := by
  obtain ⟨C, P, h⟩ := h
  refine ⟨C, P, heap_chg h.blk hc (fun hg => hG _ hg h.hF), h.size, h.c0, h.cP, h.hF, h.hn, fun k hk => ?_⟩
  rcases h.rows k hk with h1 | ⟨p, a, h1, h2, h3⟩
  · exact .inl h1
  · exact .inr ⟨p, a, h1, h2, h3.chg hc (fun k hk hf => absurd hf (hG k hk))⟩
theorem MatR.below {w w' : World} {F : Nat → Prop} {pm n : Nat} {R : Mx} (h : MatR w F pm n R) (hb : Below w.heap.size w w') : MatR w' F pm n R := h.chg (G := []) (Chg.of_below hb) (by simp)
theorem MatR.mono {w : World} {F G : Nat → Prop} {pm n : Nat} {R : Mx} (h : MatR w F pm n R) (hF : ∀ k, F k → G k) : MatR w G pm n R := by
  obtain ⟨C, P, h⟩ := h
  refine ⟨C, P, h.blk, h.size, h.c0, h.cP, hF _ h.hF, h.hn, fun k hk => ?_⟩
  rcases h.rows k hk with h1 | ⟨p, a, h1, h2, h3⟩
  · exact .inl h1
  · exact .inr ⟨p, a, h1, h2, h3.mono hF⟩
/-- what is true of all rows -/
def okR (n : Nat) (R : Mx) : Prop := ∀ k a, R k = some a → k < n ∧ a.r = k ∧ mayA (a.r, a.i) = true ∧ okV a.vv ∧ mayIncs a.incs n = true ∧ canonV a.vv = a.vv
def newR : Mx := fun _ => none

def NewTo (w : World) (n : Int) (e : Ending) (w' : World) : Prop :=
    (¬ (1 ≤ n ∧ n ≤ 16) ∧ e = .returned (.tuple #[.pointer none, .int .i64 2]) ∧ w' = w) ∨
    ((1 ≤ n ∧ n ≤ 16) ∧ e = .returned (.tuple #[.pointer (some ⟨w.heap.size, 0, none⟩), .int .i64 0]) ∧ MatR w' (fun b => w.heap.size ≤ b) w.heap.size n.toNat newR ∧ Below w.heap.size w w')
theorem new_any (n : Int) (w : World) : Calls Try.prog 30 #[.int .i64 n] w (NewTo w n) := by
  by_cases h1 : n < 1
  · go_enter Try.func30, Try.ntmps30
    go_wp2_with fail
    exact bodyPost_ret (v := .tuple #[.pointer none, .int .i64 2]) (by simp [results, Try.results30, go_sem]) rfl (.inl ⟨by omega, rfl, rfl⟩)
  · have h1' : decide (n < 1) = false := by simpa using h1
    by_cases h2 : 16 < n
    · go_enter Try.func30, Try.ntmps30
      go_wp2_with fail
      exact bodyPost_ret (v := .tuple #[.pointer none, .int .i64 2]) (by simp [results, Try.results30, go_sem]) rfl (.inl ⟨by omega, rfl, rfl⟩)
    · have h2' : decide (16 < n) = false := by simpa using h2
      go_enter Try.func30, Try.ntmps30
      go_wp2_with fail
      refine bodyPost_ret (v := .tuple #[.pointer (some ⟨w.heap.size, 0, none⟩), .int .i64 0]) (by simp [results, Try.results30, go_sem]) rfl (.inr ?_)
      refine ⟨by omega, rfl, ⟨_, fun _ => none, heap_new w _, rfl, ?_, ?_, Nat.le_refl _, by omega, fun k _ => .inl ⟨rfl, rfl⟩⟩, (Below.refl _ _).alloc (Nat.le_refl _) _⟩
      · show some (Value.int .i64 n) = some (Value.int .i64 (n.toNat : Nat)); rw [Int.toNat_of_nonneg (by omega)]
      · intro k hk
        match k, hk with
        | 0, _ | 1, _ | 2, _ | 3, _ | 4, _ | 5, _ | 6, _ | 7, _ | 8, _ | 9, _ | 10, _ | 11, _ | 12, _ | 13, _ | 14, _ | 15, _ => rfl
        | k + 16, h => omega

theorem take_none (k : Nat) (i : Int) (ai av : Option Addr) (ci cv m q : Nat) (w : World) :
    Calls Try.prog 33 #[.pointer none, .agg #[.int .u8 k, .int .u32 i, .slice ai q ci, .slice av m cv]] w fun e w' => e = .returned (.bool false) ∧ Below w.heap.size w w' := by
  go_enter Try.func33, Try.ntmps33
  go_wp2_with fail
  refine region_text [([0, 1, 2, 3, 4, 5, 6, 7, 8, 9, 10], false)] mixed (by kernel_rfl) ?_
  simp only [wpSegs, List.map_cons, List.map_nil, List.getD_cons_succ, List.getD_cons_zero]
  go_wp2_with fail
  refine And.intro (by kernel_rfl) ?_
  go_wp2_with fail
  go_ret
  exact ⟨rfl, ((Below.refl _ _).alloc (Nat.le_refl _) _).drew⟩

end Go.Proofs.Ytblahapjdgncfaa
