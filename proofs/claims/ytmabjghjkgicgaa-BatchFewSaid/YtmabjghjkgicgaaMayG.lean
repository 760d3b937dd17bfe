/- op.of, op.May, exact. -/
import Derived.Test.YtmabjghjkgicgaaMayE
import Derived.Laws.EntriesVeiled
namespace Go.Proofs.Ytmabjghjkgicgaa
open Go.RowKit
set_option linter.unusedVariables false
set_option linter.unusedSimpArgs false

/-- what op.of tells -/
def OfTo (w : World) (k : Int) (e : Ending) (w' : World) : Prop :=
  ((¬ (1 ≤ k ∧ k ≤ 5) ∧ e = .returned (.tuple #[.agg #[.int .u8 0, .nilFunc], .bool false])) ∨
   (k = 1 ∧ e = .returned (.tuple #[.agg #[.int .u8 1, .func (.func 95) #[] #[]], .bool true])) ∨
   (k = 2 ∧ e = .returned (.tuple #[.agg #[.int .u8 2, .func (.func 96) #[] #[]], .bool true])) ∨
   (k = 3 ∧ e = .returned (.tuple #[.agg #[.int .u8 3, .func (.func 96) #[] #[]], .bool true])) ∨
   (k = 4 ∧ e = .returned (.tuple #[.agg #[.int .u8 3, .func (.func 97) #[] #[]], .bool true])) ∨
   (k = 5 ∧ e = .returned (.tuple #[.agg #[.int .u8 4, .func (.func 96) #[] #[]], .bool true]))) ∧ Below w.heap.size w w'
theorem of_below (w : World) (o o' : Obj) : Below w.heap.size w ((w.alloc o).alloc o') := ((Below.refl _ _).alloc (Nat.le_refl _) _).alloc (by simp) _
set_option maxRecDepth 100000 in
set_option maxHeartbeats 4000000 in
theorem of_any (k : Int) (w : World) : Calls Try.prog 62 #[.int .u8 k] w (OfTo w k) := by
  go_enter Try.func62, Try.ntmps62
  by_cases h1 : k < 1
  · have Hn := Lib.hid (show ¬ (1 ≤ k ∧ k ≤ 5) by omega)
    go_wp2_with fail
    all_goals exact bodyPost_ret (v := .tuple #[.agg #[.int .u8 0, .nilFunc], .bool false]) (by simp [results, Try.results62, go_sem]; try rfl) rfl ⟨.inl ⟨Hn.out, rfl⟩, of_below _ _ _⟩
  · by_cases h5 : 5 < k
    · have Hn := Lib.hid (show ¬ (1 ≤ k ∧ k ≤ 5) by omega)
      go_wp2_with fail
      all_goals exact bodyPost_ret (v := .tuple #[.agg #[.int .u8 0, .nilFunc], .bool false]) (by simp [results, Try.results62, go_sem]; try rfl) rfl ⟨.inl ⟨Hn.out, rfl⟩, of_below _ _ _⟩
    · have : k = 1 ∨ k = 2 ∨ k = 3 ∨ k = 4 ∨ k = 5 := by omega
      rcases this with rfl | rfl | rfl | rfl | rfl
      · go_wp2_with fail
        all_goals exact bodyPost_ret (v := .tuple #[.agg #[.int .u8 1, .func (.func 95) #[] #[]], .bool true]) (by simp [results, Try.results62, go_sem]; try rfl) rfl ⟨.inr (.inl ⟨rfl, rfl⟩), of_below _ _ _⟩
      · go_wp2_with fail
        all_goals exact bodyPost_ret (v := .tuple #[.agg #[.int .u8 2, .func (.func 96) #[] #[]], .bool true]) (by simp [results, Try.results62, go_sem]; try rfl) rfl ⟨.inr (.inr (.inl ⟨rfl, rfl⟩)), of_below _ _ _⟩
      · go_wp2_with fail
        all_goals exact bodyPost_ret (v := .tuple #[.agg #[.int .u8 3, .func (.func 96) #[] #[]], .bool true]) (by simp [results, Try.results62, go_sem]; try rfl) rfl ⟨.inr (.inr (.inr (.inl ⟨rfl, rfl⟩))), of_below _ _ _⟩
      · go_wp2_with fail
        all_goals exact bodyPost_ret (v := .tuple #[.agg #[.int .u8 3, .func (.func 97) #[] #[]], .bool true]) (by simp [results, Try.results62, go_sem]; try rfl) rfl ⟨.inr (.inr (.inr (.inr (.inl ⟨rfl, rfl⟩)))), of_below _ _ _⟩
      · go_wp2_with fail
        all_goals exact bodyPost_ret (v := .tuple #[.agg #[.int .u8 4, .func (.func 96) #[] #[]], .bool true]) (by simp [results, Try.results62, go_sem]; try rfl) rfl ⟨.inr (.inr (.inr (.inr (.inr ⟨rfl, rfl⟩)))), of_below _ _ _⟩
theorem add_op (n : Int) (x : ByteArray) (p : List ByteArray) (ds : List Dt) : OpP 1 n x p ds ↔ PathP p ∧ AddsP n x ds := by
  constructor
  · intro h
    have := h.add rfl
    exact ⟨h.path, this.1, this.2.1, this.2.2.1, this.2.2.2⟩
  · rintro ⟨hp, h1, h2, h3, rfl⟩
    exact ⟨by decide, hp, by omega, by simp, fun _ => ⟨h1, h2, h3, rfl⟩, fun h => absurd rfl h⟩
theorem plain_op (k n : Int) (x : ByteArray) (p : List ByteArray) (ds : List Dt) (hk : typeOf k ≠ 0) (h1 : k ≠ 1) (h4 : k ≠ 4) : OpP k n x p ds ↔ PathP p ∧ PlainP n x ds := by
  constructor
  · intro h
    have := h.rest h1
    exact ⟨h.path, this.1, h.text, this.2.1 h4⟩
  · rintro ⟨hp, h2, h3, rfl⟩
    exact ⟨hk, hp, h3, by simp, fun h => absurd h h1, fun _ => ⟨h2, fun _ => rfl, fun d hd => (by cases hd), .nil⟩⟩
theorem drops_op (n : Int) (x : ByteArray) (p : List ByteArray) (ds : List Dt) : OpP 4 n x p ds ↔ PathP p ∧ DropsP n x ds := by
  constructor
  · intro h
    have := h.rest (by decide)
    exact ⟨h.path, this.1, h.text, h.few, this.2.2⟩
  · rintro ⟨hp, h2, h3, h4, h5⟩
    exact ⟨by decide, hp, h3, h4, fun h => (by cases h), fun _ => ⟨h2, fun h => absurd rfl h, h5⟩⟩
theorem no_op {k n : Int} {x : ByteArray} {p : List ByteArray} {ds : List Dt} (h : ¬ (1 ≤ k ∧ k ≤ 5)) : ¬ OpP k n x p ds := fun hh => by
  apply hh.kind
  unfold typeOf
  repeat (split; (try omega))
  rfl
end Go.Proofs.Ytmabjghjkgicgaa
