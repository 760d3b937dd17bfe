/- BagKeeps: the map that counts letters; its plain laws. -/
import Derived.Test.YtkgbdgnfidpelaaPlayA
import Derived.Maps.OwnOps
import Derived.Maps.Views
namespace Go.Proofs.Ytkgbdgnfidpelaa
open Go.RowKit
open Go.Maps (IsMap)
set_option linter.unusedVariables false
set_option linter.unusedSimpArgs false

/-- a letter's key -/
def lkey (l : Lt) : List UInt8 := UInt8.ofNat l.t.toNat :: l.b
def cnt (k : List UInt8) (L : List Lt) : Nat := (L.filter fun l => lkey l == k).length
def OkTo (L : List Lt) : Prop := ∀ l ∈ L, ∃ b : UInt8, l.t = (b.toNat : Int)
theorem lkey_of (b : UInt8) (bs : List UInt8) (ch : Bool) : lkey ⟨(b.toNat : Int), bs, ch⟩ = b :: bs := by simp [lkey]

theorem cnt_snoc (k : List UInt8) (L : List Lt) (l : Lt) : cnt k (L ++ [l]) = cnt k L + if lkey l = k then 1 else 0 := by
  by_cases h : lkey l = k <;> simp [cnt, List.filter_append, h]
theorem cnt_erase (k : List UInt8) : ∀ (L : List Lt) (i : Nat) (l : Lt), L[i]? = some l → cnt k (L.eraseIdx i) + (if lkey l = k then 1 else 0) = cnt k L
  | [], i, l, h => by simp at h
  | x :: L, 0, l, h => by
    simp at h; subst h
    by_cases h : lkey x = k <;> simp [cnt, h]
  | x :: L, i + 1, l, h => by
    have ih := cnt_erase k L i l (by simpa using h)
    simp only [List.eraseIdx_cons_succ]
    unfold cnt at ih ⊢
    by_cases hx : lkey x = k
    · simp only [List.filter_cons, hx, beq_self_eq_true, if_true, List.length_cons]; omega
    · have hx' : (lkey x == k) = false := by simpa using hx
      simp only [List.filter_cons, hx', if_false, Bool.false_eq_true]; omega
theorem cnt_le (k : List UInt8) (L : List Lt) : cnt k L ≤ L.length := List.length_filter_le _ _

/-- block mb is a map that counts the letters L by their keys -/
def MapC (w : World) (mb : Nat) (n : Nat) (L : List Lt) : Prop :=
  ∃ D : DataW Unit, w.ownsMap Try.prog 9 (plainElem Try.prog 3) mb n D ∧ IsMap D ∧ ∀ k : List UInt8, D.atKey (.string k) (.lit (.int .i64 0)) = .lit (.int .i64 (cnt k L))

theorem MapC.chg {F : List Nat} {w w' : World} {mb n : Nat} {L : List Lt} (h : MapC w mb n L) (hc : Chg F w w') (hm : mb ∉ F) : MapC w' mb n L := by
  obtain ⟨D, ⟨es, clock, h1, h2⟩, h3⟩ := h
  exact ⟨D, ⟨es, clock, heap_chg h1 hc hm, h2⟩, h3⟩
theorem MapC.lt {w : World} {mb n : Nat} {L : List Lt} (h : MapC w mb n L) : mb < w.heap.size := by
  obtain ⟨D, h1, _⟩ := h
  exact h1.lt
theorem MapC.new (w : World) : MapC (w.alloc (.map #[] 0)) w.heap.size 0 [] :=
  ⟨.map [], World.ownsMap_made w _ _ _, Go.Maps.isMap_empty, fun k => rfl⟩
theorem MapC.put {w' : World} {D : DataW Unit} {mb n : Nat} {L L' : List Lt} {k : List UInt8} {m : Int} (hD : IsMap D) (hk : ∀ k : List UInt8, D.atKey (.string k) (.lit (.int .i64 0)) = .lit (.int .i64 (cnt k L)))
    (ho : w'.ownsMap Try.prog 9 (plainElem Try.prog 3) mb n (D.put (.string k) (.lit (.int .i64 m)))) (h1 : m = cnt k L') (h2 : ∀ k', k' ≠ k → cnt k' L' = cnt k' L) : MapC w' mb n L' := by
  refine ⟨_, ho, hD.put _ _, fun k' => ?_⟩
  by_cases h : k' = k
  · subst h
    rw [Go.Maps.atKey_put_same hD (by first | trivial | simp [WideAt.IsKeyLit]), h1]
  · rw [Go.Maps.atKey_put_other (by simpa using h), hk, h2 k' h]
end Go.Proofs.Ytkgbdgnfidpelaa
