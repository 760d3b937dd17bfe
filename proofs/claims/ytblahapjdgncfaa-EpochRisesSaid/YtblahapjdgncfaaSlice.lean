/- Parts of slices of dots: x[:j], x[j:]. -/
import Derived.Test.YtblahapjdgncfaaDotC
namespace Go.Proofs.Ytblahapjdgncfaa
open Go.RowKit
set_option linter.unusedVariables false
set_option linter.unusedSimpArgs false
theorem slice_hi (oa : Option Addr) (n oc j : Nat) (hj : j ≤ n) (hn : n ≤ oc) (W : World) : (Instr.sliceAt 23 (.slice oa n oc) none (some (.int .i64 (j : Int))) none).run Try.prog W = .ok (.slice oa j oc) W := by
  simp [go_sem, Instr.sliceAt, Instr.slice, run_underlying Try.underlying23]
  intro h; omega
theorem slice_lo (oa : Option Addr) (n oc j : Nat) (hj : j ≤ n) (hn : n ≤ oc) (W : World) : (Instr.sliceAt 23 (.slice oa n oc) (some (.int .i64 (j : Int))) none none).run Try.prog W = .ok (.slice (if oc = j then oa else oa.map (·.add (j * 3))) (n - j) (oc - j)) W := by
  simp [go_sem, Instr.sliceAt, Instr.slice, run_underlying Try.underlying23]
  intro h; omega
theorem dcells_take (U : List Dt) (j : Nat) : (dcells U).take (j * 3) = dcells (U.take j) := by
  induction U generalizing j with
  | nil => simp [dcells]
  | cons x U ih =>
    cases j with
    | zero => simp [dcells]
    | succ j =>
      have := ih j
      simp only [dcells, List.flatMap_cons, List.take_succ_cons] at this ⊢
      rw [show (j + 1) * 3 = 3 + j * 3 by omega, List.take_append, show (dcell x).length = 3 from rfl, show 3 + j * 3 - 3 = j * 3 by omega, this, List.take_of_length_le (by simp [dcell])]
theorem dcells_drop (U : List Dt) (j : Nat) : (dcells U).drop (j * 3) = dcells (U.drop j) := by
  induction U generalizing j with
  | nil => simp [dcells]
  | cons x U ih =>
    cases j with
    | zero => simp [dcells]
    | succ j =>
      have := ih j
      simp only [dcells, List.flatMap_cons, List.drop_succ_cons] at this ⊢
      rw [show (j + 1) * 3 = 3 + j * 3 by omega, List.drop_append, show (dcell x).length = 3 from rfl, show 3 + j * 3 - 3 = j * 3 by omega, this, List.drop_eq_nil_of_le (by simp [dcell])]
      rfl
theorem Vec.take {w : World} {a : Option Addr} {c : Nat} {U : List Dt} (h : Vec w a c U) {j : Nat} (hj : j ≤ U.length) : Sl w 3 a j c (dcells (U.take j)) := by
  obtain ⟨h1, h2, h3, h4⟩ := h
  refine ⟨by rw [dcells_length, List.length_take]; omega, by omega, h3, ?_⟩
  rcases h4 with ⟨h5, h6, h7⟩ | ⟨b, rfl, hc⟩
  · exact .inl ⟨h5, by omega, h7⟩
  · refine .inr ⟨b, rfl, fun i u hu => hc i u ?_⟩
    rw [← dcells_take, List.getElem?_take] at hu
    split at hu
    · exact hu
    · cases hu
theorem Vec.drop {w : World} {a : Option Addr} {c : Nat} {U : List Dt} (h : Vec w a c U) {j : Nat} (hj : j ≤ U.length) : Sl w 3 (if c = j then a else a.map (·.add (j * 3))) (U.length - j) (c - j) (dcells (U.drop j)) := by
  obtain ⟨h1, h2, h3, h4⟩ := h
  refine ⟨by rw [dcells_length, List.length_drop], by omega, by omega, ?_⟩
  rcases h4 with ⟨rfl, h6, h7⟩ | ⟨b, rfl, hc⟩
  · exact .inl ⟨by split <;> rfl, by omega, by omega⟩
  · by_cases e : c = j
    · rw [if_pos e]
      refine .inr ⟨b, rfl, fun i u hu => ?_⟩
      rw [List.drop_eq_nil_of_le (by omega)] at hu
      simp [dcells] at hu
    · rw [if_neg e]
      refine .inr ⟨b.add (j * 3), rfl, fun i u hu => ?_⟩
      rw [Go.Deep.add_add]
      refine hc _ _ ?_
      rw [← dcells_drop, List.getElem?_drop] at hu
      exact hu
end Go.Proofs.Ytblahapjdgncfaa
