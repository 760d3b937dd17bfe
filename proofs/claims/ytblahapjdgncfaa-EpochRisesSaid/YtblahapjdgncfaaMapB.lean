/- Keys that are structs of two integers. No program in sight. -/
import Derived.Test.YtblahapjdgncfaaMapA
namespace Go.Proofs.Ytblahapjdgncfaa
open Go.RowKit
set_option linter.unusedVariables false
set_option linter.unusedSimpArgs false
theorem wf8 (r : Int) : (Lit.int .u8 r).wf = true ↔ 0 ≤ r ∧ r ≤ 255 := by simp [Lit.wf, IntKind.min, IntKind.max, IntKind.signed, IntKind.bits]
theorem wf32 (r : Int) : (Lit.int .u32 r).wf = true ↔ 0 ≤ r ∧ r ≤ 4294967295 := by simp [Lit.wf, IntKind.min, IntKind.max, IntKind.signed, IntKind.bits]
theorem wf64 (r : Int) : (Lit.int .u64 r).wf = true ↔ 0 ≤ r ∧ r ≤ 18446744073709551615 := by simp [Lit.wf, IntKind.min, IntKind.max, IntKind.signed, IntKind.bits]
section
variable {P : Program}
def litOf (q : IntKind) (v : Value) : Option (List Lit) :=
  match v with
  | .int q' n => if q' = q ∧ (Lit.int q n).wf = true then some [.int q n] else none
  | _ => none
theorem keyLits_one {d : Nat} {t : TypeId} {q : IntKind} (hu : P.underlying t = some (.int q)) (v : Value) : P.keyLits (d + 1) t [v] = litOf q v := by
  unfold Program.keyLits litOf
  rw [hu]
  cases v <;> rfl
theorem litOf_some {q : IntKind} {v : Value} {L : List Lit} (h : litOf q v = some L) : ∃ n, v = .int q n ∧ (Lit.int q n).wf = true := by
  unfold litOf at h
  split at h
  · split at h
    · rename_i hc; obtain ⟨rfl, hw⟩ := hc; exact ⟨_, rfl, hw⟩
    · cases h
  · cases h
theorem keyLits_two {d : Nat} {k : TypeId} {f0 f1 : Field} {q0 q1 : IntKind} (hu : P.underlying k = some (.struct #[f0, f1])) (n0 : (f0.name != "_") = true) (n1 : (f1.name != "_") = true) (o0 : f0.offset = 0) (o1 : f1.offset = 1)
    (c : P.cellsOf k = 2) (c0 : P.cellsOf f0.type = 1) (c1 : P.cellsOf f1.type = 1) (u0 : P.underlying f0.type = some (.int q0)) (u1 : P.underlying f1.type = some (.int q1)) (x y : Value) :
    P.keyLits (d + 2) k [x, y] = (litOf q0 x).bind fun a => (litOf q1 y).map fun b => a ++ b := by
  rw [show d + 2 = (d + 1) + 1 from rfl]
  unfold Program.keyLits
  rw [hu]
  simp only [c, List.length_cons, List.length_nil, Nat.zero_add, Nat.reduceAdd, true_and]
  rw [if_pos (by simp [n0, n1])]
  simp only [List.mapM_cons, List.mapM_nil, o0, o1, c0, c1, List.drop_zero, List.drop_succ_cons, List.take_succ_cons, List.take_zero, keyLits_one u0, keyLits_one u1]
  cases litOf q0 x <;> cases litOf q1 y <;> simp
theorem key2_form {k : TypeId} {f0 f1 : Field} {q0 q1 : IntKind} (hu : P.underlying k = some (.struct #[f0, f1])) (n0 : (f0.name != "_") = true) (n1 : (f1.name != "_") = true) (o0 : f0.offset = 0) (o1 : f1.offset = 1)
    (c : P.cellsOf k = 2) (c0 : P.cellsOf f0.type = 1) (c1 : P.cellsOf f1.type = 1) (u0 : P.underlying f0.type = some (.int q0)) (u1 : P.underlying f1.type = some (.int q1)) (hs : 1 ≤ P.types.size) (v : Value) (l : Lit) (h : keyOf P k v = some l) :
    ∃ a b, v = .agg #[.int q0 a, .int q1 b] ∧ (Lit.int q0 a).wf = true ∧ (Lit.int q1 b).wf = true := by
  obtain ⟨xs, L, rfl, hL, _⟩ := keyOf_top (by rw [hu]) h
  have hlen : xs.toList.length = 2 := by
    have h' := hL
    unfold Program.keyLits at h'
    rw [hu] at h'
    simp only [c] at h'
    split at h'
    · rename_i hc; exact hc.1
    · cases h'
  obtain ⟨d, hd⟩ : ∃ d, P.types.size = d + 1 := ⟨P.types.size - 1, by omega⟩
  rw [hd] at hL
  obtain ⟨l⟩ := xs
  match l, hlen with
  | [x, y], _ =>
    have h2 : P.keyLits (d + 2) k [x, y] = some L := hL
    rw [keyLits_two hu n0 n1 o0 o1 c c0 c1 u0 u1] at h2
    cases h0 : litOf q0 x with
    | none => rw [h0] at h2; cases h2
    | some A =>
      rw [h0] at h2
      cases h1 : litOf q1 y with
      | none => rw [h1] at h2; cases h2
      | some B =>
        obtain ⟨a, rfl, ha⟩ := litOf_some h0
        obtain ⟨b, rfl, hb⟩ := litOf_some h1
        exact ⟨a, b, rfl, ha, hb⟩
theorem key2_ok {k : TypeId} {f0 f1 : Field} {q0 q1 : IntKind} (hu : P.underlying k = some (.struct #[f0, f1])) (n0 : (f0.name != "_") = true) (n1 : (f1.name != "_") = true) (o0 : f0.offset = 0) (o1 : f1.offset = 1)
    (c : P.cellsOf k = 2) (c0 : P.cellsOf f0.type = 1) (c1 : P.cellsOf f1.type = 1) (u0 : P.underlying f0.type = some (.int q0)) (u1 : P.underlying f1.type = some (.int q1)) (hs : 1 ≤ P.types.size) (hk : P.keyType k = true) {a b : Int} (ha : (Lit.int q0 a).wf = true) (hb : (Lit.int q1 b).wf = true) :
    ∃ l, keyOf P k (.agg #[.int q0 a, .int q1 b]) = some l := by
  obtain ⟨d, hd⟩ : ∃ d, P.types.size = d + 1 := ⟨P.types.size - 1, by omega⟩
  have h2 := keyLits_two (d := d) hu n0 n1 o0 o1 c c0 c1 u0 u1 (.int q0 a) (.int q1 b)
  have hf : (Value.agg #[.int q0 a, .int q1 b]).formed P k = true := by simp [Value.formed, hu, c]
  have hl : (Value.agg #[.int q0 a, .int q1 b]).cells.toList = [.int q0 a, .int q1 b] := by simp [Value.cells]
  unfold keyOf
  rw [hu]
  simp only [hk, hf, hl, hd, Bool.and_self, if_true]
  rw [show d + 1 + 1 = d + 2 from rfl, h2]
  simp [litOf, ha, hb]
end
end Go.Proofs.Ytblahapjdgncfaa
