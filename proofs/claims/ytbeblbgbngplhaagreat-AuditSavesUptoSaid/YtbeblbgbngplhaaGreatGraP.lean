/- Baselines and graphs, plainly: what may be inserted, what that makes. No program in sight. -/
import Derived.Test.YtbeblbgbngplhaaGreatComP
import Derived.Test.YtbeblbgbngplhaaGreatMeanT
namespace Go.Proofs.YtbeblbgbngplhaaGreat
open Go.RowKit
set_option linter.unusedVariables false
set_option linter.unusedSimpArgs false

/-- a baseline -/
structure Bs where
  num : Int
  f : List Dt
  tips : List Dt
  t : Int
  tr : List Nd
structure BaseP (b : Bs) : Prop where
  canon : canonV b.f = b.f
  few : b.tips.length ≤ 64
  rise : b.tips.Pairwise ltD
  within : ∀ d ∈ b.tips, hasV b.f d = true
  time : b.t ≤ 1099511627776
  some1 : b.f ≠ [] ↔ 0 < b.t
  some2 : b.f ≠ [] ↔ b.tips ≠ []
  tree : MayT 3 b.tr
theorem BaseP.empty : BaseP ⟨0, [], [], 0, []⟩ :=
  ⟨rfl, by decide, List.Pairwise.nil, fun d h => (by cases h), by decide, by simp, by simp, MayT.nil 3⟩

/-- the commit of a dot -/
abbrev Fd := Dt → Option Cm
def findC (L : List Cm) : Fd := fun d => L.find? fun c => decide (c.d = d)
theorem findC_none {L : List Cm} {d : Dt} : findC L d = none ↔ ∀ c ∈ L, c.d ≠ d := by simp [findC, List.find?_eq_none]
theorem findC_mem {L : List Cm} (hn : (L.map (·.d)).Nodup) {c : Cm} (h : c ∈ L) : findC L c.d = some c := by
  induction L with
  | nil => cases h
  | cons a L ih =>
    rw [List.map_cons, List.nodup_cons] at hn
    unfold findC
    rw [List.find?_cons]
    by_cases e : a.d = c.d
    · rw [decide_eq_true e]
      rcases List.mem_cons.1 h with rfl | h
      · rfl
      · exact absurd (List.mem_map.2 ⟨c, h, e.symm⟩) hn.1
    · rw [decide_eq_false e]
      rcases List.mem_cons.1 h with rfl | h
      · exact absurd rfl e
      · exact ih hn.2 h
def vvOf (o : Option Cm) : List Dt := match o with | some c => c.vv | none => []
/-- is a dot there -/
def hasG (F : List Dt) (fd : Fd) (d : Dt) : Bool := (fd d).isSome || hasV F d
/-- what a commit must know, by actors -/
def knN (F : List Dt) (fd : Fd) (c : Cm) (ps : List Dt) : Ac → Int := fun x =>
  ps.foldl (fun n p => max n (getN (vvOf (fd p)) x)) (max (min (getN c.vv x) (getN F x)) (getN (c.d :: c.ps) x))
theorem knN_snoc (F : List Dt) (fd : Fd) (c : Cm) (ps : List Dt) (p : Dt) (x : Ac) : knN F fd c (ps ++ [p]) x = max (knN F fd c ps x) (getN (vvOf (fd p)) x) := by
  simp [knN, List.foldl_append]
/-- a commit's dot ahead -/
def aheadD (d : Dt) : Dt := (d.1, d.2 - 1)
structure FollowsP (F : List Dt) (fd : Fd) (c : Cm) : Prop where
  known : c.d.2 = 1 ∨ hasV F (aheadD c.d) = true ∨ ∃ p ∈ c.ps, ∃ x, fd p = some x ∧ hasV x.vv (aheadD c.d) = true
  each : ∀ p ∈ c.ps, ∀ x, fd p = some x → (∀ q ∈ c.ps, q ≠ p → hasV x.vv q = false) ∧ x.t < c.t
structure GapP (F : List Dt) (fd : Fd) (c : Cm) : Prop where
  ps : ∀ p ∈ c.ps, hasG F fd p = true
  own : 1 < c.d.2 → hasG F fd (aheadD c.d) = true
  knows : ∀ x, getN c.vv x ≤ knN F fd c c.ps x
open Classical in
/-- what an insertion tells -/
noncomputable def insE (F : List Dt) (fd : Fd) (n : Nat) (c : Cm) : Int :=
  if ¬ CmP c then 4 else if hasG F fd c.d = true then 8 else if ¬ GapP F fd c then 9
  else if ¬ ((∀ x, knN F fd c c.ps x ≤ getN c.vv x) ∧ FollowsP F fd c) then 4 else if 200 ≤ n then 10 else 0
theorem insE_may {F : List Dt} {fd : Fd} {n : Nat} {c : Cm} (h : ¬ CmP c) : insE F fd n c = 4 := by unfold insE; rw [if_pos h]
theorem insE_twice {F : List Dt} {fd : Fd} {n : Nat} {c : Cm} (h : CmP c) (h1 : hasG F fd c.d = true) : insE F fd n c = 8 := by unfold insE; rw [if_neg (fun k => k h), if_pos h1]
theorem insE_gap {F : List Dt} {fd : Fd} {n : Nat} {c : Cm} (h : CmP c) (h1 : hasG F fd c.d = false) (h2 : ¬ GapP F fd c) : insE F fd n c = 9 := by
  unfold insE; rw [if_neg (fun k => k h), if_neg (by rw [h1]; simp), if_pos h2]
theorem insE_form {F : List Dt} {fd : Fd} {n : Nat} {c : Cm} (h : CmP c) (h1 : hasG F fd c.d = false) (h2 : GapP F fd c) (h3 : ¬ ((∀ x, knN F fd c c.ps x ≤ getN c.vv x) ∧ FollowsP F fd c)) : insE F fd n c = 4 := by
  unfold insE; rw [if_neg (fun k => k h), if_neg (by rw [h1]; simp), if_neg (fun k => k h2), if_pos h3]
theorem insE_full {F : List Dt} {fd : Fd} {n : Nat} {c : Cm} (h : CmP c) (h1 : hasG F fd c.d = false) (h2 : GapP F fd c) (h3 : (∀ x, knN F fd c c.ps x ≤ getN c.vv x) ∧ FollowsP F fd c) (h4 : 200 ≤ n) : insE F fd n c = 10 := by
  unfold insE; rw [if_neg (fun k => k h), if_neg (by rw [h1]; simp), if_neg (fun k => k h2), if_neg (fun k => k h3), if_pos h4]
theorem insE_ok {F : List Dt} {fd : Fd} {n : Nat} {c : Cm} (h : CmP c) (h1 : hasG F fd c.d = false) (h2 : GapP F fd c) (h3 : (∀ x, knN F fd c c.ps x ≤ getN c.vv x) ∧ FollowsP F fd c) (h4 : n < 200) : insE F fd n c = 0 := by
  unfold insE; rw [if_neg (fun k => k h), if_neg (by rw [h1]; simp), if_neg (fun k => k h2), if_neg (fun k => k h3), if_neg (by omega)]
end Go.Proofs.YtbeblbgbngplhaaGreat
