/- Plain words on acknowledgements and matrices: no program in sight. -/
import Derived.Test.YtblahapjdgncfaaDotP
namespace Go.Proofs.Ytblahapjdgncfaa
set_option linter.unusedVariables false
set_option linter.unusedSimpArgs false

/-- an acknowledgement -/
structure Ak where
  r : Int
  i : Int
  incs : List Int
  vv : List Dt
def okI (l : List Int) : Prop := ∀ x ∈ l, 0 ≤ x ∧ x ≤ 4294967295
def okAk (a : Ak) : Prop := okA (a.r, a.i) ∧ okI a.incs ∧ okV a.vv
def incOk (x : Int) : Bool := decide (1 ≤ x) && decide (x ≤ 4)
theorem incOk_iff (x : Int) : incOk x = true ↔ 1 ≤ x ∧ x ≤ 4 := by simp [incOk]
def mayIncs (l : List Int) (n : Int) : Bool := decide (1 ≤ n) && decide (n ≤ 16) && decide ((l.length : Int) = n) && l.all incOk
theorem mayIncs_iff (l : List Int) (n : Int) : mayIncs l n = true ↔ 1 ≤ n ∧ n ≤ 16 ∧ (l.length : Int) = n ∧ ∀ x ∈ l, incOk x = true := by simp [mayIncs, and_assoc]
/-- within, place by place, and as many -/
def withinI (a b : List Int) : Bool := decide (a.length = b.length) && (a.zip b).all fun x => decide (x.1 ≤ x.2)
theorem zip_at {a b : List Int} {k : Nat} {x y : Int} (hx : a[k]? = some x) (hy : b[k]? = some y) : (x, y) ∈ a.zip b := by
  refine List.mem_of_getElem? (i := k) ?_
  rw [List.getElem?_zip_eq_some]; exact ⟨hx, hy⟩
theorem withinI_iff (a b : List Int) : withinI a b = true ↔ a.length = b.length ∧ ∀ (k : Nat) (x y : Int), a[k]? = some x → b[k]? = some y → x ≤ y := by
  simp only [withinI, Bool.and_eq_true, decide_eq_true_eq, List.all_eq_true]
  refine and_congr_right fun hl => ⟨fun h k x y hx hy => h _ (zip_at hx hy), fun h p hp => ?_⟩
  obtain ⟨k, hk⟩ := List.mem_iff_getElem?.1 hp
  obtain ⟨h1, h2⟩ := List.getElem?_zip_eq_some.1 hk
  exact h k _ _ h1 h2
theorem withinI_refl (a : List Int) : withinI a a = true := (withinI_iff a a).2 ⟨rfl, fun k x y h1 h2 => by rw [h1] at h2; cases h2; exact Int.le_refl _⟩
theorem withinI_trans {a b c : List Int} (h : withinI a b = true) (g : withinI b c = true) : withinI a c = true := by
  rw [withinI_iff] at *
  refine ⟨h.1.trans g.1, fun k x y hx hy => ?_⟩
  have hk : k < b.length := by have := (List.getElem?_eq_some_iff.1 hx).1; omega
  have hb : b[k]? = some b[k] := by simp [hk]
  exact Int.le_trans (h.2 k _ _ hx hb) (g.2 k _ _ hb hy)
theorem withinI_anti {a b : List Int} (h : withinI a b = true) (g : withinI b a = true) : a = b := by
  rw [withinI_iff] at *
  refine List.ext_getElem? fun k => ?_
  by_cases hk : k < a.length
  · have hkb : k < b.length := by omega
    have h1 : a[k]? = some a[k] := by simp [hk]
    have h2 : b[k]? = some b[k] := by simp [hkb]
    have := h.2 k _ _ h1 h2
    have := g.2 k _ _ h2 h1
    rw [h1, h2]; congr 1; omega
  · rw [List.getElem?_eq_none (by omega), List.getElem?_eq_none (by omega)]
/-- whether it may be among n -/
def mayK (a : Ak) (n : Int) : Bool := mayA (a.r, a.i) && decide (a.r < n) && mayIncs a.incs n && (a.incs.getD a.r.toNat 0 == a.i)
/-- whether the old one bars it -/
def bars (o a : Ak) : Bool := decide (a.i < o.i) || (decide (o.i = a.i) && !(withinI o.incs a.incs && withinV o.vv a.vv))
def barsO (o : Option Ak) (a : Ak) : Bool := match o with | none => false | some o => bars o a
abbrev Mx := Nat → Option Ak
def takesM (n : Int) (R : Mx) (a : Ak) : Bool := mayK a n && !barsO (R a.r.toNat) a
def ownK (a : Ak) : Ak := { a with vv := canonV a.vv }
def putM (R : Mx) (a : Ak) : Mx := fun k => if k = a.r.toNat then some (ownK a) else R k
def nextM (n : Int) (R : Mx) (a : Ak) : Mx := if takesM n R a = true then putM R a else R
def fitsM (R : Mx) (incs : List Int) (k : Nat) : Bool := match R k with | none => false | some a => a.i == incs.getD k 0 && decide (a.incs = incs)
def vvM (R : Mx) (k : Nat) : List Dt := match R k with | none => [] | some a => a.vv
/-- the meet of the first k rows -/
def frontM (R : Mx) : Nat → List Dt
  | 0 => []
  | 1 => canonV (vvM R 0)
  | k + 2 => meetV (frontM R (k + 1)) (vvM R (k + 1))
def stableM (n : Int) (R : Mx) (incs : List Int) : Option (List Dt) := if mayIncs incs n && (List.range n.toNat).all (fitsM R incs) then some (frontM R n.toNat) else none
theorem frontM_succ {R : Mx} {k : Nat} (h : 0 < k) : frontM R (k + 1) = meetV (frontM R k) (vvM R k) := by
  obtain ⟨j, rfl⟩ : ∃ j, k = j + 1 := ⟨k - 1, by omega⟩
  rfl
theorem frontM_one (R : Mx) : frontM R 1 = canonV (vvM R 0) := rfl
theorem frontM_length (R : Mx) (k : Nat) : (frontM R k).length ≤ 64 := by
  match k with
  | 0 => simp [frontM]
  | 1 => exact vecOf_length _
  | k + 2 => exact vecOf_length _
theorem frontM_ok {R : Mx} (hR : ∀ k a, R k = some a → okV a.vv) (k : Nat) : okV (frontM R k) := by
  have hv : ∀ k, okV (vvM R k) := fun k => by
    unfold vvM
    cases h : R k with
    | none => intro d hd; simp at hd
    | some a => exact hR k a h
  induction k with
  | zero => intro d hd; simp [frontM] at hd
  | succ k ih =>
    rcases Nat.eq_zero_or_pos k with rfl | h
    · exact okV_canonV (hv 0)
    · rw [frontM_succ h]; exact okV_meetV ih (hv k)
theorem stable_bar {n : Nat} {R : Mx} {incs : List Int} {k : Nat} (hk : k < n) (h : fitsM R incs k = false) : stableM n R incs = none := by
  unfold stableM
  rw [if_neg]
  intro hc
  rw [Bool.and_eq_true, List.all_eq_true] at hc
  have := hc.2 k (by simpa using hk)
  rw [h] at this; cases this
theorem stable_may {n : Nat} {R : Mx} {incs : List Int} (h : mayIncs incs n = false) : stableM n R incs = none := by simp [stableM, h]
theorem stable_all {n : Nat} {R : Mx} {incs : List Int} (hm : mayIncs incs n = true) (h : ∀ k, k < n → fitsM R incs k = true) : stableM n R incs = some (frontM R n) := by
  unfold stableM
  rw [if_pos]
  · simp
  · rw [Bool.and_eq_true, List.all_eq_true]
    exact ⟨hm, fun k hk => h k (by simpa using hk)⟩
end Go.Proofs.Ytblahapjdgncfaa
