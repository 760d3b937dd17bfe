/- varveref04: IsName, MayPath, exact. -/
import Derived.Test.YtmabjghjkgicgaaGreatEvA
namespace Go.Proofs.YtmabjghjkgicgaaGreat
open Go.RowKit
set_option linter.unusedVariables false
set_option linter.unusedSimpArgs false

/-- a letter or a digit -/
def alN (c : Nat) : Prop := (97 ≤ c ∧ c ≤ 122) ∨ (65 ≤ c ∧ c ≤ 90) ∨ (48 ≤ c ∧ c ≤ 57)
def NameP (s : ByteArray) : Prop := 1 ≤ s.size ∧ s.size ≤ 12 ∧ ∀ (j : Nat) (h : j < s.size), alN (s[j].toNat)
def IsTo (w : World) (P : Prop) (e : Ending) (w' : World) : Prop := ∃ q : Bool, e = .returned (.bool q) ∧ (q = true ↔ P) ∧ Below w.heap.size w w'
def JNm (s : ByteArray) (w : World) (j : Value) (wr : World) : Prop := ∃ q : Nat, q ≤ s.size ∧ j = .int .i64 q ∧ wr = w ∧ ∀ (j : Nat) (h : j < s.size), j < q → alN (s[j].toNat)
theorem no_name {w w' : World} {P : Prop} (h : ¬ P) (hb : Below w.heap.size w w') : IsTo w P (.returned (.bool false)) w' := ⟨false, rfl, ⟨fun e => (by cases e), fun e => absurd e h⟩, hb⟩
theorem yes_name {w w' : World} {P : Prop} (h : P) (hb : Below w.heap.size w w') : IsTo w P (.returned (.bool true)) w' := ⟨true, rfl, ⟨fun _ => h, fun _ => rfl⟩, hb⟩
theorem JNm.next {s : ByteArray} {w : World} {q : Nat} (hlt : q < s.size) (h : ∀ (j : Nat) (h : j < s.size), j < q → alN (s[j].toNat)) (hq : alN (s[q].toNat)) : JNm s w (.int .i64 ((q : Int) + 1)) w :=
  ⟨q + 1, hlt, by simp, rfl, fun j hj hj2 => by
    by_cases e : j = q
    · subst e; exact hq
    · exact h j hj (by omega)⟩
set_option maxHeartbeats 4000000 in
theorem isNameX_any (s : ByteArray) (w : World) : Calls Tryz.prog 32 #[.string s] w (IsTo w (NameP s)) := by
  go_enter Tryz.func32, Tryz.ntmps32
  by_cases h1 : s.size < 1
  · go_wp2_with fail
    all_goals (go_ret; exact no_name (fun h => by have := h.1; omega) (Below.refl _ _))
  · by_cases h2 : 12 < s.size
    · go_wp2_with fail
      all_goals (go_ret; exact no_name (fun h => by have := h.2.1; omega) (Below.refl _ _))
    · go_wp2_with fail
      go_loopw [3] (fun j wr => JNm s w j wr) (fun j _ => s.size - (intOf j).toNat)
      case atStart => exact ⟨0, Nat.zero_le _, rfl, rfl, fun j hj h => by omega⟩
      case round =>
        obtain ⟨q, hq, rfl, rfl, hall⟩ := hrel
        have Hall := Lib.hid hall
        clear hall
        by_cases hlt : q < s.size
        · by_cases hal : alN (s[q].toNat)
          · have Hal := Lib.hid hal
            have hc : (97 ≤ s[q].toNat ∧ s[q].toNat ≤ 122) ∨ (65 ≤ s[q].toNat ∧ s[q].toNat ≤ 90) ∨ (48 ≤ s[q].toNat ∧ s[q].toNat ≤ 57) := hal
            clear hal
            go_wp2_with fail
            all_goals first
              | exact ⟨JNm.next hlt Hall.out Hal.out, by simp [intOf]; omega⟩
              | (exfalso; simp only [Bool.not_eq_eq_eq_not, Bool.not_true, Bool.not_false, decide_eq_true_eq, decide_eq_false_iff_not] at *; omega)
          · have Hal := Lib.hid hal
            have hc : ¬ ((97 ≤ s[q].toNat ∧ s[q].toNat ≤ 122) ∨ (65 ≤ s[q].toNat ∧ s[q].toNat ≤ 90) ∨ (48 ≤ s[q].toNat ∧ s[q].toNat ≤ 57)) := hal
            clear hal
            go_wp2_with fail
            all_goals first
              | (go_ret; exact no_name (fun h => Hal.out (h.2.2 q hlt)) (Below.refl _ _))
              | (exfalso; simp only [Bool.not_eq_eq_eq_not, Bool.not_true, Bool.not_false, decide_eq_true_eq, decide_eq_false_iff_not] at *; omega)
        · go_wp2_with fail
          all_goals (go_ret; exact yes_name ⟨by omega, by omega, fun j hj => Hall.out j hj (by omega)⟩ (Below.refl _ _))
def PathP (l : List ByteArray) : Prop := 1 ≤ l.length ∧ l.length ≤ 3 ∧ ∀ s ∈ l, NameP s
def JPt (l : List ByteArray) (w : World) (j : Value) (wr : World) : Prop := ∃ q : Nat, q ≤ l.length ∧ j = .int .i64 q ∧ Below w.heap.size w wr ∧ ∀ s ∈ l.take q, NameP s
set_option maxHeartbeats 2000000 in
theorem mayPathX_any (a : Option Addr) (c : Nat) (l : List ByteArray) (w : World) (h : Strs w a c l) : Calls Tryz.prog 50 #[.slice a l.length c] w (IsTo w (PathP l)) := by
  have H := Lib.hid h
  have hcap : l.length ≤ c := h.2.1
  have hcm : c ≤ maxLen := h.2.2.1
  unfold maxLen at hcm
  clear h
  go_enter Tryz.func50, Tryz.ntmps50
  go_wp2_with fail
  go_loopw [3] (fun j wr => JPt l w j wr) (fun j _ => l.length - (intOf j).toNat)
  case atStart => exact ⟨0, Nat.zero_le _, rfl, Below.refl _ _, fun s hs => by simp at hs⟩
  case round =>
    obtain ⟨q, hq, rfl, hB, hall⟩ := hrel
    have HB := Lib.hid hB
    have Hall := Lib.hid hall
    clear hB hall
    by_cases hlt : q < l.length
    · obtain ⟨x, hx⟩ : ∃ x, l[q]? = some x := ⟨l[q], by simp [hlt]⟩
      obtain ⟨ad, had, c0, hl0⟩ := (H.out.below HB.out).at hx
      subst had
      have Hx := Lib.hid hx
      clear hx
      go_wp2_with fail
      refine (isNameX_any x _).mono ?_
      intro e w1 hto
      obtain ⟨z, rfl, hz, hb⟩ := hto
      have HB1 := Lib.hid (below2 HB.out hb HB.out.size)
      have Hz := Lib.hid hz
      clear hb hz
      cases z with
      | true =>
        go_wp2_with fail
        go_roundw
        case rel => exact ⟨q + 1, by omega, by go_num, HB1.out, all_snoc Hx.out Hall.out (Hz.out.1 (by simp))⟩
        case measure => simp [intOf]; omega
      | false =>
        go_wp2_with fail
        go_ret
        exact no_name (fun h => by have := Hz.out.2 (h.2.2 x (List.mem_of_getElem? Hx.out)); cases this) HB1.out
    · have ha := Hall.out
      rw [List.take_of_length_le (by omega)] at ha
      have Ha := Lib.hid ha
      clear ha
      by_cases h1 : 1 ≤ l.length
      · by_cases h3 : l.length ≤ 3
        · go_wp2_with fail
          all_goals (go_ret; exact ⟨_, rfl, ⟨fun _ => ⟨h1, h3, Ha.out⟩, fun _ => by first | (simp; done) | (simp; omega)⟩, HB.out⟩)
        · go_wp2_with fail
          all_goals (go_ret; exact ⟨_, rfl, ⟨fun h => by first | (cases h; done) | (simp at h; done) | (simp at h; omega), fun h => absurd h.2.1 h3⟩, HB.out⟩)
      · go_wp2_with fail
        all_goals (go_ret; exact ⟨_, rfl, ⟨fun h => by first | (cases h; done) | (simp at h; done) | (simp at h; omega), fun h => absurd h.1 h1⟩, HB.out⟩)
end Go.Proofs.YtmabjghjkgicgaaGreat
