/- op.IsName, op.MayPath, exact. | op.MayPath, exact. -/
import Derived.Test.YtbeblbgbngplhaaGreatEvA
import Derived.Test.YtbeblbgbngplhaaGreatShelfS
/- MayC -/
namespace Go.Proofs.YtbeblbgbngplhaaGreat
open Go.RowKit Go.Shelf
set_option linter.unusedVariables false
set_option linter.unusedSimpArgs false

/-- no letter and no digit -/
def otherN (r : Nat) : Bool := !(decide (97 ≤ r ∧ r ≤ 122) || decide (65 ≤ r ∧ r ≤ 90) || decide (48 ≤ r ∧ r ≤ 57))
theorem otherN_iff (r : Nat) : otherN r = false ↔ alN r := by
  unfold otherN alN
  simp
  omega
theorem decode_low (s : ByteArray) (i : Nat) (h : (s.get! i).toNat < 128) : Utf8.decode s i = ((s.get! i).toNat, 1) := by
  unfold Utf8.decode
  simp only [Nat.add_zero]
  rw [if_pos h]
theorem decode_high (s : ByteArray) (i : Nat) (h : ¬ (s.get! i).toNat < 128) : 128 ≤ (Utf8.decode s i).1 := by
  unfold Utf8.decode
  simp only [Nat.add_zero]
  rw [if_neg h]
  repeat' split
  all_goals first
    | (show 128 ≤ Utf8.runeError; decide)
    | (dsimp only; omega)
    | (rename_i hc; simp at hc; dsimp only; omega)
theorem get_at (s : ByteArray) (i : Nat) (h : i < s.size) : s.get! i = s[i] := by
  unfold ByteArray.get!
  exact (getElem!_pos s.data i h)
theorem idx_from (s : ByteArray) : ∀ (f pos : Nat), s.size ≤ pos + f → (Lib.idxFuncFrom otherN true s f pos < 0 ↔ ∀ (j : Nat) (h : j < s.size), pos ≤ j → alN (s[j].toNat))
  | 0, pos, hf => by
    simp only [Lib.idxFuncFrom]
    exact ⟨fun _ j hj hp => by omega, fun _ => by omega⟩
  | f + 1, pos, hf => by
    simp only [Lib.idxFuncFrom]
    by_cases hp : pos < s.size
    · rw [if_pos hp]
      have hg := get_at s pos hp
      by_cases hal : alN (s[pos].toNat)
      · have hlow : (s.get! pos).toNat < 128 := by rw [hg]; unfold alN at hal; omega
        rw [decode_low s pos hlow, hg, if_neg (by rw [(otherN_iff _).2 hal]; simp), idx_from s f (pos + 1) (by omega)]
        constructor
        · intro h j hj hpj
          by_cases e : j = pos
          · subst e; exact hal
          · exact h j hj (by omega)
        · intro h j hj hpj
          exact h j hj (by omega)
      · have ho : otherN (Utf8.decode s pos).1 = true := by
          cases ho : otherN (Utf8.decode s pos).1 with
          | true => rfl
          | false =>
            exfalso
            have h1 := (otherN_iff _).1 ho
            by_cases hl : (s.get! pos).toNat < 128
            · rw [decode_low s pos hl, hg] at h1
              exact hal h1
            · have := decode_high s pos hl
              unfold alN at h1
              omega
        rw [if_pos ho]
        exact ⟨fun h => by omega, fun h => absurd (h pos hp (Nat.le_refl _)) hal⟩
    · rw [if_neg hp]
      exact ⟨fun _ j hj hpj => by omega, fun _ => by omega⟩
theorem idx_all (s : ByteArray) : (decide (0 ≤ Lib.idxFunc otherN true s) = false) ↔ ∀ (j : Nat) (h : j < s.size), alN (s[j].toNat) := by
  have := idx_from s s.size 0 (by omega)
  unfold Lib.idxFunc
  rw [decide_eq_false_iff_not, Int.not_le, this]
  exact ⟨fun h j hj => h j hj (Nat.zero_le _), fun h j hj _ => h j hj⟩
set_option maxHeartbeats 2000000 in
theorem other_pays (w : World) : PredAt Tryz.prog 241 #[] encR otherN w := fun W r _ => by
  unfold FnGives encR
  cases ho : otherN r with
  | true =>
    have ha : ¬ alN r := fun h => by rw [(otherN_iff r).2 h] at ho; cases ho
    unfold alN at ha
    clear ho
    go_enter Tryz.func241, Tryz.ntmps241
    go_wp2_with fail
    all_goals first
      | (exfalso; omega)
      | (go_ret; exact ⟨rfl, 0, rfl⟩)
      | (go_ret; refine ⟨?_, 0, rfl⟩; simp; omega)
  | false =>
    have ha : alN r := (otherN_iff r).1 ho
    unfold alN at ha
    clear ho
    go_enter Tryz.func241, Tryz.ntmps241
    go_wp2_with fail
    all_goals first
      | (exfalso; omega)
      | (go_ret; exact ⟨rfl, 0, rfl⟩)
      | (go_ret; refine ⟨?_, 0, rfl⟩; simp; omega)
set_option maxHeartbeats 2000000 in
theorem isNameG_any (s : ByteArray) (w : World) : Calls Tryz.prog 226 #[.string s] w (IsTo w (NameP s)) := by
  go_enter Tryz.func226, Tryz.ntmps226
  by_cases h1 : 1 ≤ s.size
  · by_cases h2 : s.size ≤ 12
    · go_wp2_with fail
      refine (Any.strings_ContainsFunc Tryz.contF 241 #[] (enters_of Tryz.func241 (by kernel_rfl) rfl) otherN s w (other_pays w)).mono ?_
      rintro e w1 ⟨rfl, hb⟩
      have HB := Lib.hid hb
      clear hb
      have hi := idx_all s
      cases hd : decide (0 ≤ Lib.idxFunc otherN true s) with
      | false =>
        have Hy := Lib.hid (show NameP s from ⟨h1, h2, hi.1 hd⟩)
        clear hi hd
        go_wp2_with fail
        go_ret
        exact yes_name Hy.out HB.out
      | true =>
        have Hn := Lib.hid (show ¬ NameP s from fun h => by rw [hi.2 h.2.2] at hd; cases hd)
        clear hi hd
        go_wp2_with fail
        go_ret
        exact no_name Hn.out HB.out
    · have Hn := Lib.hid (show ¬ NameP s from fun h => h2 h.2.1)
      have e2 : decide ((s.size : Int) ≤ 12) = false := by simp; omega
      go_wp2_with fail
      all_goals (go_ret; exact no_name Hn.out (Below.refl _ _))
  · have Hn := Lib.hid (show ¬ NameP s from fun h => h1 h.1)
    have e1 : decide (1 ≤ (s.size : Int)) = false := by simp; omega
    go_wp2_with fail
    all_goals (go_ret; exact no_name Hn.out (Below.refl _ _))
end Go.Proofs.YtbeblbgbngplhaaGreat

/- MayD -/
namespace Go.Proofs.YtbeblbgbngplhaaGreat
open Go.RowKit
set_option linter.unusedVariables false
set_option linter.unusedSimpArgs false

theorem notName_any (s : ByteArray) (w : World) : Calls Tryz.prog 235 #[.string s] w (IsTo w (¬ NameP s)) := by
  go_enter Tryz.func235, Tryz.ntmps235
  go_wp2_with fail
  refine (isNameG_any s w).mono ?_
  intro e w1 hto
  obtain ⟨z, rfl, hz, hb⟩ := hto
  have HB := Lib.hid hb
  have Hz := Lib.hid hz
  clear hb hz
  cases z with
  | true =>
    go_wp2_with fail
    go_ret
    exact no_name (fun h => h (Hz.out.1 (by simp))) HB.out
  | false =>
    go_wp2_with fail
    go_ret
    exact yes_name (fun h => by have := Hz.out.2 h; cases this) HB.out
def JNo (l : List ByteArray) (w : World) (j : Value) (wr : World) : Prop := ∃ q : Nat, q ≤ l.length ∧ j = .int .i64 q ∧ Below w.heap.size w wr ∧ ∀ s ∈ l.take q, NameP s
def AtTo (w : World) (P : Prop) (e : Ending) (w' : World) : Prop := ∃ k : Int, e = .returned (.int .i64 k) ∧ (0 ≤ k ↔ P) ∧ Below w.heap.size w w'
set_option maxHeartbeats 2000000 in
theorem badName_at (a : Option Addr) (c : Nat) (l : List ByteArray) (w : World) (h : Strs w a c l) (hn : l.length ≤ 1100000) :
    Calls Tryz.prog 248 #[.slice a l.length c, .func (.func 235) #[] #[]] w (AtTo w (¬ ∀ s ∈ l, NameP s)) := by
  have H := Lib.hid h
  clear h
  have he := enters_of Tryz.func235 (by kernel_rfl) rfl
  go_enter Tryz.func248, Tryz.ntmps248
  go_wp2_with fail
  go_loopw [8] (fun j wr => JNo l w j wr) (fun j _ => l.length - (intOf j).toNat)
  case atStart => exact ⟨0, Nat.zero_le _, rfl, Below.refl _ _, fun s hs => by simp at hs⟩
  case round =>
    obtain ⟨q, hq, rfl, hB, hall⟩ := hrel
    have HB := Lib.hid hB
    have Hall := Lib.hid hall
    clear hB hall
    by_cases hlt : q < l.length
    · obtain ⟨x, hx⟩ : ∃ x, l[q]? = some x := ⟨l[q], by simp [hlt]⟩
      obtain ⟨ad, had, c0, hl0⟩ := (H.out.below HB.out).at hx
      subst had
      have Hx := Lib.hid hx
      clear hx
      go_wp2_with fail
      refine (notName_any x _).mono ?_
      intro e w1 hto
      obtain ⟨z, rfl, hz, hb⟩ := hto
      have HB1 := Lib.hid (below2 HB.out hb HB.out.size)
      have Hz := Lib.hid hz
      clear hb hz
      cases z with
      | true =>
        have Hy := Lib.hid (show ¬ ∀ s ∈ l, NameP s from fun h => (Hz.out.1 (by simp)) (h x (List.mem_of_getElem? Hx.out)))
        go_wp2_with fail
        go_ret
        exact ⟨q, rfl, ⟨fun _ => Hy.out, fun _ => by omega⟩, HB1.out⟩
      | false =>
        have Hnx := Lib.hid (show NameP x from Classical.byContradiction fun h => by have := Hz.out.2 h; cases this)
        go_wp2_with fail
        go_roundw
        case rel => exact ⟨q + 1, by omega, by go_num, HB1.out, all_snoc Hx.out Hall.out Hnx.out⟩
        case measure => simp [intOf]; omega
    · have ha := Hall.out
      rw [List.take_of_length_le (by omega)] at ha
      have Ha := Lib.hid ha
      clear ha
      go_wp2_with fail
      go_ret
      exact ⟨-1, rfl, ⟨fun h => by omega, fun h => absurd Ha.out h⟩, HB.out⟩
theorem badName_any (a : Option Addr) (c : Nat) (l : List ByteArray) (w : World) (h : Strs w a c l) (hn : l.length ≤ 1100000) :
    Calls Tryz.prog 234 #[.slice a l.length c, .func (.func 235) #[] #[]] w (IsTo w (¬ ∀ s ∈ l, NameP s)) := by
  go_enter Tryz.func234, Tryz.ntmps234
  go_wp2_with fail
  refine (badName_at a c l _ h hn).mono ?_
  intro e w1 hto
  obtain ⟨k, rfl, hk, hb⟩ := hto
  have Hb := Lib.hid hb
  have Hk := Lib.hid hk
  clear hb hk
  go_wp2_with fail
  go_ret
  exact ⟨_, rfl, by rw [decide_eq_true_iff]; exact Hk.out, Hb.out⟩
set_option maxHeartbeats 2000000 in
theorem mayPathG_any (a : Option Addr) (c : Nat) (l : List ByteArray) (w : World) (h : Strs w a c l) : Calls Tryz.prog 205 #[.slice a l.length c] w (IsTo w (PathP l)) := by
  have H := Lib.hid h
  clear h
  go_enter Tryz.func205, Tryz.ntmps205
  by_cases h1 : 1 ≤ l.length
  · by_cases h3 : l.length ≤ 3
    · go_wp2_with fail
      refine (badName_any a c l w H.out (by omega)).mono ?_
      intro e w1 hto
      obtain ⟨z, rfl, hz, hb⟩ := hto
      have HB := Lib.hid hb
      have Hz := Lib.hid hz
      clear hb hz
      cases z with
      | true =>
        have Hn := Lib.hid (show ¬ PathP l from fun h => (Hz.out.1 (by simp)) h.2.2)
        go_wp2_with fail
        go_ret
        exact no_name Hn.out HB.out
      | false =>
        have Hy := Lib.hid (show PathP l from ⟨h1, h3, Classical.byContradiction fun h => by have := Hz.out.2 h; cases this⟩)
        go_wp2_with fail
        go_ret
        exact yes_name Hy.out HB.out
    · have Hn := Lib.hid (show ¬ PathP l from fun h => h3 h.2.1)
      have e2 : decide ((l.length : Int) ≤ 3) = false := by simp; omega
      go_wp2_with fail
      all_goals (go_ret; exact no_name Hn.out (Below.refl _ _))
  · have Hn := Lib.hid (show ¬ PathP l from fun h => h1 h.1)
    have e1 : decide (1 ≤ (l.length : Int)) = false := by rw [decide_eq_false_iff_not]; omega
    go_wp2_with fail
    all_goals (go_ret; exact no_name Hn.out (Below.refl _ _))
end Go.Proofs.YtbeblbgbngplhaaGreat
