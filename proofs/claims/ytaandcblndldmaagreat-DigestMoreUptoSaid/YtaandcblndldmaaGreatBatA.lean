/- op.IsName, op.MayPath, exact. | op.MayPath, exact. | op.adds, op.plain. | op.drops, exact. | op.of, op.May, exact. | op.May, exact. (printed by wip/tools/genmayop.py) | Operations in memory; what batch.Few asks first. | slices.IndexFunc, ContainsFunc of operations that may not be. -/
import Derived.Test.YtaandcblndldmaaGreatEvA
import Derived.Test.YtaandcblndldmaaGreatShelfS
import Derived.Test.YtaandcblndldmaaGreatMayB
import Derived.Laws.EntriesVeiled
/- MayC -/
/- MayC -/
namespace Go.Proofs.YtaandcblndldmaaGreat
open Go.RowKit Go.Shelf
set_option linter.unusedVariables false
set_option linter.unusedSimpArgs false

/-- no letter and no digit -/
def otherN (r : Nat) : Bool := !(decide (97 ≤ r ∧ r ≤ 122) || decide (65 ≤ r ∧ r ≤ 90) || decide (48 ≤ r ∧ r ≤ 57))
theorem otherN_iff (r : Nat) : otherN r = false ↔ alN r := by
  unfold otherN alN
  simp
  omega
theorem decode_low (s : ByteArray) (i : Nat) (h : (s.get! i).toNat < 128) : Utf8.decode s i = ((s.get! i).toNat, 1) := by
  unfold Utf8.decode
  simp only [Nat.add_zero]
  rw [if_pos h]
theorem decode_high (s : ByteArray) (i : Nat) (h : ¬ (s.get! i).toNat < 128) : 128 ≤ (Utf8.decode s i).1 := by
  unfold Utf8.decode
  simp only [Nat.add_zero]
  rw [if_neg h]
  repeat' split
  all_goals first
    | (show 128 ≤ Utf8.runeError; decide)
    | (dsimp only; omega)
    | (rename_i hc; simp at hc; dsimp only; omega)
theorem get_at (s : ByteArray) (i : Nat) (h : i < s.size) : s.get! i = s[i] := by
  unfold ByteArray.get!
  exact (getElem!_pos s.data i h)
theorem idx_from (s : ByteArray) : ∀ (f pos : Nat), s.size ≤ pos + f → (Lib.idxFuncFrom otherN true s f pos < 0 ↔ ∀ (j : Nat) (h : j < s.size), pos ≤ j → alN (s[j].toNat))
  | 0, pos, hf => by
    simp only [Lib.idxFuncFrom]
    exact ⟨fun _ j hj hp => by omega, fun _ => by omega⟩
  | f + 1, pos, hf => by
    simp only [Lib.idxFuncFrom]
    by_cases hp : pos < s.size
    · rw [if_pos hp]
      have hg := get_at s pos hp
      by_cases hal : alN (s[pos].toNat)
      · have hlow : (s.get! pos).toNat < 128 := by rw [hg]; unfold alN at hal; omega
        rw [decode_low s pos hlow, hg, if_neg (by rw [(otherN_iff _).2 hal]; simp), idx_from s f (pos + 1) (by omega)]
        constructor
        · intro h j hj hpj
          by_cases e : j = pos
          · subst e; exact hal
          · exact h j hj (by omega)
        · intro h j hj hpj
          exact h j hj (by omega)
      · have ho : otherN (Utf8.decode s pos).1 = true := by
          cases ho : otherN (Utf8.decode s pos).1 with
          | true => rfl
          | false =>
            exfalso
            have h1 := (otherN_iff _).1 ho
            by_cases hl : (s.get! pos).toNat < 128
            · rw [decode_low s pos hl, hg] at h1
              exact hal h1
            · have := decode_high s pos hl
              unfold alN at h1
              omega
        rw [if_pos ho]
        exact ⟨fun h => by omega, fun h => absurd (h pos hp (Nat.le_refl _)) hal⟩
    · rw [if_neg hp]
      exact ⟨fun _ j hj hpj => by omega, fun _ => by omega⟩
theorem idx_all (s : ByteArray) : (decide (0 ≤ Lib.idxFunc otherN true s) = false) ↔ ∀ (j : Nat) (h : j < s.size), alN (s[j].toNat) := by
  have := idx_from s s.size 0 (by omega)
  unfold Lib.idxFunc
  rw [decide_eq_false_iff_not, Int.not_le, this]
  exact ⟨fun h j hj => h j hj (Nat.zero_le _), fun h j hj _ => h j hj⟩
set_option maxHeartbeats 2000000 in
theorem other_pays (w : World) : PredAt Tryz.prog 233 #[] encR otherN w := fun W r _ => by
  unfold FnGives encR
  cases ho : otherN r with
  | true =>
    have ha : ¬ alN r := fun h => by rw [(otherN_iff r).2 h] at ho; cases ho
    unfold alN at ha
    clear ho
    go_enter Tryz.func233, Tryz.ntmps233
    go_wp2_with fail
    all_goals first
      | (exfalso; omega)
      | (go_ret; exact ⟨rfl, 0, rfl⟩)
      | (go_ret; refine ⟨?_, 0, rfl⟩; simp; omega)
  | false =>
    have ha : alN r := (otherN_iff r).1 ho
    unfold alN at ha
    clear ho
    go_enter Tryz.func233, Tryz.ntmps233
    go_wp2_with fail
    all_goals first
      | (exfalso; omega)
      | (go_ret; exact ⟨rfl, 0, rfl⟩)
      | (go_ret; refine ⟨?_, 0, rfl⟩; simp; omega)
set_option maxHeartbeats 2000000 in
theorem isNameG_any (s : ByteArray) (w : World) : Calls Tryz.prog 218 #[.string s] w (IsTo w (NameP s)) := by
  go_enter Tryz.func218, Tryz.ntmps218
  by_cases h1 : 1 ≤ s.size
  · by_cases h2 : s.size ≤ 12
    · go_wp2_with fail
      refine (Any.strings_ContainsFunc Tryz.contF 233 #[] (enters_of Tryz.func233 (by kernel_rfl) rfl) otherN s w (other_pays w)).mono ?_
      rintro e w1 ⟨rfl, hb⟩
      have HB := Lib.hid hb
      clear hb
      have hi := idx_all s
      cases hd : decide (0 ≤ Lib.idxFunc otherN true s) with
      | false =>
        have Hy := Lib.hid (show NameP s from ⟨h1, h2, hi.1 hd⟩)
        clear hi hd
        go_wp2_with fail
        go_ret
        exact yes_name Hy.out HB.out
      | true =>
        have Hn := Lib.hid (show ¬ NameP s from fun h => by rw [hi.2 h.2.2] at hd; cases hd)
        clear hi hd
        go_wp2_with fail
        go_ret
        exact no_name Hn.out HB.out
    · have Hn := Lib.hid (show ¬ NameP s from fun h => h2 h.2.1)
      have e2 : decide ((s.size : Int) ≤ 12) = false := by simp; omega
      go_wp2_with fail
      all_goals (go_ret; exact no_name Hn.out (Below.refl _ _))
  · have Hn := Lib.hid (show ¬ NameP s from fun h => h1 h.1)
    have e1 : decide (1 ≤ (s.size : Int)) = false := by simp; omega
    go_wp2_with fail
    all_goals (go_ret; exact no_name Hn.out (Below.refl _ _))
end Go.Proofs.YtaandcblndldmaaGreat

/- MayD -/
namespace Go.Proofs.YtaandcblndldmaaGreat
open Go.RowKit
set_option linter.unusedVariables false
set_option linter.unusedSimpArgs false

theorem notName_any (s : ByteArray) (w : World) : Calls Tryz.prog 227 #[.string s] w (IsTo w (¬ NameP s)) := by
  go_enter Tryz.func227, Tryz.ntmps227
  go_wp2_with fail
  refine (isNameG_any s w).mono ?_
  intro e w1 hto
  obtain ⟨z, rfl, hz, hb⟩ := hto
  have HB := Lib.hid hb
  have Hz := Lib.hid hz
  clear hb hz
  cases z with
  | true =>
    go_wp2_with fail
    go_ret
    exact no_name (fun h => h (Hz.out.1 (by simp))) HB.out
  | false =>
    go_wp2_with fail
    go_ret
    exact yes_name (fun h => by have := Hz.out.2 h; cases this) HB.out
def JNo (l : List ByteArray) (w : World) (j : Value) (wr : World) : Prop := ∃ q : Nat, q ≤ l.length ∧ j = .int .i64 q ∧ Below w.heap.size w wr ∧ ∀ s ∈ l.take q, NameP s
def AtTo (w : World) (P : Prop) (e : Ending) (w' : World) : Prop := ∃ k : Int, e = .returned (.int .i64 k) ∧ (0 ≤ k ↔ P) ∧ Below w.heap.size w w'
set_option maxHeartbeats 2000000 in
theorem badName_at (a : Option Addr) (c : Nat) (l : List ByteArray) (w : World) (h : Strs w a c l) (hn : l.length ≤ 1100000) :
    Calls Tryz.prog 240 #[.slice a l.length c, .func (.func 227) #[] #[]] w (AtTo w (¬ ∀ s ∈ l, NameP s)) := by
  have H := Lib.hid h
  clear h
  have he := enters_of Tryz.func227 (by kernel_rfl) rfl
  go_enter Tryz.func240, Tryz.ntmps240
  go_wp2_with fail
  go_loopw [8] (fun j wr => JNo l w j wr) (fun j _ => l.length - (intOf j).toNat)
  case atStart => exact ⟨0, Nat.zero_le _, rfl, Below.refl _ _, fun s hs => by simp at hs⟩
  case round =>
    obtain ⟨q, hq, rfl, hB, hall⟩ := hrel
    have HB := Lib.hid hB
    have Hall := Lib.hid hall
    clear hB hall
    by_cases hlt : q < l.length
    · obtain ⟨x, hx⟩ : ∃ x, l[q]? = some x := ⟨l[q], by simp [hlt]⟩
      obtain ⟨ad, had, c0, hl0⟩ := (H.out.below HB.out).at hx
      subst had
      have Hx := Lib.hid hx
      clear hx
      go_wp2_with fail
      refine (notName_any x _).mono ?_
      intro e w1 hto
      obtain ⟨z, rfl, hz, hb⟩ := hto
      have HB1 := Lib.hid (below2 HB.out hb HB.out.size)
      have Hz := Lib.hid hz
      clear hb hz
      cases z with
      | true =>
        have Hy := Lib.hid (show ¬ ∀ s ∈ l, NameP s from fun h => (Hz.out.1 (by simp)) (h x (List.mem_of_getElem? Hx.out)))
        go_wp2_with fail
        go_ret
        exact ⟨q, rfl, ⟨fun _ => Hy.out, fun _ => by omega⟩, HB1.out⟩
      | false =>
        have Hnx := Lib.hid (show NameP x from Classical.byContradiction fun h => by have := Hz.out.2 h; cases this)
        go_wp2_with fail
        go_roundw
        case rel => exact ⟨q + 1, by omega, by go_num, HB1.out, all_snoc Hx.out Hall.out Hnx.out⟩
        case measure => simp [intOf]; omega
    · have ha := Hall.out
      rw [List.take_of_length_le (by omega)] at ha
      have Ha := Lib.hid ha
      clear ha
      go_wp2_with fail
      go_ret
      exact ⟨-1, rfl, ⟨fun h => by omega, fun h => absurd Ha.out h⟩, HB.out⟩
theorem badName_any (a : Option Addr) (c : Nat) (l : List ByteArray) (w : World) (h : Strs w a c l) (hn : l.length ≤ 1100000) :
    Calls Tryz.prog 226 #[.slice a l.length c, .func (.func 227) #[] #[]] w (IsTo w (¬ ∀ s ∈ l, NameP s)) := by
  go_enter Tryz.func226, Tryz.ntmps226
  go_wp2_with fail
  refine (badName_at a c l _ h hn).mono ?_
  intro e w1 hto
  obtain ⟨k, rfl, hk, hb⟩ := hto
  have Hb := Lib.hid hb
  have Hk := Lib.hid hk
  clear hb hk
  go_wp2_with fail
  go_ret
  exact ⟨_, rfl, by rw [decide_eq_true_iff]; exact Hk.out, Hb.out⟩
set_option maxHeartbeats 2000000 in
theorem mayPathG_any (a : Option Addr) (c : Nat) (l : List ByteArray) (w : World) (h : Strs w a c l) : Calls Tryz.prog 197 #[.slice a l.length c] w (IsTo w (PathP l)) := by
  have H := Lib.hid h
  clear h
  go_enter Tryz.func197, Tryz.ntmps197
  by_cases h1 : 1 ≤ l.length
  · by_cases h3 : l.length ≤ 3
    · go_wp2_with fail
      refine (badName_any a c l w H.out (by omega)).mono ?_
      intro e w1 hto
      obtain ⟨z, rfl, hz, hb⟩ := hto
      have HB := Lib.hid hb
      have Hz := Lib.hid hz
      clear hb hz
      cases z with
      | true =>
        have Hn := Lib.hid (show ¬ PathP l from fun h => (Hz.out.1 (by simp)) h.2.2)
        go_wp2_with fail
        go_ret
        exact no_name Hn.out HB.out
      | false =>
        have Hy := Lib.hid (show PathP l from ⟨h1, h3, Classical.byContradiction fun h => by have := Hz.out.2 h; cases this⟩)
        go_wp2_with fail
        go_ret
        exact yes_name Hy.out HB.out
    · have Hn := Lib.hid (show ¬ PathP l from fun h => h3 h.2.1)
      have e2 : decide ((l.length : Int) ≤ 3) = false := by simp; omega
      go_wp2_with fail
      all_goals (go_ret; exact no_name Hn.out (Below.refl _ _))
  · have Hn := Lib.hid (show ¬ PathP l from fun h => h1 h.1)
    have e1 : decide (1 ≤ (l.length : Int)) = false := by rw [decide_eq_false_iff_not]; omega
    go_wp2_with fail
    all_goals (go_ret; exact no_name Hn.out (Below.refl _ _))
end Go.Proofs.YtaandcblndldmaaGreat

/- MayE -/
/- MayE -/
/- MayE -/
namespace Go.Proofs.YtaandcblndldmaaGreat
open Go.RowKit
set_option linter.unusedVariables false
set_option linter.unusedSimpArgs false

def AddsP (n : Int) (x : ByteArray) (ds : List Dt) : Prop := -1000000 ≤ n ∧ n ≤ 1000000 ∧ x.size = 0 ∧ ds = []
def PlainP (n : Int) (x : ByteArray) (ds : List Dt) : Prop := n = 0 ∧ x.size ≤ 40 ∧ ds = []
set_option maxRecDepth 100000 in
set_option maxHeartbeats 4000000 in
theorem plain_any (k n : Int) (x : ByteArray) (pa : Option Addr) (pn pc : Nat) (da : Option Addr) (ds : List Dt) (dc : Nat) (w : World) :
    Calls Tryz.prog 224 #[.agg #[.int .u8 k, .slice pa pn pc, .int .i64 n, .string x, .slice da ds.length dc]] w (IsTo w (PlainP n x ds)) := by
  go_enter Tryz.func224, Tryz.ntmps224
  by_cases hn : n = 0
  · subst hn
    by_cases hx : x.size ≤ 40
    · have Hx := Lib.hid hx
      by_cases h0 : ds.length = 0
      · obtain rfl : ds = [] := List.length_eq_zero_iff.1 h0
        clear h0
        go_wp2_with fail
        all_goals (go_ret; exact yes_name ⟨rfl, Hx.out, rfl⟩ ((Below.refl _ _).alloc (Nat.le_refl _) _))
      · have e6 : ((ds.length : Int) == 0) = false := by rw [beq_eq_false_iff_ne]; omega
        have Hn := Lib.hid (show ¬ PlainP 0 x ds from fun h => h0 (by rw [h.2.2]; rfl))
        go_wp2_with fail
        all_goals (go_ret; exact no_name Hn.out ((Below.refl _ _).alloc (Nat.le_refl _) _))
    · have Hn := Lib.hid (show ¬ PlainP 0 x ds from fun h => hx h.2.1)
      have e6 : decide ((x.size : Int) ≤ 40) = false := by simp; omega
      go_wp2_with fail
      all_goals (go_ret; exact no_name Hn.out ((Below.refl _ _).alloc (Nat.le_refl _) _))
  · have Hn := Lib.hid (show ¬ PlainP n x ds from fun h => hn h.1)
    have e2 : (n == 0) = false := by simpa using hn
    go_wp2_with fail
    all_goals (go_ret; exact no_name Hn.out ((Below.refl _ _).alloc (Nat.le_refl _) _))
set_option maxRecDepth 100000 in
set_option maxHeartbeats 4000000 in
theorem adds_any (k n : Int) (x : ByteArray) (pa : Option Addr) (pn pc : Nat) (da : Option Addr) (ds : List Dt) (dc : Nat) (w : World) :
    Calls Tryz.prog 223 #[.agg #[.int .u8 k, .slice pa pn pc, .int .i64 n, .string x, .slice da ds.length dc]] w (IsTo w (AddsP n x ds)) := by
  go_enter Tryz.func223, Tryz.ntmps223
  by_cases n1 : -1000000 ≤ n
  · by_cases n2 : n ≤ 1000000
    · have N1 := Lib.hid n1
      have N2 := Lib.hid n2
      by_cases hx : x.size = 0
      · have hxl : x.toList = [] := toList_nil.2 hx
        have Hx := Lib.hid hx
        by_cases h0 : ds.length = 0
        · obtain rfl : ds = [] := List.length_eq_zero_iff.1 h0
          clear h0
          go_wp2_with fail
          all_goals (go_ret; exact yes_name ⟨N1.out, N2.out, Hx.out, rfl⟩ ((Below.refl _ _).alloc (Nat.le_refl _) _))
        · have e6 : ((ds.length : Int) == 0) = false := by rw [beq_eq_false_iff_ne]; omega
          have Hn := Lib.hid (show ¬ AddsP n x ds from fun h => h0 (by rw [h.2.2.2]; rfl))
          go_wp2_with fail
          all_goals (go_ret; exact no_name Hn.out ((Below.refl _ _).alloc (Nat.le_refl _) _))
      · have hxl : ¬ x.toList = [] := fun h => hx (toList_nil.1 h)
        have Hn := Lib.hid (show ¬ AddsP n x ds from fun h => hx h.2.2.1)
        go_wp2_with fail
        all_goals (go_ret; exact no_name Hn.out ((Below.refl _ _).alloc (Nat.le_refl _) _))
    · have Hn := Lib.hid (show ¬ AddsP n x ds from fun h => n2 h.2.1)
      have e6 : decide (n ≤ 1000000) = false := by simp; omega
      go_wp2_with fail
      all_goals (go_ret; exact no_name Hn.out ((Below.refl _ _).alloc (Nat.le_refl _) _))
  · have Hn := Lib.hid (show ¬ AddsP n x ds from fun h => n1 h.1)
    have e6 : decide (-1000000 ≤ n) = false := by rw [decide_eq_false_iff_not]; omega
    go_wp2_with fail
    all_goals (go_ret; exact no_name Hn.out ((Below.refl _ _).alloc (Nat.le_refl _) _))
end Go.Proofs.YtaandcblndldmaaGreat

/- MayF -/
namespace Go.Proofs.YtaandcblndldmaaGreat
open Go.RowKit
set_option linter.unusedVariables false
set_option linter.unusedSimpArgs false

def DropsP (n : Int) (x : ByteArray) (ds : List Dt) : Prop := n = 0 ∧ x.size ≤ 40 ∧ ds.length ≤ 64 ∧ AllT ds
set_option maxRecDepth 100000 in
set_option maxHeartbeats 8000000 in
theorem drops_any (k n : Int) (x : ByteArray) (pa : Option Addr) (pn pc : Nat) (da : Option Addr) (ds : List Dt) (dc : Nat) (w : World) (hv : Vec w da dc ds) :
    Calls Tryz.prog 225 #[.agg #[.int .u8 k, .slice pa pn pc, .int .i64 n, .string x, .slice da ds.length dc]] w (IsTo w (DropsP n x ds)) := by
  have Hv := Lib.hid hv
  clear hv
  go_enter Tryz.func225, Tryz.ntmps225
  by_cases hn : n = 0
  · subst hn
    by_cases hx : 40 < x.size
    · have Hn := Lib.hid (show ¬ DropsP 0 x ds from fun h => by have := h.2.1; omega)
      go_wp2_with fail
      all_goals (go_ret; exact no_name Hn.out ((Below.refl _ _).alloc (Nat.le_refl _) _))
    · by_cases hd : 64 < ds.length
      · have Hn := Lib.hid (show ¬ DropsP 0 x ds from fun h => by have := h.2.2.1; omega)
        go_wp2_with fail
        all_goals (go_ret; exact no_name Hn.out ((Below.refl _ _).alloc (Nat.le_refl _) _))
      · have Hsz := Lib.hid (show x.size ≤ 40 by omega)
        have Hd64 := Lib.hid (show ds.length ≤ 64 by omega)
        have e7 : decide (40 < (x.size : Int)) = false := by simp; omega
        have e8 : decide (64 < (ds.length : Int)) = false := by simp; omega
        go_wp2_with fail
        go_loopw [23] (fun j wr => JOpX ds.length w (ocells k 0 x pa pn pc da ds.length dc) ds j wr) (fun j _ => ds.length - (intOf j).toNat)
        case atStart => exact ⟨0, Nat.zero_le _, rfl, OpE.of (Below.refl _ _), by simp, upTo.zero⟩
        case round =>
          obtain ⟨q, hq, rfl, hE, hall, hup⟩ := hrel
          have Hall := Lib.hid hall
          have Hup := Lib.hid hup
          have E := Lib.hid hE
          have d0 := cells_at E.out.blk
          simp only [ocells] at d0
          clear hE hall hup
          by_cases hlt : q < ds.length
          · obtain ⟨⟨⟨r, i⟩, s⟩, hx2⟩ : ∃ x, ds[q]? = some x := ⟨ds[q], by simp [hlt]⟩
            obtain ⟨ad, had, c0, c1, c2, hl0⟩ := (Hv.out.below E.out.bel).at hx2
            subst had
            dsimp only at c0 c1 c2
            have Hx := Lib.hid hx2
            clear hx2
            go_wp2_with fail
            refine region_text [([0, 1, 2, 3, 4, 5, 6, 7, 8, 9, 10, 11, 12, 13, 14, 15, 16, 17], false)] mixed (by kernel_rfl) ?_
            simp only [wpSegs, List.map_cons, List.map_nil, List.getD_cons_succ, List.getD_cons_zero]
            go_wp2_with fail
            refine (may_any r i s _).mono ?_
            rintro e w1 ⟨rfl, hb1⟩
            obtain ⟨hx0, hz1, hB1⟩ := new1 (((Below.refl _ _).drew).trans hb1)
            replace E := Lib.hid (E.out.step hB1)
            have g0 := cells_at hx0
            have Hx0 := Lib.hid hx0
            clear hb1 hx0 c0 c1 c2 d0
            obtain ⟨ad', had, c0, c1, c2, hl0'⟩ := (Hv.out.below E.out.bel).at Hx.out
            cases had
            dsimp only at c0 c1 c2
            have d0 := cells_at E.out.blk
            simp only [ocells] at d0
            cases hm' : may ((r, i), s) with
            | false =>
              have Hn := Lib.hid (show ¬ DropsP 0 x ds from fun h => bad_t Hx.out hm' h.2.2.2)
              clear hm'
              go_wp2_with fail
              refine And.intro (by kernel_rfl) ?_
              go_wp2_with fail
              go_ret
              exact no_name Hn.out E.out.bel
            | true =>
              have Hm := Lib.hid hm'
              clear hm'
              cases q with
              | zero =>
                go_wp2_with fail
                refine And.intro (by kernel_rfl) ?_
                go_wp2_with fail
                go_roundw
                case rel => exact ⟨1, by omega, by go_num, E.out, all_snoc Hx.out Hall.out Hm.out, upTo.one⟩
                case measure => simp [intOf]; omega
              | succ m =>
                obtain ⟨⟨⟨r', i'⟩, s'⟩, hy⟩ : ∃ x, ds[m]? = some x := ⟨ds[m], by simp [show m < ds.length by omega]⟩
                obtain ⟨ae, hae, p0, p1, p2, hl2⟩ := (Hv.out.below E.out.bel).at hy
                cases hae
                dsimp only at p0 p1 p2
                have Hy := Lib.hid hy
                clear hy
                go_wp2_with fail
                refine (compareD_any r' i' s' r i s _).mono ?_
                rintro e w4 ⟨rfl, hg⟩
                replace E := Lib.hid (E.out.step hg.below)
                clear hg d0
                have hc := cmpDD_less ((r', i'), s') ((r, i), s)
                cases ha : lessD ((r', i'), s') ((r, i), s) with
                | false =>
                  have Hn := Lib.hid (show ¬ DropsP 0 x ds from fun h => bad_tp Hy.out Hx.out ha h.2.2.2)
                  rw [ha] at hc
                  clear ha
                  go_wp2_with fail
                  refine And.intro (by kernel_rfl) ?_
                  go_wp2_with fail
                  go_ret
                  exact no_name Hn.out E.out.bel
                | true =>
                  have Ha := Lib.hid ha
                  rw [ha] at hc
                  clear ha
                  go_wp2_with fail
                  refine And.intro (by kernel_rfl) ?_
                  go_wp2_with fail
                  go_roundw
                  case rel => exact ⟨m + 2, by omega, by go_num, E.out, all_snoc Hx.out Hall.out Hm.out, Hup.out.succ Hy.out Hx.out Ha.out⟩
                  case measure => simp [intOf]; omega
          · have hall := Hall.out
            rw [List.take_of_length_le (by omega)] at hall
            have HA := Lib.hid (show AllT ds from ⟨hall, upTo.all (lt := ltD) (fun h1 h2 => ltD_trans h1 h2) Hup.out (by omega)⟩)
            clear hall
            go_wp2_with fail
            go_ret
            exact yes_name ⟨rfl, Hsz.out, Hd64.out, HA.out⟩ E.out.bel
  · have Hn := Lib.hid (show ¬ DropsP n x ds from fun h => hn h.1)
    have e2 : (n != 0) = true := by simpa using hn
    go_wp2_with fail
    all_goals (go_ret; exact no_name Hn.out ((Below.refl _ _).alloc (Nat.le_refl _) _))
end Go.Proofs.YtaandcblndldmaaGreat

/- MayG -/
namespace Go.Proofs.YtaandcblndldmaaGreat
open Go.RowKit
set_option linter.unusedVariables false
set_option linter.unusedSimpArgs false

/-- what op.of tells -/
def OfTo (w : World) (k : Int) (e : Ending) (w' : World) : Prop :=
  ((¬ (1 ≤ k ∧ k ≤ 5) ∧ e = .returned (.tuple #[.agg #[.int .u8 0, .nilFunc], .bool false])) ∨
   (k = 1 ∧ e = .returned (.tuple #[.agg #[.int .u8 1, .func (.func 223) #[] #[]], .bool true])) ∨
   (k = 2 ∧ e = .returned (.tuple #[.agg #[.int .u8 2, .func (.func 224) #[] #[]], .bool true])) ∨
   (k = 3 ∧ e = .returned (.tuple #[.agg #[.int .u8 3, .func (.func 224) #[] #[]], .bool true])) ∨
   (k = 4 ∧ e = .returned (.tuple #[.agg #[.int .u8 3, .func (.func 225) #[] #[]], .bool true])) ∨
   (k = 5 ∧ e = .returned (.tuple #[.agg #[.int .u8 4, .func (.func 224) #[] #[]], .bool true]))) ∧ Below w.heap.size w w'
theorem of_below (w : World) (o o' : Obj) : Below w.heap.size w ((w.alloc o).alloc o') := ((Below.refl _ _).alloc (Nat.le_refl _) _).alloc (by simp) _
set_option maxRecDepth 100000 in
set_option maxHeartbeats 4000000 in
theorem of_any (k : Int) (w : World) : Calls Tryz.prog 196 #[.int .u8 k] w (OfTo w k) := by
  go_enter Tryz.func196, Tryz.ntmps196
  by_cases h1 : k < 1
  · have Hn := Lib.hid (show ¬ (1 ≤ k ∧ k ≤ 5) by omega)
    go_wp2_with fail
    all_goals exact bodyPost_ret (v := .tuple #[.agg #[.int .u8 0, .nilFunc], .bool false]) (by simp [results, Tryz.results196, go_sem]; try rfl) rfl ⟨.inl ⟨Hn.out, rfl⟩, of_below _ _ _⟩
  · by_cases h5 : 5 < k
    · have Hn := Lib.hid (show ¬ (1 ≤ k ∧ k ≤ 5) by omega)
      go_wp2_with fail
      all_goals exact bodyPost_ret (v := .tuple #[.agg #[.int .u8 0, .nilFunc], .bool false]) (by simp [results, Tryz.results196, go_sem]; try rfl) rfl ⟨.inl ⟨Hn.out, rfl⟩, of_below _ _ _⟩
    · have : k = 1 ∨ k = 2 ∨ k = 3 ∨ k = 4 ∨ k = 5 := by omega
      rcases this with rfl | rfl | rfl | rfl | rfl
      · go_wp2_with fail
        all_goals exact bodyPost_ret (v := .tuple #[.agg #[.int .u8 1, .func (.func 223) #[] #[]], .bool true]) (by simp [results, Tryz.results196, go_sem]; try rfl) rfl ⟨.inr (.inl ⟨rfl, rfl⟩), of_below _ _ _⟩
      · go_wp2_with fail
        all_goals exact bodyPost_ret (v := .tuple #[.agg #[.int .u8 2, .func (.func 224) #[] #[]], .bool true]) (by simp [results, Tryz.results196, go_sem]; try rfl) rfl ⟨.inr (.inr (.inl ⟨rfl, rfl⟩)), of_below _ _ _⟩
      · go_wp2_with fail
        all_goals exact bodyPost_ret (v := .tuple #[.agg #[.int .u8 3, .func (.func 224) #[] #[]], .bool true]) (by simp [results, Tryz.results196, go_sem]; try rfl) rfl ⟨.inr (.inr (.inr (.inl ⟨rfl, rfl⟩))), of_below _ _ _⟩
      · go_wp2_with fail
        all_goals exact bodyPost_ret (v := .tuple #[.agg #[.int .u8 3, .func (.func 225) #[] #[]], .bool true]) (by simp [results, Tryz.results196, go_sem]; try rfl) rfl ⟨.inr (.inr (.inr (.inr (.inl ⟨rfl, rfl⟩)))), of_below _ _ _⟩
      · go_wp2_with fail
        all_goals exact bodyPost_ret (v := .tuple #[.agg #[.int .u8 4, .func (.func 224) #[] #[]], .bool true]) (by simp [results, Tryz.results196, go_sem]; try rfl) rfl ⟨.inr (.inr (.inr (.inr (.inr ⟨rfl, rfl⟩)))), of_below _ _ _⟩
theorem add_op (n : Int) (x : ByteArray) (p : List ByteArray) (ds : List Dt) : OpP 1 n x p ds ↔ PathP p ∧ AddsP n x ds := by
  constructor
  · intro h
    have := h.add rfl
    exact ⟨h.path, this.1, this.2.1, this.2.2.1, this.2.2.2⟩
  · rintro ⟨hp, h1, h2, h3, rfl⟩
    exact ⟨by decide, hp, by omega, by simp, fun _ => ⟨h1, h2, h3, rfl⟩, fun h => absurd rfl h⟩
theorem plain_op (k n : Int) (x : ByteArray) (p : List ByteArray) (ds : List Dt) (hk : typeOf k ≠ 0) (h1 : k ≠ 1) (h4 : k ≠ 4) : OpP k n x p ds ↔ PathP p ∧ PlainP n x ds := by
  constructor
  · intro h
    have := h.rest h1
    exact ⟨h.path, this.1, h.text, this.2.1 h4⟩
  · rintro ⟨hp, h2, h3, rfl⟩
    exact ⟨hk, hp, h3, by simp, fun h => absurd h h1, fun _ => ⟨h2, fun _ => rfl, fun d hd => (by cases hd), .nil⟩⟩
theorem drops_op (n : Int) (x : ByteArray) (p : List ByteArray) (ds : List Dt) : OpP 4 n x p ds ↔ PathP p ∧ DropsP n x ds := by
  constructor
  · intro h
    have := h.rest (by decide)
    exact ⟨h.path, this.1, h.text, h.few, this.2.2⟩
  · rintro ⟨hp, h2, h3, h4, h5⟩
    exact ⟨by decide, hp, h3, h4, fun h => (by cases h), fun _ => ⟨h2, fun h => absurd rfl h, h5⟩⟩
theorem no_op {k n : Int} {x : ByteArray} {p : List ByteArray} {ds : List Dt} (h : ¬ (1 ≤ k ∧ k ≤ 5)) : ¬ OpP k n x p ds := fun hh => by
  apply hh.kind
  unfold typeOf
  repeat (split; (try omega))
  rfl
end Go.Proofs.YtaandcblndldmaaGreat

/- MayH -/
namespace Go.Proofs.YtaandcblndldmaaGreat
open Go.RowKit
set_option linter.unusedVariables false
set_option linter.unusedSimpArgs false

set_option maxRecDepth 100000 in
set_option maxHeartbeats 8000000 in
theorem mayOpG_any (k n : Int) (x : ByteArray) (pa : Option Addr) (pl : List ByteArray) (pc : Nat) (da : Option Addr) (ds : List Dt) (dc : Nat) (w : World) (hp : Strs w pa pc pl) (hv : Vec w da dc ds) :
    Calls Tryz.prog 147 #[.agg #[.int .u8 k, .slice pa pl.length pc, .int .i64 n, .string x, .slice da ds.length dc]] w (IsTo w (OpP k n x pl ds)) := by
  have Hp := Lib.hid hp
  have Hv := Lib.hid hv
  clear hp hv
  have he1 := enters_of Tryz.func223 (by kernel_rfl) rfl
  have he2 := enters_of Tryz.func224 (by kernel_rfl) rfl
  have he3 := enters_of Tryz.func225 (by kernel_rfl) rfl
  go_enter Tryz.func147, Tryz.ntmps147
  go_wp2_with fail
  refine (of_any k _).mono ?_
  rintro e w1 ⟨hc, hb1⟩
  have E : Hid (OpE w w1 (ocells k n x pa pl.length pc da ds.length dc)) := Lib.hid (OpE.of hb1)
  have d0 := cells_at E.out.blk
  simp only [ocells] at d0
  have hz1 : w.heap.size < w1.heap.size := heap_lt E.out.blk
  clear hb1
  obtain ⟨hk, rfl⟩ | ⟨rfl, rfl⟩ | ⟨rfl, rfl⟩ | ⟨rfl, rfl⟩ | ⟨rfl, rfl⟩ | ⟨rfl, rfl⟩ := hc
  · have Hn := Lib.hid (no_op (n := n) (x := x) (p := pl) (ds := ds) hk)
    clear hk
    go_wp2_with fail
    all_goals (go_ret; exact no_name Hn.out (below2 E.out.bel ((Below.refl _ _).alloc (Nat.le_refl _) _) E.out.bel.size))
  · go_wp2_with fail
    refine (mayPathG_any pa pc pl _ (Hp.out.below (below2 E.out.bel ((Below.refl _ _).alloc (Nat.le_refl _) _) E.out.bel.size))).mono ?_
    intro e w2 hto
    obtain ⟨z, rfl, hz, hb⟩ := hto
    obtain ⟨hy0, hs1, hb1⟩ := new1 hb
    replace E := Lib.hid (E.out.step hb1)
    have Hz := Lib.hid hz
    clear hb hz d0 hb1
    have d0 := cells_at E.out.blk
    simp only [ocells] at d0
    have t0 := cells_at hy0
    clear hy0
    cases z with
    | false =>
      have Hn := Lib.hid (show ¬ OpP 1 n x pl ds from fun h => by have := Hz.out.2 h.path; cases this)
      go_wp2_with fail
      all_goals (go_ret; exact no_name Hn.out E.out.bel)
    | true =>
      go_wp2_with fail
      refine (adds_any 1 n x pa pl.length pc da ds dc _).mono ?_
      intro e w3 hto
      obtain ⟨z, rfl, hz, hb⟩ := hto
      replace E := Lib.hid (E.out.step hb)
      have Hq := Lib.hid (show OpP 1 n x pl ds ↔ z = true from (add_op n x pl ds).trans ⟨fun h => hz.2 h.2, fun h => ⟨Hz.out.1 (by simp), hz.1 h⟩⟩)
      clear hb hz d0 t0
      go_wp2_with fail
      all_goals (go_ret; exact ⟨z, rfl, Hq.out.symm, E.out.bel⟩)
  · go_wp2_with fail
    refine (mayPathG_any pa pc pl _ (Hp.out.below (below2 E.out.bel ((Below.refl _ _).alloc (Nat.le_refl _) _) E.out.bel.size))).mono ?_
    intro e w2 hto
    obtain ⟨z, rfl, hz, hb⟩ := hto
    obtain ⟨hy0, hs1, hb1⟩ := new1 hb
    replace E := Lib.hid (E.out.step hb1)
    have Hz := Lib.hid hz
    clear hb hz d0 hb1
    have d0 := cells_at E.out.blk
    simp only [ocells] at d0
    have t0 := cells_at hy0
    clear hy0
    cases z with
    | false =>
      have Hn := Lib.hid (show ¬ OpP 2 n x pl ds from fun h => by have := Hz.out.2 h.path; cases this)
      go_wp2_with fail
      all_goals (go_ret; exact no_name Hn.out E.out.bel)
    | true =>
      go_wp2_with fail
      refine (plain_any 2 n x pa pl.length pc da ds dc _).mono ?_
      intro e w3 hto
      obtain ⟨z, rfl, hz, hb⟩ := hto
      replace E := Lib.hid (E.out.step hb)
      have Hq := Lib.hid (show OpP 2 n x pl ds ↔ z = true from (plain_op 2 n x pl ds (by decide) (by decide) (by decide)).trans ⟨fun h => hz.2 h.2, fun h => ⟨Hz.out.1 (by simp), hz.1 h⟩⟩)
      clear hb hz d0 t0
      go_wp2_with fail
      all_goals (go_ret; exact ⟨z, rfl, Hq.out.symm, E.out.bel⟩)
  · go_wp2_with fail
    refine (mayPathG_any pa pc pl _ (Hp.out.below (below2 E.out.bel ((Below.refl _ _).alloc (Nat.le_refl _) _) E.out.bel.size))).mono ?_
    intro e w2 hto
    obtain ⟨z, rfl, hz, hb⟩ := hto
    obtain ⟨hy0, hs1, hb1⟩ := new1 hb
    replace E := Lib.hid (E.out.step hb1)
    have Hz := Lib.hid hz
    clear hb hz d0 hb1
    have d0 := cells_at E.out.blk
    simp only [ocells] at d0
    have t0 := cells_at hy0
    clear hy0
    cases z with
    | false =>
      have Hn := Lib.hid (show ¬ OpP 3 n x pl ds from fun h => by have := Hz.out.2 h.path; cases this)
      go_wp2_with fail
      all_goals (go_ret; exact no_name Hn.out E.out.bel)
    | true =>
      go_wp2_with fail
      refine (plain_any 3 n x pa pl.length pc da ds dc _).mono ?_
      intro e w3 hto
      obtain ⟨z, rfl, hz, hb⟩ := hto
      replace E := Lib.hid (E.out.step hb)
      have Hq := Lib.hid (show OpP 3 n x pl ds ↔ z = true from (plain_op 3 n x pl ds (by decide) (by decide) (by decide)).trans ⟨fun h => hz.2 h.2, fun h => ⟨Hz.out.1 (by simp), hz.1 h⟩⟩)
      clear hb hz d0 t0
      go_wp2_with fail
      all_goals (go_ret; exact ⟨z, rfl, Hq.out.symm, E.out.bel⟩)
  · go_wp2_with fail
    refine (mayPathG_any pa pc pl _ (Hp.out.below (below2 E.out.bel ((Below.refl _ _).alloc (Nat.le_refl _) _) E.out.bel.size))).mono ?_
    intro e w2 hto
    obtain ⟨z, rfl, hz, hb⟩ := hto
    obtain ⟨hy0, hs1, hb1⟩ := new1 hb
    replace E := Lib.hid (E.out.step hb1)
    have Hz := Lib.hid hz
    clear hb hz d0 hb1
    have d0 := cells_at E.out.blk
    simp only [ocells] at d0
    have t0 := cells_at hy0
    clear hy0
    cases z with
    | false =>
      have Hn := Lib.hid (show ¬ OpP 4 n x pl ds from fun h => by have := Hz.out.2 h.path; cases this)
      go_wp2_with fail
      all_goals (go_ret; exact no_name Hn.out E.out.bel)
    | true =>
      go_wp2_with fail
      refine (drops_any 4 n x pa pl.length pc da ds dc _ (Hv.out.below E.out.bel)).mono ?_
      intro e w3 hto
      obtain ⟨z, rfl, hz, hb⟩ := hto
      replace E := Lib.hid (E.out.step hb)
      have Hq := Lib.hid (show OpP 4 n x pl ds ↔ z = true from (drops_op n x pl ds).trans ⟨fun h => hz.2 h.2, fun h => ⟨Hz.out.1 (by simp), hz.1 h⟩⟩)
      clear hb hz d0 t0
      go_wp2_with fail
      all_goals (go_ret; exact ⟨z, rfl, Hq.out.symm, E.out.bel⟩)
  · go_wp2_with fail
    refine (mayPathG_any pa pc pl _ (Hp.out.below (below2 E.out.bel ((Below.refl _ _).alloc (Nat.le_refl _) _) E.out.bel.size))).mono ?_
    intro e w2 hto
    obtain ⟨z, rfl, hz, hb⟩ := hto
    obtain ⟨hy0, hs1, hb1⟩ := new1 hb
    replace E := Lib.hid (E.out.step hb1)
    have Hz := Lib.hid hz
    clear hb hz d0 hb1
    have d0 := cells_at E.out.blk
    simp only [ocells] at d0
    have t0 := cells_at hy0
    clear hy0
    cases z with
    | false =>
      have Hn := Lib.hid (show ¬ OpP 5 n x pl ds from fun h => by have := Hz.out.2 h.path; cases this)
      go_wp2_with fail
      all_goals (go_ret; exact no_name Hn.out E.out.bel)
    | true =>
      go_wp2_with fail
      refine (plain_any 5 n x pa pl.length pc da ds dc _).mono ?_
      intro e w3 hto
      obtain ⟨z, rfl, hz, hb⟩ := hto
      replace E := Lib.hid (E.out.step hb)
      have Hq := Lib.hid (show OpP 5 n x pl ds ↔ z = true from (plain_op 5 n x pl ds (by decide) (by decide) (by decide)).trans ⟨fun h => hz.2 h.2, fun h => ⟨Hz.out.1 (by simp), hz.1 h⟩⟩)
      clear hb hz d0 t0
      go_wp2_with fail
      all_goals (go_ret; exact ⟨z, rfl, Hq.out.symm, E.out.bel⟩)
end Go.Proofs.YtaandcblndldmaaGreat

/- BatA -/
/- BatA -/
namespace Go.Proofs.YtaandcblndldmaaGreat
open Go.RowKit Go.ChangeShapes Go.WideShapes
set_option linter.unusedVariables false
set_option linter.unusedSimpArgs false

/-- an operation -/
structure Opn where
  k : Int
  n : Int
  x : ByteArray
  p : List ByteArray
  ds : List Dt
/-- an operation, and where its path and its dots lie -/
structure Ow where
  o : Opn
  pa : Option Addr
  pc : Nat
  da : Option Addr
  dc : Nat
abbrev owcells (v : Ow) : Array Value := ocells v.o.k v.o.n v.o.x v.pa v.o.p.length v.pc v.da v.o.ds.length v.dc
structure OwAt (w : World) (v : Ow) : Prop where
  pt : Strs w v.pa v.pc v.o.p
  ds : Vec w v.da v.dc v.o.ds
  ok : okV v.o.ds
section
variable {H : Type} {enc : TypeId × Value → H} {w : World} {base : Nat} {spare : Nat → Bool} {held : Bool}
end
end Go.Proofs.YtaandcblndldmaaGreat

/- BatB -/
namespace Go.Proofs.YtaandcblndldmaaGreat
open Go.RowKit
set_option linter.unusedVariables false
set_option linter.unusedSimpArgs false

end Go.Proofs.YtaandcblndldmaaGreat
