/- Contracts: incarnations (slices of uint32). -/
import Derived.Test.YtblahapjdgncfaaMatP
import Derived.Test.YtblahapjdgncfaaVec3
namespace Go.Proofs.Ytblahapjdgncfaa
open Go.RowKit
set_option linter.unusedVariables false
set_option linter.unusedSimpArgs false

def ucells (l : List Int) : List Value := l.map (.int .u32 ·)
theorem ucells_length (l : List Int) : (ucells l).length = l.length := by simp [ucells]
theorem ucells_one (l : List Int) : ∀ u ∈ ucells l, u.oneCell' = true := by
  intro u hu; obtain ⟨b, _, rfl⟩ := List.mem_map.1 hu; rfl
/-- a slice of uint32 that reads as l -/
def U32 (w : World) (a : Option Addr) (c : Nat) (l : List Int) : Prop := Sl w 1 a l.length c (ucells l)
theorem U32.below {w w' : World} {a : Option Addr} {c : Nat} {l : List Int} (h : U32 w a c l) (hb : Below w.heap.size w w') : U32 w' a c l := Sl.below h hb
theorem U32.at {w : World} {a : Option Addr} {c : Nat} {l : List Int} (h : U32 w a c l) {k : Nat} {x : Int} (hx : l[k]? = some x) : ∃ ad, a = some ad ∧ w.cell? (ad.add k) = some (.int .u32 x) ∧ ad.block < w.heap.size := by
  have hk : k < l.length := (List.getElem?_eq_some_iff.1 hx).1
  obtain ⟨_, _, _, ⟨_, h0, _⟩ | ⟨ad, rfl, hc⟩⟩ := h
  · omega
  · have h0 := hc k (.int .u32 x) (by simp [ucells, hx])
    refine ⟨ad, rfl, h0, ?_⟩
    have := World.block_lt_of_cell? w _ h0
    have hb : (ad.add k).block = ad.block := by unfold Addr.add; split <;> rfl
    rwa [hb] at this

theorem wrong_any (x : Int) (w : World) : Calls Try.prog 72 #[.int .u32 x] w fun e w' => e = .returned (.bool (!incOk x)) ∧ w = w' := by
  by_cases h1 : x < 1
  · have He := Lib.hid (show (!incOk x) = true by simp [incOk]; omega)
    go_enter Try.func72, Try.ntmps72
    go_wp2_with fail
    go_ret
    exact ⟨by rw [He.out]; rfl, rfl⟩
  · have h1' : decide (x < 1) = false := by simpa using h1
    have He := Lib.hid (show (!incOk x) = decide (4 < x) by by_cases h : x ≤ 4 <;> simp [incOk, h, show (1 : Int) ≤ x by omega] <;> omega)
    go_enter Try.func72, Try.ntmps72
    go_wp2_with fail
    go_ret
    exact ⟨by rw [He.out]; rfl, rfl⟩

theorem all_snoc {α : Type} {p : α → Prop} {l : List α} {k : Nat} {x : α} (hx : l[k]? = some x) (h : ∀ y ∈ l.take k, p y) (hp : p x) : ∀ y ∈ l.take (k + 1), p y := by
  intro y hy
  rw [take_snoc' hx, List.mem_append, List.mem_singleton] at hy
  rcases hy with hy | rfl
  · exact h y hy
  · exact hp
set_option maxHeartbeats 1000000 in
theorem index_any (a : Option Addr) (c : Nat) (l : List Int) (w : World) (hv : U32 w a c l) (hn : l.length ≤ 1000000) :
    Calls Try.prog 87 #[.slice a l.length c, .func (.func 72) #[] #[]] w fun e w' => ∃ k : Int, e = .returned (.int .i64 k) ∧ decide (0 ≤ k) = !l.all incOk ∧ Below w.heap.size w w' := by
  have Hv := Lib.hid hv
  clear hv
  have he := enters_of Try.func72 (by kernel_rfl) rfl
  go_enter Try.func87, Try.ntmps87
  go_wp2_with fail
  go_loopw [8] (fun j wr => ∃ k : Nat, k ≤ l.length ∧ j = .int .i64 k ∧ Hid (∀ x ∈ l.take k, incOk x = true) ∧ Below w.heap.size w wr) (fun j _ => l.length - (intOf j).toNat)
  case atStart => exact ⟨0, Nat.zero_le _, rfl, Lib.hid (by simp), Below.refl _ _⟩
  case round =>
    obtain ⟨k, hk, rfl, hle, hb⟩ := hrel
    have Hb := Lib.hid hb
    clear hb
    by_cases hlt : k < l.length
    · obtain ⟨x, hx⟩ : ∃ x, l[k]? = some x := ⟨l[k], by simp [hlt]⟩
      obtain ⟨ad, had, c0, hl0⟩ := (Hv.out.below Hb.out).at hx
      subst had
      have Hx := Lib.hid hx
      clear hx
      go_wp2_with fail
      refine (wrong_any x _).mono ?_
      rintro e w1 ⟨rfl, rfl⟩
      cases hi : incOk x with
      | false =>
        have He := Lib.hid (show (!l.all incOk) = true by simp; exact ⟨x, List.mem_of_getElem? Hx.out, hi⟩)
        clear hi
        go_wp2_with fail
        go_ret
        exact ⟨k, rfl, by rw [He.out]; simp, Hb.out⟩
      | true =>
        have Hi := Lib.hid hi
        clear hi
        go_wp2_with fail
        go_roundw
        case rel => exact ⟨k + 1, by omega, by go_num, Lib.hid (all_snoc Hx.out hle.out Hi.out), Hb.out⟩
        case measure => simp [intOf]; omega
    · have He := Lib.hid (show (!l.all incOk) = false by simp; intro x hx; exact hle.out x (by rwa [List.take_of_length_le (by omega)]))
      go_wp2_with fail
      go_ret
      exact ⟨-1, rfl, by rw [He.out]; rfl, Hb.out⟩

theorem contains_any (a : Option Addr) (c : Nat) (l : List Int) (w : World) (hv : U32 w a c l) (hn : l.length ≤ 1000000) :
    Calls Try.prog 73 #[.slice a l.length c, .func (.func 72) #[] #[]] w fun e w' => e = .returned (.bool (!l.all incOk)) ∧ Below w.heap.size w w' := by
  go_enter Try.func73, Try.ntmps73
  go_wp2_with fail
  refine (index_any a c l _ hv hn).mono ?_
  rintro e w1 ⟨k, rfl, hk, hb⟩
  have Hb := Lib.hid hb
  have Hk := Lib.hid hk
  clear hb hk
  go_wp2_with fail
  go_ret
  exact ⟨by rw [← Hk.out]; rfl, Hb.out⟩

set_option maxHeartbeats 1000000 in
theorem mayIncs_any (a : Option Addr) (c : Nat) (l : List Int) (n : Int) (w : World) (hv : U32 w a c l) (hn : l.length ≤ 1000000) :
    Calls Try.prog 38 #[.slice a l.length c, .int .i64 n] w fun e w' => e = .returned (.bool (mayIncs l n)) ∧ Below w.heap.size w w' := by
  have Hv := Lib.hid hv
  clear hv
  by_cases h1 : 1 ≤ n
  · by_cases h2 : n ≤ 16
    · by_cases h3 : (l.length : Int) = n
      · subst h3
        have He := Lib.hid (show mayIncs l l.length = l.all incOk by simp [mayIncs, h1, h2])
        go_enter Try.func38, Try.ntmps38
        go_wp2_with fail
        refine (contains_any a c l _ Hv.out hn).mono ?_
        rintro e w1 ⟨rfl, hb⟩
        have Hb := Lib.hid hb
        clear hb
        go_wp2_with fail
        go_ret
        exact ⟨by rw [He.out]; simp, Hb.out⟩
      · have h3' : ((l.length : Int) == n) = false := by simpa using h3
        have He := Lib.hid (show mayIncs l n = false by simp [mayIncs, h3])
        go_enter Try.func38, Try.ntmps38
        go_wp2_with fail
        go_ret
        exact ⟨by rw [He.out]; rfl, Below.refl _ _⟩
    · have h2' : decide (n ≤ 16) = false := by simpa using h2
      have He := Lib.hid (show mayIncs l n = false by simp [mayIncs, h2])
      go_enter Try.func38, Try.ntmps38
      go_wp2_with fail
      go_ret
      exact ⟨by rw [He.out]; rfl, Below.refl _ _⟩
  · have h1' : decide (1 ≤ n) = false := by simpa using h1
    have He := Lib.hid (show mayIncs l n = false by simp [mayIncs, h1])
    go_enter Try.func38, Try.ntmps38
    go_wp2_with fail
    go_ret
    exact ⟨by rw [He.out]; rfl, Below.refl _ _⟩

theorem leq_any (x y : Int) (w : World) : Calls Try.prog 75 #[.int .u32 x, .int .u32 y] w fun e w' => e = .returned (.bool (decide (x ≤ y))) ∧ w = w' := by
  go_enter Try.func75, Try.ntmps75
  go_wp2_with fail
  go_ret
  exact ⟨rfl, rfl⟩

theorem withinI_false {a b : List Int} {k : Nat} {x y : Int} (hx : a[k]? = some x) (hy : b[k]? = some y) (h : ¬ x ≤ y) : withinI a b = false := by
  cases e : withinI a b with
  | false => rfl
  | true => exact absurd (((withinI_iff a b).1 e).2 k x y hx hy) h
theorem withinI_short {a b : List Int} (h : a.length ≠ b.length) : withinI a b = false := by simp [withinI, h]
def upTo (a b : List Int) (k : Nat) : Prop := ∀ j x y, j < k → a[j]? = some x → b[j]? = some y → x ≤ y
theorem upTo.snoc {a b : List Int} {k : Nat} (h : upTo a b k) {x y : Int} (hx : a[k]? = some x) (hy : b[k]? = some y) (hl : x ≤ y) : upTo a b (k + 1) := by
  intro j x' y' hj h1 h2
  rcases Nat.lt_succ_iff_lt_or_eq.1 hj with h3 | rfl
  · exact h j x' y' h3 h1 h2
  · rw [hx] at h1; rw [hy] at h2; cases h1; cases h2; exact hl
theorem upTo.all {a b : List Int} {k : Nat} (h : upTo a b k) (hk : a.length ≤ k) : withinI a b = decide (a.length = b.length) := by
  by_cases e : a.length = b.length
  · rw [decide_eq_true e]; exact (withinI_iff a b).2 ⟨e, fun j x y hx hy => h j x y (by have := (List.getElem?_eq_some_iff.1 hx).1; omega) hx hy⟩
  · rw [withinI_short e, decide_eq_false e]
set_option maxHeartbeats 1000000 in
theorem allI_any (a b : Option Addr) (c d : Nat) (l m : List Int) (w : World) (hv : U32 w a c l) (hu : U32 w b d m) (hn : l.length ≤ 1000000) (hm : m.length ≤ 1000000) :
    Calls Try.prog 74 #[.slice a l.length c, .slice b m.length d, .func (.func 75) #[] #[]] w fun e w' => e = .returned (.bool (withinI l m)) ∧ Below w.heap.size w w' := by
  have Hv := Lib.hid hv
  have Hu := Lib.hid hu
  clear hv hu
  have he := enters_of Try.func75 (by kernel_rfl) rfl
  go_enter Try.func74, Try.ntmps74
  go_wp2_with fail
  go_loopw [10] (fun j wr => ∃ k : Nat, k ≤ l.length ∧ k ≤ m.length ∧ j = .int .i64 k ∧ Hid (upTo l m k) ∧ Below w.heap.size w wr) (fun j _ => l.length - (intOf j).toNat)
  case atStart => exact ⟨0, Nat.zero_le _, Nat.zero_le _, rfl, Lib.hid (fun j _ _ h => absurd h (Nat.not_lt_zero _)), Below.refl _ _⟩
  case round =>
    obtain ⟨k, hk, hkm, rfl, hle, hb⟩ := hrel
    have Hb := Lib.hid hb
    clear hb
    by_cases hlt : k < l.length
    · by_cases hlm : k < m.length
      · obtain ⟨x, hx⟩ : ∃ x, l[k]? = some x := ⟨l[k], by simp [hlt]⟩
        obtain ⟨y, hy⟩ : ∃ y, m[k]? = some y := ⟨m[k], by simp [hlm]⟩
        obtain ⟨ad, had, c0, hl0⟩ := (Hv.out.below Hb.out).at hx
        obtain ⟨ae, hae, c1, hl1⟩ := (Hu.out.below Hb.out).at hy
        subst had hae
        have Hx := Lib.hid hx
        have Hy := Lib.hid hy
        clear hx hy
        go_wp2_with fail
        refine region_text [([0, 1, 2, 3, 4, 5, 6, 7, 8, 9, 10, 11, 12, 13, 14, 15, 16], false)] mixed (by kernel_rfl) ?_
        simp only [wpSegs, List.map_cons, List.map_nil, List.getD_cons_succ, List.getD_cons_zero]
        go_wp2_with fail
        refine (leq_any x y _).mono ?_
        rintro e w1 ⟨rfl, rfl⟩
        by_cases hxy : x ≤ y
        · go_wp2_with fail
          refine And.intro (by kernel_rfl) ?_
          go_wp2_with fail
          go_roundw
          case rel => exact ⟨k + 1, by omega, by omega, by go_num, Lib.hid (hle.out.snoc Hx.out Hy.out hxy), below_drewN Hb.out _⟩
          case measure => simp [intOf]; omega
        · have hxy' : decide (x ≤ y) = false := by simpa using hxy
          have He := Lib.hid (withinI_false Hx.out Hy.out hxy)
          go_wp2_with fail
          refine And.intro (by kernel_rfl) ?_
          go_wp2_with fail
          go_ret
          exact ⟨by rw [He.out]; rfl, below_drewN Hb.out _⟩
      · have hlm' : decide (m.length ≤ k) = true := by simp; omega
        have He := Lib.hid (show withinI l m = false from withinI_short (by omega))
        go_wp2_with fail
        refine region_text [([0, 1, 2, 3, 4, 5, 6, 7, 8, 9, 10, 11, 12, 13, 14, 15, 16], false)] mixed (by kernel_rfl) ?_
        simp only [wpSegs, List.map_cons, List.map_nil, List.getD_cons_succ, List.getD_cons_zero]
        go_wp2_with fail
        refine And.intro (by kernel_rfl) ?_
        go_wp2_with fail
        go_ret
        exact ⟨by rw [He.out]; rfl, below_drewN Hb.out _⟩
    · have He := Lib.hid (show withinI l m = ((l.length : Int) == (m.length : Int)) by
        rw [hle.out.all (by omega)]
        by_cases e : l.length = m.length
        · rw [decide_eq_true e, e]; simp
        · rw [decide_eq_false e]; symm; simp; omega)
      go_wp2_with fail
      go_ret
      exact ⟨by rw [He.out]; rfl, Hb.out⟩

theorem withinI_any (a b : Option Addr) (c d : Nat) (l m : List Int) (w : World) (hv : U32 w a c l) (hu : U32 w b d m) (hn : l.length ≤ 1000000) (hm : m.length ≤ 1000000) :
    Calls Try.prog 40 #[.slice a l.length c, .slice b m.length d] w fun e w' => e = .returned (.bool (withinI l m)) ∧ Below w.heap.size w w' := by
  go_enter Try.func40, Try.ntmps40
  go_wp2_with fail
  refine (allI_any a b c d l m _ hv hu hn hm).mono ?_
  rintro e w1 ⟨rfl, hb⟩
  have Hb := Lib.hid hb
  clear hb
  go_wp2_with fail
  go_ret
  exact ⟨rfl, Hb.out⟩

set_option maxHeartbeats 1000000 in
theorem equal_any (a b : Option Addr) (c d : Nat) (l m : List Int) (w : World) (hv : U32 w a c l) (hu : U32 w b d m) (hn : l.length ≤ 1000000) (hm : m.length ≤ 1000000) :
    Calls Try.prog 71 #[.slice a l.length c, .slice b m.length d] w fun e w' => e = .returned (.bool (decide (l = m))) ∧ Below w.heap.size w w' := by
  have Hv := Lib.hid hv
  have Hu := Lib.hid hu
  clear hv hu
  by_cases hl : l.length = m.length
  · have Hl := Lib.hid hl
    rw [← hl]
    clear hl
    go_enter Try.func71, Try.ntmps71
    go_wp2_with fail
    go_loopw [13] (fun j wr => ∃ k : Nat, k ≤ l.length ∧ j = .int .i64 k ∧ Hid (l.take k = m.take k) ∧ Below w.heap.size w wr) (fun j _ => l.length - (intOf j).toNat)
    case atStart => exact ⟨0, Nat.zero_le _, rfl, Lib.hid (by simp), Below.refl _ _⟩
    case round =>
      obtain ⟨k, hk, rfl, hle, hb⟩ := hrel
      have Hb := Lib.hid hb
      clear hb
      by_cases hlt : k < l.length
      · have hlm : k < m.length := by have := Hl.out; omega
        obtain ⟨x, hx⟩ : ∃ x, l[k]? = some x := ⟨l[k], by simp [hlt]⟩
        obtain ⟨y, hy⟩ : ∃ y, m[k]? = some y := ⟨m[k], by simp [hlm]⟩
        obtain ⟨ad, had, c0, hl0⟩ := (Hv.out.below Hb.out).at hx
        obtain ⟨ae, hae, c1, hl1⟩ := (Hu.out.below Hb.out).at hy
        subst had hae
        have Hx := Lib.hid hx
        have Hy := Lib.hid hy
        clear hx hy
        by_cases hxy : x = y
        · subst hxy
          go_wp2_with fail
          refine region_text [([0, 1, 2, 3, 4, 5, 6, 7, 8], false)] mixed (by kernel_rfl) ?_
          simp only [wpSegs, List.map_cons, List.map_nil, List.getD_cons_succ, List.getD_cons_zero]
          go_wp2_with fail
          refine And.intro (by kernel_rfl) ?_
          go_wp2_with fail
          go_roundw
          case rel => exact ⟨k + 1, by omega, by go_num, Lib.hid (by rw [take_snoc' Hx.out, take_snoc' Hy.out, hle.out]), below_drewN Hb.out _⟩
          case measure => simp [intOf]; omega
        · have hxy' : (x == y) = false := by simpa using hxy
          have He := Lib.hid (show decide (l = m) = false by simp; intro e; subst e; have := Hx.out.symm.trans Hy.out; simp at this; exact hxy this)
          go_wp2_with fail
          refine region_text [([0, 1, 2, 3, 4, 5, 6, 7, 8], false)] mixed (by kernel_rfl) ?_
          simp only [wpSegs, List.map_cons, List.map_nil, List.getD_cons_succ, List.getD_cons_zero]
          go_wp2_with fail
          refine And.intro (by kernel_rfl) ?_
          go_wp2_with fail
          go_ret
          exact ⟨by rw [He.out]; rfl, below_drewN Hb.out _⟩
      · have He := Lib.hid (show decide (l = m) = true by simp; exact take_ext k Hl.out (by omega) hle.out)
        go_wp2_with fail
        go_ret
        exact ⟨by rw [He.out]; rfl, Hb.out⟩
  · have He := Lib.hid (show decide (l = m) = false by simp; intro e; subst e; exact hl rfl)
    have hl' : ((l.length : Int) == (m.length : Int)) = false := by simp; omega
    go_enter Try.func71, Try.ntmps71
    go_wp2_with fail
    go_ret
    exact ⟨by rw [He.out]; rfl, Below.refl _ _⟩
end Go.Proofs.Ytblahapjdgncfaa
