/- Slices of dots, of items held against each other; leaves held against each other: contracts. -/
import Derived.Test.YtmabjghjkgicgaaLeafA
namespace Go.Proofs.Ytmabjghjkgicgaa
open Go.RowKit
set_option linter.unusedVariables false
set_option linter.unusedSimpArgs false

theorem take_ext {α : Type} {v u : List α} (k : Nat) (hl : v.length = u.length) (hk : v.length ≤ k) (h : v.take k = u.take k) : v = u := by
  rw [List.take_of_length_le hk, List.take_of_length_le (by omega)] at h
  exact h
theorem below_drewN {B : Nat} {w w' : World} (h : Below B w w') (n : Nat) : Below B w (w'.drewN n) := ⟨h.os, h.tape, h.output, h.size, h.block⟩
set_option maxHeartbeats 1000000 in
theorem equalD_any (a b : Option Addr) (c d : Nat) (l m : List Dt) (w : World) (hv : Vec w a c l) (hu : Vec w b d m) (hn : l.length ≤ 1000000) (hm : m.length ≤ 1000000) :
    Calls Try.prog 82 #[.slice a l.length c, .slice b m.length d] w fun e w' => ∃ q : Bool, e = .returned (.bool q) ∧ (q = true ↔ l = m) ∧ Below w.heap.size w w' := by
  have Hv := Lib.hid hv
  have Hu := Lib.hid hu
  clear hv hu
  by_cases hl : l.length = m.length
  · have Hl := Lib.hid hl
    rw [← hl]
    clear hl
    go_enter Try.func82, Try.ntmps82
    go_wp2_with fail
    go_loopw [13] (fun j wr => ∃ k : Nat, k ≤ l.length ∧ j = .int .i64 k ∧ Hid (l.take k = m.take k) ∧ Below w.heap.size w wr) (fun j _ => l.length - (intOf j).toNat)
    case atStart => exact ⟨0, Nat.zero_le _, rfl, Lib.hid (by simp), Below.refl _ _⟩
    case round =>
      obtain ⟨k, hk, rfl, hle, hb⟩ := hrel
      have Hb := Lib.hid hb
      clear hb
      by_cases hlt : k < l.length
      · have hlm : k < m.length := by have := Hl.out; omega
        obtain ⟨⟨⟨r, i⟩, s⟩, hx⟩ : ∃ x, l[k]? = some x := ⟨l[k], by simp [hlt]⟩
        obtain ⟨⟨⟨r', i'⟩, s'⟩, hy⟩ : ∃ y, m[k]? = some y := ⟨m[k], by simp [hlm]⟩
        obtain ⟨ad, had, d0, d1, d2, hl0⟩ := (Hv.out.below Hb.out).at hx
        obtain ⟨ae, hae, e0, e1, e2, hl1⟩ := (Hu.out.below Hb.out).at hy
        subst had hae
        dsimp only at d0 d1 d2 e0 e1 e2
        have Hx := Lib.hid hx
        have Hy := Lib.hid hy
        clear hx hy
        cases hq : eqD ((r, i), s) ((r', i'), s') with
        | true =>
          go_wp2_with fail
          refine region_text [([0, 1, 2, 3, 4, 5, 6, 7, 8], false)] mixed (by kernel_rfl) ?_
          simp only [wpSegs, List.map_cons, List.map_nil, List.getD_cons_succ, List.getD_cons_zero]
          go_wp2_with fail
          refine And.intro (by kernel_rfl) ?_
          go_wp2_with fail
          go_roundw
          case rel => exact ⟨k + 1, by omega, by go_num, Lib.hid (by rw [take_snoc' Hx.out, take_snoc' Hy.out, hle.out, (eqD_iff _ _).1 hq]), below_drewN Hb.out _⟩
          case measure => simp [intOf]; omega
        | false =>
          have He := Lib.hid (show ¬ l = m by intro e; subst e; have := Hx.out.symm.trans Hy.out; rw [Option.some.injEq, ← eqD_iff, hq] at this; cases this)
          go_wp2_with fail
          refine region_text [([0, 1, 2, 3, 4, 5, 6, 7, 8], false)] mixed (by kernel_rfl) ?_
          simp only [wpSegs, List.map_cons, List.map_nil, List.getD_cons_succ, List.getD_cons_zero]
          go_wp2_with fail
          refine And.intro (by kernel_rfl) ?_
          go_wp2_with fail
          go_ret
          exact ⟨false, rfl, by simp [He.out], below_drewN Hb.out _⟩
      · have He := Lib.hid (show l = m from take_ext k Hl.out (by omega) hle.out)
        go_wp2_with fail
        go_ret
        exact ⟨true, rfl, by simp [He.out], Hb.out⟩
  · have He := Lib.hid (show ¬ l = m from fun e => hl (by rw [e]))
    have hl' : ((l.length : Int) == (m.length : Int)) = false := by simp; omega
    go_enter Try.func82, Try.ntmps82
    go_wp2_with fail
    go_ret
    exact ⟨false, rfl, by simp [He.out], Below.refl _ _⟩
set_option maxHeartbeats 1000000 in
theorem equalI_any (a b : Option Addr) (c d : Nat) (l m : List It) (w : World) (hv : Its w a c l) (hu : Its w b d m) (hn : l.length ≤ 1000000) (hm : m.length ≤ 1000000) :
    Calls Try.prog 81 #[.slice a l.length c, .slice b m.length d] w fun e w' => ∃ q : Bool, e = .returned (.bool q) ∧ (q = true ↔ l = m) ∧ Below w.heap.size w w' := by
  have Hv := Lib.hid hv
  have Hu := Lib.hid hu
  clear hv hu
  by_cases hl : l.length = m.length
  · have Hl := Lib.hid hl
    rw [← hl]
    clear hl
    go_enter Try.func81, Try.ntmps81
    go_wp2_with fail
    go_loopw [13] (fun j wr => ∃ k : Nat, k ≤ l.length ∧ j = .int .i64 k ∧ Hid (l.take k = m.take k) ∧ Below w.heap.size w wr) (fun j _ => l.length - (intOf j).toNat)
    case atStart => exact ⟨0, Nat.zero_le _, rfl, Lib.hid (by simp), Below.refl _ _⟩
    case round =>
      obtain ⟨k, hk, rfl, hle, hb⟩ := hrel
      have Hb := Lib.hid hb
      clear hb
      by_cases hlt : k < l.length
      · have hlm : k < m.length := by have := Hl.out; omega
        obtain ⟨⟨t, ⟨⟨r, i⟩, s⟩, x⟩, hx⟩ : ∃ x, l[k]? = some x := ⟨l[k], by simp [hlt]⟩
        obtain ⟨⟨t', ⟨⟨r', i'⟩, s'⟩, x'⟩, hy⟩ : ∃ y, m[k]? = some y := ⟨m[k], by simp [hlm]⟩
        obtain ⟨ad, had, ⟨d0, d1, d2, d3, d4⟩, hl0⟩ := (Hv.out.below Hb.out).at hx
        obtain ⟨ae, hae, ⟨e0, e1, e2, e3, e4⟩, hl1⟩ := (Hu.out.below Hb.out).at hy
        subst had hae
        dsimp only at d0 d1 d2 d3 d4 e0 e1 e2 e3 e4
        have Hx := Lib.hid hx
        have Hy := Lib.hid hy
        clear hx hy
        cases hq : eqI ⟨t, ((r, i), s), x⟩ ⟨t', ((r', i'), s'), x'⟩ with
        | true =>
          go_wp2_with fail
          refine region_text [([0, 1, 2, 3, 4, 5, 6, 7, 8], false)] mixed (by kernel_rfl) ?_
          simp only [wpSegs, List.map_cons, List.map_nil, List.getD_cons_succ, List.getD_cons_zero]
          go_wp2_with fail
          refine And.intro (by kernel_rfl) ?_
          go_wp2_with fail
          go_roundw
          case rel => exact ⟨k + 1, by omega, by go_num, Lib.hid (by rw [take_snoc' Hx.out, take_snoc' Hy.out, hle.out, (eqI_iff _ _).1 hq]), below_drewN Hb.out _⟩
          case measure => simp [intOf]; omega
        | false =>
          have He := Lib.hid (show ¬ l = m by intro e; subst e; have := Hx.out.symm.trans Hy.out; rw [Option.some.injEq, ← eqI_iff, hq] at this; cases this)
          go_wp2_with fail
          refine region_text [([0, 1, 2, 3, 4, 5, 6, 7, 8], false)] mixed (by kernel_rfl) ?_
          simp only [wpSegs, List.map_cons, List.map_nil, List.getD_cons_succ, List.getD_cons_zero]
          go_wp2_with fail
          refine And.intro (by kernel_rfl) ?_
          go_wp2_with fail
          go_ret
          exact ⟨false, rfl, by simp [He.out], below_drewN Hb.out _⟩
      · have He := Lib.hid (show l = m from take_ext k Hl.out (by omega) hle.out)
        go_wp2_with fail
        go_ret
        exact ⟨true, rfl, by simp [He.out], Hb.out⟩
  · have He := Lib.hid (show ¬ l = m from fun e => hl (by rw [e]))
    have hl' : ((l.length : Int) == (m.length : Int)) = false := by simp; omega
    go_enter Try.func81, Try.ntmps81
    go_wp2_with fail
    go_ret
    exact ⟨false, rfl, by simp [He.out], Below.refl _ _⟩

/-- the value of a leaf whose items and tombs lie so -/
def lval (l : Lf) (ia : Option Addr) (ic : Nat) (ta : Option Addr) (tc : Nat) : Value :=
  .agg #[.int .u8 l.k, .int .i64 l.n, .int .u64 l.t, .int .u8 l.d.1.1, .int .u32 l.d.1.2, .int .u64 l.d.2, .string l.x, .slice ia l.items.length ic, .slice ta l.tombs.length tc]
structure LfAt (w : World) (l : Lf) (ia : Option Addr) (ic : Nat) (ta : Option Addr) (tc : Nat) : Prop where
  its : Its w ia ic l.items
  tms : Vec w ta tc l.tombs
  li : l.items.length ≤ 1000000
  lt : l.tombs.length ≤ 1000000
theorem LfAt.below {w w' : World} {l : Lf} {ia : Option Addr} {ic : Nat} {ta : Option Addr} {tc : Nat} (h : LfAt w l ia ic ta tc) (hb : Below w.heap.size w w') : LfAt w' l ia ic ta tc := ⟨h.its.below hb, h.tms.below hb, h.li, h.lt⟩
theorem Lf.ext' {a b : Lf} (h0 : a.k = b.k) (h1 : a.n = b.n) (h2 : a.t = b.t) (h3 : a.d = b.d) (h4 : a.x = b.x) (h5 : a.items = b.items) (h6 : a.tombs = b.tombs) : a = b := by
  obtain ⟨⟩ := a; obtain ⟨⟩ := b; simp_all
set_option maxHeartbeats 2000000 in
theorem sameL_any (l m : Lf) (ia ta ja ua : Option Addr) (ic tc jc uc : Nat) (w : World) (hl : LfAt w l ia ic ta tc) (hm : LfAt w m ja jc ua uc) :
    Calls Try.prog 54 #[lval l ia ic ta tc, lval m ja jc ua uc] w fun e w' => ∃ q : Bool, e = .returned (.bool q) ∧ (q = true ↔ l = m) ∧ Below w.heap.size w w' := by
  obtain ⟨k, n, t, ⟨⟨r, i⟩, s⟩, x, is, ts⟩ := l
  obtain ⟨k', n', t', ⟨⟨r', i'⟩, s'⟩, x', is', ts'⟩ := m
  have Hl := Lib.hid hl
  have Hm := Lib.hid hm
  clear hl hm
  simp only [lval]
  cases h0 : (k == k') with
  | false =>
    have He := Lib.hid (show ¬ (k = k') from by simpa using h0)
    go_enter Try.func54, Try.ntmps54
    go_wp2_with fail
    go_ret
    exact ⟨false, rfl, ⟨fun h => (by cases h), fun h => absurd (show k = k' from congrArg Lf.k h) He.out⟩, ((Below.refl _ _).alloc (Nat.le_refl _) _).alloc (by simp) _⟩
  | true =>
    cases h1 : (n == n') with
    | false =>
      have He := Lib.hid (show ¬ (n = n') from by simpa using h1)
      go_enter Try.func54, Try.ntmps54
      go_wp2_with fail
      go_ret
      exact ⟨false, rfl, ⟨fun h => (by cases h), fun h => absurd (show n = n' from congrArg Lf.n h) He.out⟩, ((Below.refl _ _).alloc (Nat.le_refl _) _).alloc (by simp) _⟩
    | true =>
      cases h2 : (t == t') with
      | false =>
        have He := Lib.hid (show ¬ (t = t') from by simpa using h2)
        go_enter Try.func54, Try.ntmps54
        go_wp2_with fail
        go_ret
        exact ⟨false, rfl, ⟨fun h => (by cases h), fun h => absurd (show t = t' from congrArg Lf.t h) He.out⟩, ((Below.refl _ _).alloc (Nat.le_refl _) _).alloc (by simp) _⟩
      | true =>
        cases h3 : eqD ((r, i), s) ((r', i'), s') with
        | false =>
          have He := Lib.hid (show ¬ (((r, i), s) = ((r', i'), s')) from fun e => by rw [(eqD_iff _ _).2 e] at h3; cases h3)
          go_enter Try.func54, Try.ntmps54
          go_wp2_with fail
          go_ret
          exact ⟨false, rfl, ⟨fun h => (by cases h), fun h => absurd (show ((r, i), s) = ((r', i'), s') from congrArg Lf.d h) He.out⟩, ((Below.refl _ _).alloc (Nat.le_refl _) _).alloc (by simp) _⟩
        | true =>
          cases h4 : (x.toList == x'.toList) with
          | false =>
            have He := Lib.hid (show ¬ (x = x') from fun e => by subst e; simp at h4)
            go_enter Try.func54, Try.ntmps54
            go_wp2_with fail
            go_ret
            exact ⟨false, rfl, ⟨fun h => (by cases h), fun h => absurd (show x = x' from congrArg Lf.x h) He.out⟩, ((Below.refl _ _).alloc (Nat.le_refl _) _).alloc (by simp) _⟩
          | true =>
            have E0 := Lib.hid (show k = k' by simpa using h0)
            have E1 := Lib.hid (show n = n' by simpa using h1)
            have E2 := Lib.hid (show t = t' by simpa using h2)
            have E3 := Lib.hid ((eqD_iff _ _).1 h3)
            have E4 := Lib.hid (show x = x' by rw [beq_bytes] at h4; simpa using h4)
            go_enter Try.func54, Try.ntmps54
            go_wp2_with fail
            refine (equalI_any ia ja ic jc is is' _ (Hl.out.its.below ?b1) (Hm.out.its.below ?b2) Hl.out.li Hm.out.li).mono ?_
            case b1 => exact ((Below.refl _ _).alloc (Nat.le_refl _) _).alloc (by simp) _
            case b2 => exact ((Below.refl _ _).alloc (Nat.le_refl _) _).alloc (by simp) _
            rintro e w1 ⟨q, rfl, hq, hb⟩
            obtain ⟨hx0, hx1, hz, hB⟩ := new2 hb
            have d0 := cells_at hx0
            have d1 := cells_at hx1
            have Hq := Lib.hid hq
            have HB := Lib.hid hB
            clear hq hb hB hx0 hx1
            cases q with
            | false =>
              go_wp2_with fail
              go_ret
              exact ⟨false, rfl, ⟨fun h => (by cases h), fun h => by have := Hq.out.2 (congrArg Lf.items h); cases this⟩, HB.out⟩
            | true =>
              go_wp2_with fail
              refine (equalD_any ta ua tc uc ts ts' _ (Hl.out.tms.below HB.out) (Hm.out.tms.below HB.out) Hl.out.lt Hm.out.lt).mono ?_
              rintro e w2 ⟨q, rfl, hq2, hb2⟩
              have Hq2 := Lib.hid hq2
              have HB2 := Lib.hid (HB.out.trans (hb2.mono HB.out.size))
              clear hq2 hb2
              go_wp2_with fail
              go_ret
              exact ⟨q, rfl, ⟨fun h => Lf.ext' E0.out E1.out E2.out E3.out E4.out (Hq.out.1 (by simp)) (Hq2.out.1 h), fun h => Hq2.out.2 (congrArg Lf.tombs h)⟩, HB2.out⟩
end Go.Proofs.Ytmabjghjkgicgaa
