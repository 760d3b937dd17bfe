/- leaf.twice, has: contracts. -/
import Derived.Test.YtmabjghjkgicgaaLeafB
namespace Go.Proofs.Ytmabjghjkgicgaa
open Go.RowKit
set_option linter.unusedVariables false
set_option linter.unusedSimpArgs false

/-- the cells of a dot's own block -/
def dblk (d : Dt) : Array Value := #[.int .u8 d.1.1, .int .u32 d.1.2, .int .u64 d.2]
theorem hasF_any (x : It) (d : Dt) (p : Nat) (w : World) (hp : w.heap[p]? = some (.cells (dblk d) 31 (0, 0))) :
    Calls Try.prog 108 #[.agg #[.int .u64 x.t, .int .u8 x.d.1.1, .int .u32 x.d.1.2, .int .u64 x.d.2, .string x.x], .pointer (some ⟨p, 0, none⟩)] w fun e w' => e = .returned (.bool (eqD x.d d)) ∧ Below w.heap.size w w' := by
  obtain ⟨t, ⟨⟨r, i⟩, s⟩, x⟩ := x
  obtain ⟨⟨r', i'⟩, s'⟩ := d
  have hlt := heap_lt hp
  have hp' := (heap_old w (.cells #[.int .u64 t, .int .u8 r, .int .u32 i, .int .u64 s, .string x] 58 (0, 0)) hlt).trans hp
  have d0 := cells_at hp'
  simp only [dblk] at d0
  clear hp hp' hlt
  go_enter Try.func108, Try.ntmps108
  go_wp2_with fail
  go_ret
  exact ⟨rfl, (Below.refl _ _).alloc (Nat.le_refl _) _⟩
theorem dots_snoc {l : List It} {k : Nat} {x : It} {d : Dt} (hx : l[k]? = some x) (h : d ∉ dotsOf (l.take k)) (hd : x.d ≠ d) : d ∉ dotsOf (l.take (k + 1)) := by
  rw [take_snoc' hx]
  simp only [dotsOf, List.map_append, List.mem_append, not_or] at *
  exact ⟨h, by simp; exact fun e => hd e.symm⟩
set_option maxHeartbeats 1000000 in
theorem indexI_any (a : Option Addr) (c : Nat) (l : List It) (d : Dt) (p : Nat) (w : World) (hv : Its w a c l) (hp : w.heap[p]? = some (.cells (dblk d) 31 (0, 0))) (hn : l.length ≤ 1000000) :
    Calls Try.prog 128 #[.slice a l.length c, .func (.func 108) #[] #[.pointer (some ⟨p, 0, none⟩)]] w fun e w' => ∃ k : Int, e = .returned (.int .i64 k) ∧ (0 ≤ k ↔ d ∈ dotsOf l) ∧ Below w.heap.size w w' := by
  have Hv := Lib.hid hv
  have Hp := Lib.hid hp
  clear hv hp
  have he := enters_of Try.func108 (by kernel_rfl) rfl
  go_enter Try.func128, Try.ntmps128
  go_wp2_with fail
  go_loopw [8] (fun j wr => ∃ k : Nat, k ≤ l.length ∧ j = .int .i64 k ∧ Hid (d ∉ dotsOf (l.take k)) ∧ Below w.heap.size w wr) (fun j _ => l.length - (intOf j).toNat)
  case atStart => exact ⟨0, Nat.zero_le _, rfl, Lib.hid (by simp [dotsOf]), Below.refl _ _⟩
  case round =>
    obtain ⟨k, hk, rfl, hle, hb⟩ := hrel
    have Hb := Lib.hid hb
    clear hb
    by_cases hlt : k < l.length
    · obtain ⟨x, hx⟩ : ∃ x, l[k]? = some x := ⟨l[k], by simp [hlt]⟩
      obtain ⟨ad, had, ⟨c0, c1, c2, c3, c4⟩, hl0⟩ := (Hv.out.below Hb.out).at hx
      subst had
      have Hx := Lib.hid hx
      clear hx
      go_wp2_with fail
      refine (hasF_any x d p _ ((Hb.out.block _ (heap_lt Hp.out)).trans Hp.out)).mono ?_
      rintro e w1 ⟨rfl, hb1⟩
      have HB1 := Lib.hid (Hb.out.trans (hb1.mono Hb.out.size))
      clear hb1
      cases hi : eqD x.d d with
      | true =>
        have He := Lib.hid (show d ∈ dotsOf l from mem_dotsOf.2 ⟨x, List.mem_of_getElem? Hx.out, (eqD_iff _ _).1 hi⟩)
        clear hi
        go_wp2_with fail
        go_ret
        exact ⟨k, rfl, ⟨fun _ => He.out, fun _ => by omega⟩, HB1.out⟩
      | false =>
        have Hi := Lib.hid (show x.d ≠ d from fun e => by rw [(eqD_iff _ _).2 e] at hi; cases hi)
        clear hi
        go_wp2_with fail
        go_roundw
        case rel => exact ⟨k + 1, by omega, by go_num, Lib.hid (dots_snoc Hx.out hle.out Hi.out), HB1.out⟩
        case measure => simp [intOf]; omega
    · have He := Lib.hid (show d ∉ dotsOf l by have := hle.out; rwa [List.take_of_length_le (by omega)] at this)
      go_wp2_with fail
      go_ret
      exact ⟨-1, rfl, ⟨fun h => by omega, fun h => absurd h He.out⟩, Hb.out⟩
theorem containsI_any (a : Option Addr) (c : Nat) (l : List It) (d : Dt) (p : Nat) (w : World) (hv : Its w a c l) (hp : w.heap[p]? = some (.cells (dblk d) 31 (0, 0))) (hn : l.length ≤ 1000000) :
    Calls Try.prog 107 #[.slice a l.length c, .func (.func 108) #[] #[.pointer (some ⟨p, 0, none⟩)]] w fun e w' => ∃ q : Bool, e = .returned (.bool q) ∧ (q = true ↔ d ∈ dotsOf l) ∧ Below w.heap.size w w' := by
  go_enter Try.func107, Try.ntmps107
  go_wp2_with fail
  refine (indexI_any a c l d p _ hv hp hn).mono ?_
  rintro e w1 ⟨k, rfl, hk, hb⟩
  have Hb := Lib.hid hb
  have Hk := Lib.hid hk
  clear hb hk
  go_wp2_with fail
  go_ret
  exact ⟨_, rfl, by rw [decide_eq_true_iff]; exact Hk.out, Hb.out⟩
theorem has_any (a : Option Addr) (c : Nat) (l : List It) (d : Dt) (w : World) (hv : Its w a c l) (hn : l.length ≤ 1000000) :
    Calls Try.prog 80 #[.slice a l.length c, .agg #[.int .u8 d.1.1, .int .u32 d.1.2, .int .u64 d.2]] w fun e w' => ∃ q : Bool, e = .returned (.bool q) ∧ (q = true ↔ d ∈ dotsOf l) ∧ Below w.heap.size w w' := by
  have Hv := Lib.hid hv
  clear hv
  go_enter Try.func80, Try.ntmps80
  go_wp2_with fail
  refine (containsI_any a c l d w.heap.size _ (Hv.out.below ((Below.refl _ _).alloc (Nat.le_refl _) _)) (heap_new _ _) hn).mono ?_
  rintro e w1 ⟨q, rfl, hq, hb⟩
  obtain ⟨_, _, hB⟩ := new1 hb
  have Hb := Lib.hid hB
  have Hq := Lib.hid hq
  clear hb hq hB
  go_wp2_with fail
  go_ret
  exact ⟨q, rfl, Hq.out, Hb.out⟩

theorem dotsOf_snoc (l : List It) (x : It) : dotsOf (l ++ [x]) = dotsOf l ++ [x.d] := by simp [dotsOf]
set_option maxRecDepth 100000 in
set_option maxHeartbeats 1000000 in
theorem twice_any (a : Option Addr) (c : Nat) (l : List It) (w : World) (hv : Its w a c l) (hok : okV (dotsOf l)) (hn : l.length ≤ 1000000) :
    Calls Try.prog 79 #[.slice a l.length c] w fun e w' => ∃ q : Bool, e = .returned (.bool q) ∧ (q = true ↔ ¬ (dotsOf l).Nodup) ∧ Below w.heap.size w w' := by
  have hmm := @run_makeMap Try.prog
  have Hv := Lib.hid hv
  clear hv
  go_enter Try.func79, Try.ntmps79
  go_wp2_with fail
  go_loopw [9] (fun j wr => ∃ k : Nat, k ≤ l.length ∧ j = .int .i64 k ∧ Hid (SeenAt wr w.heap.size (dotsOf (l.take k))) ∧ Below w.heap.size w wr) (fun j _ => l.length - (intOf j).toNat)
  case atStart => exact ⟨0, Nat.zero_le _, rfl, Lib.hid (SeenAt.made w), (Below.refl _ _).alloc (Nat.le_refl _) _⟩
  case round =>
    obtain ⟨k, hk, rfl, hs, hb⟩ := hrel
    have Hb := Lib.hid hb
    clear hb hmm
    by_cases hlt : k < l.length
    · obtain ⟨⟨t, ⟨⟨r, i⟩, s⟩, x⟩, hx⟩ : ∃ x, l[k]? = some x := ⟨l[k], by simp [hlt]⟩
      obtain ⟨ad, had, ⟨c0, c1, c2, c3, c4⟩, hl0⟩ := (Hv.out.below Hb.out).at hx
      subst had
      dsimp only at c0 c1 c2 c3 c4
      have Hok := Lib.hid (hok ((r, i), s) (mem_dotsOf.2 ⟨_, List.mem_of_getElem? hx, rfl⟩))
      have Hx := Lib.hid hx
      have hs1 := hs.out.lt
      have hlen : (dotsOf (l.take k)).length ≤ 1000000 := by simp [dotsOf]; omega
      have hcb := cntI_bd (dotsOf (l.take k)) ((r, i), s)
      obtain ⟨w2, w3, st, hr1, hr2, hr3, hr4, hs3, hC3⟩ := SeenAt.plus (w := (wr.alloc (.cells #[.int .u64 t, .int .u8 r, .int .u32 i, .int .u64 s, .string x] 58 (0, 0))).drew) (hs.out.below ((Below.refl _ _).alloc (Nat.le_refl _) _).drew) Hok.out
      have HB3 : Hid (Below w.heap.size w w3) := Lib.hid (((Hb.out.alloc Hb.out.size _).drew).trans (hC3.below (by have := Hb.out.size; simp; omega) (by simp)))
      have Hs3 : Hid (SeenAt w3 w.heap.size (dotsOf (l.take (k + 1)))) := Lib.hid (by rw [take_snoc' Hx.out, dotsOf_snoc]; exact hs3)
      clear hx hs hs3 hC3
      go_wp2_with fail
      refine region_tree (.seg [0, 1, 2] false (.fork (.seg [3, 4, 5, 6, 7] false .done) (.seg [5, 6, 3, 4, 7] false .done))) mixed (by kernel_rfl) ?_
      simp only [wpSg, List.map_cons, List.map_nil, List.getD_cons_succ, List.getD_cons_zero]
      go_wp2_with fail
      refine And.intro ?_ ?_
      all_goals
        go_wp2_with fail
        refine And.intro (by kernel_rfl) ?_
        go_wp2_with fail
        go_roundw
        case rel => exact ⟨k + 1, by omega, by go_num, Hs3, HB3.out⟩
        case measure => simp [intOf]; omega
    · have e : l.take k = l := List.take_of_length_le (by omega)
      have hs' : SeenAt wr w.heap.size (dotsOf l) := by have := hs.out; rwa [e] at this
      have hlen := hs'.len 3 (by simp [dotsOf]; omega)
      have hle := distinct_le (dotsOf l)
      have hnd := distinct_nodup (dotsOf l)
      have hll : (dotsOf l).length = l.length := by simp [dotsOf]
      have Hn := Lib.hid hnd
      clear e hs' hs hnd
      go_wp2_with fail
      go_ret
      refine ⟨_, rfl, ?_, Hb.out⟩
      rw [decide_eq_true_iff, ← Hn.out]
      omega
end Go.Proofs.Ytmabjghjkgicgaa
