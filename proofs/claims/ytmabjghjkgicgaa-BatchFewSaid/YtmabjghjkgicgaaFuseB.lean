/- slices.Concat of two slices, at dots and at items; slices.Contains at dots; slices.Clone at items: contracts. -/
import Derived.Test.YtmabjghjkgicgaaFuseA
import Derived.Test.YtmabjghjkgicgaaRefLA
namespace Go.Proofs.Ytmabjghjkgicgaa
open Go.RowKit
set_option linter.unusedVariables false
set_option linter.unusedSimpArgs false

set_option maxRecDepth 100000 in
set_option maxHeartbeats 2000000 in
theorem concatI_any (a b : Option Addr) (c d g : Nat) (l m : List It) (w : World) (hv : Its w a c l) (hu : Its w b d m) (hg : w.heap[g]? = some (.cells #[.slice a l.length c, .slice b m.length d] 38 (0, 0))) (hn : l.length ≤ 1000000) (hm : m.length ≤ 1000000) :
    Calls Try.prog 92 #[.slice (some ⟨g, 0, none⟩) 2 2] w fun e w' => ∃ a' c' v', e = .returned (.slice a' v'.length c') ∧ v' = l ++ m ∧ OwnI w' w.heap.size a' c' v' ∧ Below w.heap.size w w' := by
  have Hv := Lib.hid hv
  have Hu := Lib.hid hu
  have Hg := Lib.hid hg
  have g0 := cells_at hg
  clear hv hu hg
  go_enter Try.func92, Try.ntmps92
  go_wp2_with fail
  go_loopw [3, 11] (fun s j wr => w = wr ∧ ((j = .int .i64 0 ∧ s = .int .i64 0) ∨ (j = .int .i64 1 ∧ s = .int .i64 (l.length : Int)) ∨ (j = .int .i64 2 ∧ s = .int .i64 ((l.length : Int) + (m.length : Int))))) (fun _ j _ => 2 - (intOf j).toNat)
  case atStart => exact ⟨rfl, .inl ⟨rfl, rfl⟩⟩
  case round =>
    obtain ⟨hw, ⟨rfl, rfl⟩ | ⟨rfl, rfl⟩ | ⟨rfl, rfl⟩⟩ := hrel <;> subst hw
    · go_wp2_with fail
      go_roundw
      case rel => exact ⟨by trivial, .inr (.inl ⟨by go_num, by first | trivial | go_num⟩)⟩
      case measure => simp [intOf]
    · go_wp2_with fail
      go_roundw
      case rel => exact ⟨by trivial, .inr (.inr ⟨by go_num, by first | trivial | go_num⟩)⟩
      case measure => simp [intOf]
    · have hlen : ((l.length : Int) + (m.length : Int)) = ((l.length + m.length : Nat) : Int) := by omega
      rw [hlen]
      have Hl := Lib.hid hlen
      clear hlen
      go_wp2_with fail
      refine (growI_any (l.length + m.length) _ (by omega)).mono ?_
      rintro e w1 ⟨a1, c1, rfl, ho, hb⟩
      have Ho := Lib.hid ho
      have Hb := Lib.hid hb
      have g1 := cells_at ((hb.block _ (heap_lt Hg.out)).trans Hg.out)
      clear ho hb g0
      go_wp2_with fail
      go_loopw [6, 27] (fun s j wr => ∃ (va : Option Addr) (vc : Nat) (v : List It), s = .slice va v.length vc ∧ v.length ≤ 2000000 ∧ Hid (OwnI wr w.heap.size va vc v) ∧ Hid (Below w.heap.size w wr) ∧ ((j = .int .i64 0 ∧ Hid (v = [])) ∨ (j = .int .i64 1 ∧ Hid (v = l)) ∨ (j = .int .i64 2 ∧ Hid (v = l ++ m)))) (fun _ j _ => 2 - (intOf j).toNat)
      case atStart => exact ⟨a1, c1, [], rfl, by simp, Ho, Hb, .inl ⟨rfl, Lib.hid rfl⟩⟩
      case round =>
        obtain ⟨va, vc, v, rfl, hv2, Ho2, Hb2, ⟨rfl, hv⟩ | ⟨rfl, hv⟩ | ⟨rfl, hv⟩⟩ := hrel
        · have hz2 := Hb2.out.size
          have hvl : v.length ≤ 0 := by rw [hv.out]; simp
          have g2 := cells_at ((Hb2.out.block _ (heap_lt Hg.out)).trans Hg.out)
          go_wp2_with (at_builtin; go_must (refine wpList_appI rfl _ _ rfl w.heap.size va vc v rfl Ho2.out a c l rfl (Hv.out.below Hb2.out) (by omega) hz2 ?_))
          intro v' a' c' w3 hv' ho3 hb3 _
          have Hv' := Lib.hid hv'
          have hl' : v'.length ≤ 2000000 := by rw [hv']; simp; omega
          have Ho3 := Lib.hid ho3
          have Hb3 := Lib.hid (Hb2.out.trans hb3)
          clear hv' ho3 hb3
          go_wp2_with fail
          go_roundw
          case rel => exact ⟨a', c', v', rfl, hl', Ho3, Hb3, .inr (.inl ⟨by go_num, Lib.hid (by rw [Hv'.out, hv.out]; rfl)⟩)⟩
          case measure => simp [intOf]
        · have hz2 := Hb2.out.size
          have hvl : v.length ≤ l.length := by rw [hv.out]; exact Nat.le_refl _
          have g2 := cells_at ((Hb2.out.block _ (heap_lt Hg.out)).trans Hg.out)
          go_wp2_with (at_builtin; go_must (refine wpList_appI rfl _ _ rfl w.heap.size va vc v rfl Ho2.out b d m rfl (Hu.out.below Hb2.out) (by omega) hz2 ?_))
          intro v' a' c' w3 hv' ho3 hb3 _
          have Hv' := Lib.hid hv'
          have hl' : v'.length ≤ 2000000 := by rw [hv']; simp; omega
          have Ho3 := Lib.hid ho3
          have Hb3 := Lib.hid (Hb2.out.trans hb3)
          clear hv' ho3 hb3
          go_wp2_with fail
          go_roundw
          case rel => exact ⟨a', c', v', rfl, hl', Ho3, Hb3, .inr (.inr ⟨by go_num, Lib.hid (by rw [Hv'.out, hv.out])⟩)⟩
          case measure => simp [intOf]
        · go_wp2_with fail
          go_ret
          exact ⟨va, vc, v, rfl, hv.out, Ho2.out, Hb2.out⟩

set_option maxRecDepth 100000 in
set_option maxHeartbeats 2000000 in
theorem concatD_any (a b : Option Addr) (c d g : Nat) (l m : List Dt) (w : World) (hv : Vec w a c l) (hu : Vec w b d m) (hg : w.heap[g]? = some (.cells #[.slice a l.length c, .slice b m.length d] 33 (0, 0))) (hn : l.length ≤ 1000000) (hm : m.length ≤ 1000000) :
    Calls Try.prog 56 #[.slice (some ⟨g, 0, none⟩) 2 2] w fun e w' => ∃ a' c' v', e = .returned (.slice a' v'.length c') ∧ v' = l ++ m ∧ OwnD w' w.heap.size a' c' v' ∧ Below w.heap.size w w' := by
  have Hv := Lib.hid hv
  have Hu := Lib.hid hu
  have Hg := Lib.hid hg
  have g0 := cells_at hg
  clear hv hu hg
  go_enter Try.func56, Try.ntmps56
  go_wp2_with fail
  go_loopw [3, 11] (fun s j wr => w = wr ∧ ((j = .int .i64 0 ∧ s = .int .i64 0) ∨ (j = .int .i64 1 ∧ s = .int .i64 (l.length : Int)) ∨ (j = .int .i64 2 ∧ s = .int .i64 ((l.length : Int) + (m.length : Int))))) (fun _ j _ => 2 - (intOf j).toNat)
  case atStart => exact ⟨rfl, .inl ⟨rfl, rfl⟩⟩
  case round =>
    obtain ⟨hw, ⟨rfl, rfl⟩ | ⟨rfl, rfl⟩ | ⟨rfl, rfl⟩⟩ := hrel <;> subst hw
    · go_wp2_with fail
      go_roundw
      case rel => exact ⟨by trivial, .inr (.inl ⟨by go_num, by first | trivial | go_num⟩)⟩
      case measure => simp [intOf]
    · go_wp2_with fail
      go_roundw
      case rel => exact ⟨by trivial, .inr (.inr ⟨by go_num, by first | trivial | go_num⟩)⟩
      case measure => simp [intOf]
    · have hlen : ((l.length : Int) + (m.length : Int)) = ((l.length + m.length : Nat) : Int) := by omega
      rw [hlen]
      have Hl := Lib.hid hlen
      clear hlen
      go_wp2_with fail
      refine (growD_any (l.length + m.length) _ (by omega)).mono ?_
      rintro e w1 ⟨a1, c1, rfl, ho, hb⟩
      have Ho := Lib.hid ho
      have Hb := Lib.hid hb
      have g1 := cells_at ((hb.block _ (heap_lt Hg.out)).trans Hg.out)
      clear ho hb g0
      go_wp2_with fail
      go_loopw [6, 27] (fun s j wr => ∃ (va : Option Addr) (vc : Nat) (v : List Dt), s = .slice va v.length vc ∧ v.length ≤ 2000000 ∧ Hid (OwnD wr w.heap.size va vc v) ∧ Hid (Below w.heap.size w wr) ∧ ((j = .int .i64 0 ∧ Hid (v = [])) ∨ (j = .int .i64 1 ∧ Hid (v = l)) ∨ (j = .int .i64 2 ∧ Hid (v = l ++ m)))) (fun _ j _ => 2 - (intOf j).toNat)
      case atStart => exact ⟨a1, c1, [], rfl, by simp, Ho, Hb, .inl ⟨rfl, Lib.hid rfl⟩⟩
      case round =>
        obtain ⟨va, vc, v, rfl, hv2, Ho2, Hb2, ⟨rfl, hv⟩ | ⟨rfl, hv⟩ | ⟨rfl, hv⟩⟩ := hrel
        · have hz2 := Hb2.out.size
          have hvl : v.length ≤ 0 := by rw [hv.out]; simp
          have g2 := cells_at ((Hb2.out.block _ (heap_lt Hg.out)).trans Hg.out)
          go_wp2_with (at_builtin; go_must (refine wpList_appD rfl _ _ rfl w.heap.size va vc v rfl Ho2.out a c l rfl (Hv.out.below Hb2.out) (by omega) hz2 ?_))
          intro v' a' c' w3 hv' ho3 hb3 _
          have Hv' := Lib.hid hv'
          have hl' : v'.length ≤ 2000000 := by rw [hv']; simp; omega
          have Ho3 := Lib.hid ho3
          have Hb3 := Lib.hid (Hb2.out.trans hb3)
          clear hv' ho3 hb3
          go_wp2_with fail
          go_roundw
          case rel => exact ⟨a', c', v', rfl, hl', Ho3, Hb3, .inr (.inl ⟨by go_num, Lib.hid (by rw [Hv'.out, hv.out]; rfl)⟩)⟩
          case measure => simp [intOf]
        · have hz2 := Hb2.out.size
          have hvl : v.length ≤ l.length := by rw [hv.out]; exact Nat.le_refl _
          have g2 := cells_at ((Hb2.out.block _ (heap_lt Hg.out)).trans Hg.out)
          go_wp2_with (at_builtin; go_must (refine wpList_appD rfl _ _ rfl w.heap.size va vc v rfl Ho2.out b d m rfl (Hu.out.below Hb2.out) (by omega) hz2 ?_))
          intro v' a' c' w3 hv' ho3 hb3 _
          have Hv' := Lib.hid hv'
          have hl' : v'.length ≤ 2000000 := by rw [hv']; simp; omega
          have Ho3 := Lib.hid ho3
          have Hb3 := Lib.hid (Hb2.out.trans hb3)
          clear hv' ho3 hb3
          go_wp2_with fail
          go_roundw
          case rel => exact ⟨a', c', v', rfl, hl', Ho3, Hb3, .inr (.inr ⟨by go_num, Lib.hid (by rw [Hv'.out, hv.out])⟩)⟩
          case measure => simp [intOf]
        · go_wp2_with fail
          go_ret
          exact ⟨va, vc, v, rfl, hv.out, Ho2.out, Hb2.out⟩

theorem indexD_any (a : Option Addr) (c : Nat) (l : List Dt) (d : Dt) (w : World) (hv : Vec w a c l) (hn : l.length ≤ 3000000) :
    Calls Try.prog 122 #[.slice a l.length c, .agg #[.int .u8 d.1.1, .int .u32 d.1.2, .int .u64 d.2]] w fun e w' => ∃ k : Int, e = .returned (.int .i64 k) ∧ (0 ≤ k ↔ d ∈ l) ∧ Below w.heap.size w w' := by
  obtain ⟨⟨dr, di⟩, ds⟩ := d
  have Hv := Lib.hid hv
  clear hv
  go_enter Try.func122, Try.ntmps122
  go_wp2_with fail
  go_loopw [8] (fun j wr => ∃ k : Nat, k ≤ l.length ∧ j = .int .i64 k ∧ Hid (((dr, di), ds) ∉ l.take k) ∧ Hid (Below (w.alloc (.cells #[.int .u8 dr, .int .u32 di, .int .u64 ds] 31)).heap.size (w.alloc (.cells #[.int .u8 dr, .int .u32 di, .int .u64 ds] 31)) wr)) (fun j _ => l.length - (intOf j).toNat)
  case atStart => exact ⟨0, Nat.zero_le _, rfl, Lib.hid (by simp), Lib.hid (Below.refl _ _)⟩
  case round =>
    obtain ⟨k, hk, rfl, hle, hb⟩ := hrel
    obtain ⟨hx0, hs0, hbb⟩ := new1 hb.out
    have d0 := cells_at hx0
    have Hb := Lib.hid hbb
    have HB := Lib.hid hb.out
    clear hb hbb hx0
    by_cases hlt : k < l.length
    · obtain ⟨⟨⟨r, i⟩, s⟩, hx⟩ : ∃ x, l[k]? = some x := ⟨l[k], by simp [hlt]⟩
      obtain ⟨ad, had, c0, c1, c2, hl0⟩ := (Hv.out.below Hb.out).at hx
      subst had
      dsimp only at c0 c1 c2
      have Hx := Lib.hid hx
      clear hx
      cases hi : eqD ((dr, di), ds) ((r, i), s) with
      | true =>
        have He := Lib.hid (show ((dr, di), ds) ∈ l from (eqD_iff _ _).1 hi ▸ List.mem_of_getElem? Hx.out)
        go_wp2_with fail
        refine region_text [([0, 1, 2, 3, 4, 5], false)] mixed (by kernel_rfl) ?_
        simp only [wpSegs, List.map_cons, List.map_nil, List.getD_cons_succ, List.getD_cons_zero]
        go_wp2_with fail
        refine And.intro (by kernel_rfl) ?_
        go_wp2_with fail
        go_ret
        exact ⟨k, rfl, ⟨fun _ => He.out, fun _ => by omega⟩, below_drewN Hb.out _⟩
      | false =>
        have Hi := Lib.hid (show ((r, i), s) ≠ ((dr, di), ds) from fun e => by rw [(eqD_iff _ _).2 e.symm] at hi; cases hi)
        go_wp2_with fail
        refine region_text [([0, 1, 2, 3, 4, 5], false)] mixed (by kernel_rfl) ?_
        simp only [wpSegs, List.map_cons, List.map_nil, List.getD_cons_succ, List.getD_cons_zero]
        go_wp2_with fail
        refine And.intro (by kernel_rfl) ?_
        go_wp2_with fail
        go_roundw
        case rel => exact ⟨k + 1, by omega, by go_num, Lib.hid (not_tomb_snoc Hx.out hle.out Hi.out), Lib.hid (below_drewN HB.out _)⟩
        case measure => simp [intOf]; omega
    · have He := Lib.hid (show ((dr, di), ds) ∉ l by have := hle.out; rwa [List.take_of_length_le (by omega)] at this)
      go_wp2_with fail
      go_ret
      exact ⟨-1, rfl, ⟨fun h => by omega, fun h => absurd h He.out⟩, Hb.out⟩
theorem containsD_any (a : Option Addr) (c : Nat) (l : List Dt) (d : Dt) (w : World) (hv : Vec w a c l) (hn : l.length ≤ 3000000) :
    Calls Try.prog 91 #[.slice a l.length c, .agg #[.int .u8 d.1.1, .int .u32 d.1.2, .int .u64 d.2]] w fun e w' => ∃ q : Bool, e = .returned (.bool q) ∧ (q = true ↔ d ∈ l) ∧ Below w.heap.size w w' := by
  have Hv := Lib.hid hv
  clear hv
  go_enter Try.func91, Try.ntmps91
  go_wp2_with fail
  refine (indexD_any a c l d _ (Hv.out.below ((Below.refl _ _).alloc (Nat.le_refl _) _)) hn).mono ?_
  rintro e w1 ⟨k, rfl, hk, hb⟩
  obtain ⟨_, _, hB⟩ := new1 hb
  have Hb := Lib.hid hB
  have Hk := Lib.hid hk
  clear hb hk hB
  go_wp2_with fail
  go_ret
  exact ⟨_, rfl, by rw [decide_eq_true_iff]; exact Hk.out, Hb.out⟩
set_option maxRecDepth 100000 in
set_option maxHeartbeats 1000000 in
theorem cloneI_any (a : Option Addr) (c : Nat) (l : List It) (w : World) (hv : Its w a c l) (hn : l.length ≤ 1000000) :
    Calls Try.prog 45 #[.slice a l.length c] w fun e w' => ∃ a' c' v', e = .returned (.slice a' v'.length c') ∧ v' = l ∧ OwnI w' w.heap.size a' c' v' ∧ Below w.heap.size w w' := by
  have Hv := Lib.hid hv
  have heq := fun (w : World) (a : Option Addr) (n c : Nat) => Lib.run_eql_slice_nil (P := Try.prog) w 38 58 a n c 0 0 Try.underlying38
  cases a with
  | none =>
    obtain ⟨h1, h2, h3, ⟨_, h4, h5⟩ | ⟨b, hb, _⟩⟩ := hv
    · subst h5
      obtain rfl : l = [] := List.eq_nil_of_length_eq_zero h4
      clear h1 h2 h3 h4 Hv
      go_enter Try.func45, Try.ntmps45
      go_wp2_with fail
      go_ret
      exact ⟨none, 0, [], rfl, rfl, OwnI.nil _ _, Below.refl _ _⟩
    · cases hb
  | some ad =>
    clear hv
    go_enter Try.func45, Try.ntmps45
    go_wp2_with (at_builtin; go_must (refine wpList_appI rfl _ _ rfl w.heap.size (some ⟨w.heap.size, 0, none⟩) 0 [] rfl (OwnI.made w (Nat.le_refl _)) (some ad) c l rfl (Hv.out.below ((Below.refl _ _).alloc (Nat.le_refl _) _)) ?n1 ?b1 ?_))
    case n1 => simp; omega
    case b1 => simp
    intro v' a' c' w2 hv' ho2 hb2 _
    have Hv' := Lib.hid hv'
    have HB2 : Hid (Below w.heap.size w w2) := Lib.hid (((Below.refl _ _).alloc (Nat.le_refl _) _).trans hb2)
    have Ho2 := Lib.hid ho2
    clear hv' ho2 hb2
    go_wp2_with fail
    go_ret
    exact ⟨a', c', v', rfl, by rw [Hv'.out], Ho2.out, HB2.out⟩
end Go.Proofs.Ytmabjghjkgicgaa
