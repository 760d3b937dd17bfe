/- The reference's Ahead, Item, Tomb, Left, Lay, Bury (varveref05): contracts. -/
import Derived.Test.YtmabjghjkgicgaaGreatItsA
namespace Go.Proofs.YtmabjghjkgicgaaGreat
open Go.RowKit
set_option linter.unusedVariables false
set_option linter.unusedSimpArgs false

theorem rahead_any (t : Int) (d : Dt) (u : Int) (o : Dt) (w : World) :
    Calls Tryz.prog 56 #[.int .u64 t, .agg #[.int .u8 d.1.1, .int .u32 d.1.2, .int .u64 d.2], .int .u64 u, .agg #[.int .u8 o.1.1, .int .u32 o.1.2, .int .u64 o.2]] w fun e w' => e = .returned (.bool (aheadT t d u o)) ∧ Below w.heap.size w w' := by
  by_cases h : t = u
  · subst h
    have He := Lib.hid (show aheadT t d t o = lessD d o by simp [aheadT])
    go_enter Tryz.func56, Tryz.ntmps56
    go_wp2_with fail
    refine (rless_any _ _ _ _ _ _ _).mono ?_
    rintro e w1 ⟨rfl, hb⟩
    have HB : Hid (Below w.heap.size w w1) := Lib.hid ((((Below.refl _ _).alloc (Nat.le_refl _) _).alloc (by simp) _).trans (hb.mono (by simp; omega)))
    clear hb
    go_wp2_with fail
    go_ret
    exact ⟨by rw [He.out]; rfl, HB.out⟩
  · have h' : (t != u) = true := by simpa using h
    have He := Lib.hid (show aheadT t d u o = decide (t < u) by simp [aheadT, h])
    go_enter Tryz.func56, Tryz.ntmps56
    go_wp2_with fail
    go_ret
    exact ⟨by rw [He.out]; rfl, ((Below.refl _ _).alloc (Nat.le_refl _) _).alloc (by simp) _⟩

theorem not_tomb_snoc {l : List Dt} {k : Nat} {x d : Dt} (hx : l[k]? = some x) (h : d ∉ l.take k) (hd : x ≠ d) : d ∉ l.take (k + 1) := by
  rw [take_snoc' hx]
  simp only [List.mem_append, List.mem_singleton, not_or]
  exact ⟨h, fun e => hd e.symm⟩
set_option maxHeartbeats 1000000 in
theorem rtomb_any (a : Option Addr) (c : Nat) (l : List Dt) (d : Dt) (w : World) (hv : Vec w a c l) (hn : l.length ≤ 3000000) :
    Calls Tryz.prog 55 #[.slice a l.length c, .agg #[.int .u8 d.1.1, .int .u32 d.1.2, .int .u64 d.2]] w fun e w' => ∃ q : Bool, e = .returned (.bool q) ∧ (q = true ↔ d ∈ l) ∧ Below w.heap.size w w' := by
  obtain ⟨⟨dr, di⟩, ds⟩ := d
  have Hv := Lib.hid hv
  clear hv
  go_enter Tryz.func55, Tryz.ntmps55
  go_wp2_with fail
  go_loopw [5] (fun j wr => ∃ k : Nat, k ≤ l.length ∧ j = .int .i64 k ∧ Hid (((dr, di), ds) ∉ l.take k) ∧ Hid (Below (w.alloc (.cells #[.int .u8 dr, .int .u32 di, .int .u64 ds] 44)).heap.size (w.alloc (.cells #[.int .u8 dr, .int .u32 di, .int .u64 ds] 44)) wr)) (fun j _ => l.length - (intOf j).toNat)
  case atStart => exact ⟨0, Nat.zero_le _, rfl, Lib.hid (by simp), Lib.hid (Below.refl _ _)⟩
  case round =>
    obtain ⟨k, hk, rfl, hle, hb⟩ := hrel
    obtain ⟨hx0, hs0, hbb⟩ := new1 hb.out
    have d0 := cells_at hx0
    have Hb := Lib.hid hbb
    have HB := Lib.hid hb.out
    clear hb hbb hx0
    by_cases hlt : k < l.length
    · obtain ⟨⟨⟨r, i⟩, s⟩, hx⟩ : ∃ x, l[k]? = some x := ⟨l[k], by simp [hlt]⟩
      obtain ⟨ad, had, c0, c1, c2, hl0⟩ := (Hv.out.below Hb.out).at hx
      subst had
      dsimp only at c0 c1 c2
      have Hx := Lib.hid hx
      clear hx
      cases hi : eqD ((r, i), s) ((dr, di), ds) with
      | true =>
        have He := Lib.hid (show ((dr, di), ds) ∈ l from (eqD_iff _ _).1 hi ▸ List.mem_of_getElem? Hx.out)
        go_wp2_with fail
        refine region_text [([0, 1, 2, 3, 4, 5], false)] mixed (by kernel_rfl) ?_
        simp only [wpSegs, List.map_cons, List.map_nil, List.getD_cons_succ, List.getD_cons_zero]
        go_wp2_with fail
        refine And.intro (by kernel_rfl) ?_
        go_wp2_with fail
        go_ret
        exact ⟨true, rfl, true_iff' He.out, below_drewN Hb.out _⟩
      | false =>
        have Hi := Lib.hid (show ((r, i), s) ≠ ((dr, di), ds) from fun e => by rw [(eqD_iff _ _).2 e] at hi; cases hi)
        go_wp2_with fail
        refine region_text [([0, 1, 2, 3, 4, 5], false)] mixed (by kernel_rfl) ?_
        simp only [wpSegs, List.map_cons, List.map_nil, List.getD_cons_succ, List.getD_cons_zero]
        go_wp2_with fail
        refine And.intro (by kernel_rfl) ?_
        go_wp2_with fail
        go_roundw
        case rel => exact ⟨k + 1, by omega, by go_num, Lib.hid (not_tomb_snoc Hx.out hle.out Hi.out), Lib.hid (below_drewN HB.out _)⟩
        case measure => simp [intOf]; omega
    · have He := Lib.hid (show ((dr, di), ds) ∉ l by have := hle.out; rwa [List.take_of_length_le (by omega)] at this)
      go_wp2_with fail
      go_ret
      exact ⟨false, rfl, false_iff' He.out, Hb.out⟩
/-- where a dot's item stands -/
def Stands (l : List It) (d : Dt) (k : Int) : Prop := (k = -1 ∧ d ∉ dotsOf l) ∨ ∃ (j : Nat) (x : It), k = j ∧ l[j]? = some x ∧ x.d = d ∧ d ∉ dotsOf (l.take j)
theorem Stands.iff {l : List It} {d : Dt} {k : Int} (h : Stands l d k) : 0 ≤ k ↔ d ∈ dotsOf l := by
  rcases h with ⟨rfl, h⟩ | ⟨j, x, rfl, h1, h2, _⟩
  · exact ⟨fun h' => by omega, fun h' => absurd h' h⟩
  · exact ⟨fun _ => mem_dotsOf.2 ⟨x, List.mem_of_getElem? h1, h2⟩, fun _ => by omega⟩
set_option maxHeartbeats 1000000 in
theorem ritem_any (a : Option Addr) (c : Nat) (l : List It) (d : Dt) (w : World) (hv : Its w a c l) (hn : l.length ≤ 3000000) :
    Calls Tryz.prog 54 #[.slice a l.length c, .agg #[.int .u8 d.1.1, .int .u32 d.1.2, .int .u64 d.2]] w fun e w' => ∃ k : Int, e = .returned (.int .i64 k) ∧ Stands l d k ∧ Below w.heap.size w w' := by
  obtain ⟨⟨dr, di⟩, ds⟩ := d
  have Hv := Lib.hid hv
  clear hv
  go_enter Tryz.func54, Tryz.ntmps54
  go_wp2_with fail
  go_loopw [5] (fun j wr => ∃ k : Nat, k ≤ l.length ∧ j = .int .i64 k ∧ Hid (((dr, di), ds) ∉ dotsOf (l.take k)) ∧ Hid (Below (w.alloc (.cells #[.int .u8 dr, .int .u32 di, .int .u64 ds] 44)).heap.size (w.alloc (.cells #[.int .u8 dr, .int .u32 di, .int .u64 ds] 44)) wr)) (fun j _ => l.length - (intOf j).toNat)
  case atStart => exact ⟨0, Nat.zero_le _, rfl, Lib.hid (by simp [dotsOf]), Lib.hid (Below.refl _ _)⟩
  case round =>
    obtain ⟨k, hk, rfl, hle, hb⟩ := hrel
    obtain ⟨hx0, hs0, hbb⟩ := new1 hb.out
    have d0 := cells_at hx0
    have Hb := Lib.hid hbb
    have HB := Lib.hid hb.out
    clear hb hbb hx0
    by_cases hlt : k < l.length
    · obtain ⟨⟨t, ⟨⟨r, i⟩, s⟩, x⟩, hx⟩ : ∃ x, l[k]? = some x := ⟨l[k], by simp [hlt]⟩
      obtain ⟨ad, had, ⟨c0, c1, c2, c3, c4⟩, hl0⟩ := (Hv.out.below Hb.out).at hx
      subst had
      dsimp only at c0 c1 c2 c3 c4
      have Hx := Lib.hid hx
      clear hx
      cases hi : eqD ((r, i), s) ((dr, di), ds) with
      | true =>
        go_wp2_with fail
        refine region_text [([0, 1, 2, 3, 4, 5, 6], false)] mixed (by kernel_rfl) ?_
        simp only [wpSegs, List.map_cons, List.map_nil, List.getD_cons_succ, List.getD_cons_zero]
        go_wp2_with fail
        refine And.intro (by kernel_rfl) ?_
        go_wp2_with fail
        go_ret
        exact ⟨k, rfl, .inr ⟨k, _, rfl, Hx.out, (eqD_iff _ _).1 hi, hle.out⟩, below_drewN Hb.out _⟩
      | false =>
        have Hi := Lib.hid (show ((r, i), s) ≠ ((dr, di), ds) from fun e => by rw [(eqD_iff _ _).2 e] at hi; cases hi)
        go_wp2_with fail
        refine region_text [([0, 1, 2, 3, 4, 5, 6], false)] mixed (by kernel_rfl) ?_
        simp only [wpSegs, List.map_cons, List.map_nil, List.getD_cons_succ, List.getD_cons_zero]
        go_wp2_with fail
        refine And.intro (by kernel_rfl) ?_
        go_wp2_with fail
        go_roundw
        case rel => exact ⟨k + 1, by omega, by go_num, Lib.hid (dots_snoc Hx.out hle.out Hi.out), Lib.hid (below_drewN HB.out _)⟩
        case measure => simp [intOf]; omega
    · have He := Lib.hid (show ((dr, di), ds) ∉ dotsOf l by have := hle.out; rwa [List.take_of_length_le (by omega)] at this)
      go_wp2_with fail
      go_ret
      exact ⟨-1, rfl, .inl ⟨rfl, He.out⟩, Hb.out⟩
theorem leftP_snoc {l : List It} {ts : List Dt} {k : Nat} {x : It} (hx : l[k]? = some x) : leftP (l.take (k + 1)) ts = if x.d ∈ ts then leftP (l.take k) ts else leftP (l.take k) ts ++ [x] := by
  rw [take_snoc' hx, leftP, List.filter_append, ← leftP]
  by_cases h : x.d ∈ ts
  · simp [h]
  · simp [h]
set_option maxRecDepth 100000 in
set_option maxHeartbeats 1000000 in
theorem rleft_any (a b : Option Addr) (c d : Nat) (l : List It) (ts : List Dt) (w : World) (hv : Its w a c l) (hu : Vec w b d ts) (hn : l.length ≤ 2000000) (hm : ts.length ≤ 3000000) :
    Calls Tryz.prog 75 #[.slice a l.length c, .slice b ts.length d] w fun e w' => ∃ a' c' v', e = .returned (.slice a' v'.length c') ∧ v' = leftP l ts ∧ OwnI w' w.heap.size a' c' v' ∧ Below w.heap.size w w' := by
  have Hv := Lib.hid hv
  have Hu := Lib.hid hu
  clear hv hu
  go_enter Tryz.func75, Tryz.ntmps75
  go_wp2_with fail
  go_loopw [5, 6] (fun o j wr => ∃ (k : Nat) (va : Option Addr) (vc : Nat) (v : List It), k ≤ l.length ∧ j = .int .i64 k ∧ o = .slice va v.length vc ∧ v.length ≤ k ∧ Hid (v = leftP (l.take k) ts) ∧ Hid (OwnI wr w.heap.size va vc v) ∧ Below w.heap.size w wr) (fun _ j _ => l.length - (intOf j).toNat)
  case atStart => exact ⟨0, none, 0, [], Nat.zero_le _, rfl, rfl, by simp, Lib.hid (by simp [leftP]), Lib.hid (OwnI.nil _ _), Below.refl _ _⟩
  case round =>
    obtain ⟨k, va, vc, v, hk, rfl, rfl, hvk, hve, ho, hb⟩ := hrel
    have Hb := Lib.hid hb
    have hs0 := hb.size
    clear hb
    by_cases hlt : k < l.length
    · obtain ⟨⟨t, ⟨⟨r, i⟩, s⟩, x⟩, hx⟩ : ∃ x, l[k]? = some x := ⟨l[k], by simp [hlt]⟩
      obtain ⟨ad, had, ⟨c0, c1, c2, c3, c4⟩, hl0⟩ := (Hv.out.below Hb.out).at hx
      subst had
      dsimp only at c0 c1 c2 c3 c4
      have Hx := Lib.hid hx
      clear hx
      go_wp2_with fail
      refine (rtomb_any b d ts ((r, i), s) _ (Hu.out.below Hb.out) hm).mono ?_
      rintro e w1 ⟨q, rfl, hq, hb1⟩
      have HB1 := Lib.hid (below2 Hb.out hb1 hs0)
      have Ho1 := Lib.hid (ho.out.below hb1)
      have hs1 := HB1.out.size
      have Hq := Lib.hid hq
      clear hb1 hq c0 c1 c2 c3 c4 hl0 ho
      obtain ⟨ad', had, ⟨c0, c1, c2, c3, c4⟩, hl0⟩ := (Hv.out.below HB1.out).at Hx.out
      cases had
      dsimp only at c0 c1 c2 c3 c4
      cases q with
      | true =>
        go_wp2_with fail
        go_roundw
        case rel => exact ⟨k + 1, va, vc, v, by omega, by go_num, rfl, by omega, Lib.hid (by rw [leftP_snoc Hx.out, if_pos (show ((r, i), s) ∈ ts from Hq.out.1 (by simp))]; exact hve.out), Ho1, HB1.out⟩
        case measure => simp [intOf]; omega
      | false =>
        have hnot : ((r, i), s) ∉ ts := fun h => by have := Hq.out.2 h; cases this
        have Hnot := Lib.hid hnot
        clear hnot Hq
        go_wp2_with (at_builtin; go_must (refine wpList_appI rfl _ _ rfl w.heap.size va vc v rfl ?o1 (some ⟨w1.heap.size, 0, none⟩) 1 [⟨t, ((r, i), s), x⟩] rfl ?s1 ?n1 ?b1 ?_))
        case o1 => exact Ho1.out.below ((Below.refl _ _).alloc (Nat.le_refl _) _)
        case s1 => exact its_one (heap_new w1 _)
        case n1 => simp; omega
        case b1 => simp; omega
        intro v' a' c' w2 hv' ho2 hb2 _
        have Hv' := Lib.hid hv'
        have hl' : v'.length ≤ k + 1 := by rw [hv']; simp; omega
        have HB2 : Hid (Below w.heap.size w w2) := Lib.hid ((HB1.out.alloc hs1 _).trans hb2)
        have Ho2 := Lib.hid ho2
        clear hv' ho2 hb2
        go_wp2_with fail
        go_roundw
        case rel => exact ⟨k + 1, a', c', v', by omega, by go_num, rfl, hl', Lib.hid (by rw [leftP_snoc Hx.out, if_neg Hnot.out, Hv'.out, hve.out]), Ho2, HB2.out⟩
        case measure => simp [intOf]; omega
    · have he := hve.out
      rw [List.take_of_length_le (by omega)] at he
      have He := Lib.hid he
      clear he
      go_wp2_with fail
      go_ret
      exact ⟨va, vc, v, rfl, He.out, ho.out, Hb.out⟩
theorem lay_end {l : List It} {x : It} {k : Nat} (hd : x.d ∉ dotsOf l) (h1 : ∀ j y, j < k → l[j]? = some y → aheadT y.t y.d x.t x.d = true) (h2 : ∀ y : It, l[k]? = some y → aheadT y.t y.d x.t x.d = false) : layP l x = (l.take k ++ [x]) ++ l.drop k := by
  have := while_eq (p := fun y : It => aheadT y.t y.d x.t x.d) h1 h2
  rw [layP, if_neg hd, this.1, this.2]; simp
theorem bury_end {l : List Dt} {x : Dt} {k : Nat} (hd : x ∉ l) (h1 : ∀ j y, j < k → l[j]? = some y → lessD y x = true) (h2 : ∀ y, l[k]? = some y → lessD y x = false) : buryP l x = (l.take k ++ [x]) ++ l.drop k := by
  have := while_eq (p := fun y => lessD y x) h1 h2
  rw [buryP, if_neg hd, this.1, this.2]; simp
theorem lt_snoc {α : Type} {p : α → Prop} {l : List α} {k : Nat} {x : α} (h : ∀ j y, j < k → l[j]? = some y → p y) (hx : l[k]? = some x) (hp : p x) : ∀ j y, j < k + 1 → l[j]? = some y → p y := fun j y hj hy => by
  by_cases e : j = k
  · subst e; rw [hx] at hy; cases hy; exact hp
  · exact h j y (by omega) hy
theorem cutI (a : Option Addr) (c : Nat) (l : List It) (k : Nat) (hk : k ≤ l.length) (hc : l.length ≤ c) : ∃ sa sc u, u = l.drop k ∧ (∀ W : World, (Instr.sliceAt 45 (.slice a l.length c) (some (.int .i64 (k : Int))) none none).run Tryz.prog W = .ok (.slice sa u.length sc) W) ∧ ∀ w, Its w a c l → Its w sa sc u :=
  ⟨_, _, l.drop k, rfl, fun W => by rw [slice_loI a l.length c k hk hc W, List.length_drop], fun w h => h.drop hk⟩
theorem cutD (a : Option Addr) (c : Nat) (l : List Dt) (k : Nat) (hk : k ≤ l.length) (hc : l.length ≤ c) : ∃ sa sc u, u = l.drop k ∧ (∀ W : World, (Instr.sliceAt 46 (.slice a l.length c) (some (.int .i64 (k : Int))) none none).run Tryz.prog W = .ok (.slice sa u.length sc) W) ∧ ∀ w, Vec w a c l → Vec w sa sc u :=
  ⟨_, _, l.drop k, rfl, fun W => by rw [slice_loD a l.length c k hk hc W, List.length_drop], fun w h => h.drop hk⟩
set_option maxRecDepth 100000 in
set_option maxHeartbeats 2000000 in
theorem rlay_any (a : Option Addr) (c : Nat) (l : List It) (x : It) (w : World) (hv : Its w a c l) (hn : l.length ≤ 1000000) :
    Calls Tryz.prog 73 #[.slice a l.length c, .agg #[.int .u64 x.t, .int .u8 x.d.1.1, .int .u32 x.d.1.2, .int .u64 x.d.2, .string x.x]] w fun e w' => ∃ a' c' v', e = .returned (.slice a' v'.length c') ∧ v' = layP l x ∧ OwnI w' w.heap.size a' c' v' ∧ Below w.heap.size w w' := by
  obtain ⟨xt, ⟨⟨xr, xi⟩, xs⟩, xx⟩ := x
  have Hv := Lib.hid hv
  have hcap := hv.cap
  have Hsl := Lib.hid (fun (k : Nat) (hk : k ≤ l.length) => cutI a c l k hk hcap)
  clear hv hcap
  go_enter Tryz.func73, Tryz.ntmps73
  go_wp2_with fail
  refine (ritem_any a c l ((xr, xi), xs) _ (Hv.out.below ((Below.refl _ _).alloc (Nat.le_refl _) _)) (by omega)).mono ?_
  rintro e w1 ⟨q, rfl, hq, hb1⟩
  obtain ⟨hx0, hs0, hB1⟩ := new1 hb1
  have g0 := cells_at hx0
  have Hx0 := Lib.hid hx0
  have HB1 := Lib.hid hB1
  have Hq := Lib.hid hq.iff
  clear hb1 hx0 hB1 hq
  by_cases hq0 : 0 ≤ q
  · have He := Lib.hid (show layP l ⟨xt, ((xr, xi), xs), xx⟩ = l by rw [layP, if_pos (Hq.out.1 hq0)])
    go_wp2_with (at_builtin; go_must (refine wpList_appI rfl _ _ rfl w.heap.size (some ⟨w1.heap.size, 0, none⟩) 0 [] rfl ?o1 a c l rfl ?s1 ?n1 ?b1 ?_))
    case o1 => exact OwnI.made w1 (by omega)
    case s1 => exact Hv.out.below (HB1.out.alloc (by omega) _)
    case n1 => simp; omega
    case b1 => simp; omega
    intro v' a' c' w2 hv' ho2 hb2 _
    have Hv' := Lib.hid hv'
    have HB2 : Hid (Below w.heap.size w w2) := Lib.hid ((HB1.out.alloc (by omega) _).trans hb2)
    have Ho2 := Lib.hid ho2
    clear hv' ho2 hb2
    go_wp2_with fail
    go_ret
    exact ⟨a', c', v', rfl, by rw [He.out, Hv'.out], Ho2.out, HB2.out⟩
  · have hq0' : decide (0 ≤ q) = false := by simpa using hq0
    have Hnin := Lib.hid (show ((xr, xi), xs) ∉ dotsOf l from fun h => hq0 (Hq.out.2 h))
    clear hq0
    go_wp2_with fail
    go_loopw [5, 6] (fun o j wr => ∃ (k : Nat) (va : Option Addr) (vc : Nat) (v : List It), k ≤ l.length ∧ j = .int .i64 k ∧ o = .slice va v.length vc ∧ v.length ≤ k ∧ Hid (v = l.take k) ∧ Hid (∀ (j : Nat) (y : It), j < k → l[j]? = some y → aheadT y.t y.d xt ((xr, xi), xs) = true) ∧ Hid (OwnI wr w1.heap.size va vc v) ∧ Below w1.heap.size w1 wr) (fun _ j _ => l.length - (intOf j).toNat)
    case atStart => exact ⟨0, none, 0, [], Nat.zero_le _, rfl, rfl, Nat.le_refl _, Lib.hid (by simp), Lib.hid (fun j y h => absurd h (Nat.not_lt_zero _)), Lib.hid (OwnI.nil _ _), Below.refl _ _⟩
    case round =>
      obtain ⟨k, va, vc, v, hk, rfl, rfl, hvk, hve, hup, ho, hb⟩ := hrel
      have hz := hb.size
      have hx0 := (hb.block _ (heap_lt Hx0.out)).trans Hx0.out
      have HB := Lib.hid (below2 HB1.out hb (by omega))
      have Hb := Lib.hid hb
      have g0 := cells_at hx0
      have Hx := Lib.hid hx0
      clear hx0 hb
      by_cases hlt : k < l.length
      · obtain ⟨⟨t, ⟨⟨r, i⟩, s⟩, x⟩, hx⟩ : ∃ x, l[k]? = some x := ⟨l[k], by simp [hlt]⟩
        obtain ⟨ad, had, ⟨c0, c1, c2, c3, c4⟩, hl0⟩ := (Hv.out.below HB.out).at hx
        subst had
        dsimp only at c0 c1 c2 c3 c4
        have Hy := Lib.hid hx
        clear hx
        go_wp2_with fail
        refine region_text [([0, 1, 2, 3, 4, 5, 6, 7, 8, 9, 10, 11, 12, 13, 14, 15, 16, 17, 18, 19, 20], false)] mixed (by kernel_rfl) ?_
        simp only [wpSegs, List.map_cons, List.map_nil, List.getD_cons_succ, List.getD_cons_zero]
        go_wp2_with fail
        refine (rahead_any t ((r, i), s) xt ((xr, xi), xs) _).mono ?_
        rintro e w2 ⟨rfl, hb2⟩
        have hb2' := ((Below.refl _ wr).drew).trans hb2
        have hx0 := (hb2'.block _ (heap_lt Hx.out)).trans Hx.out
        have HB2 := Lib.hid (below2 HB.out hb2' HB.out.size)
        have Hb2 := Lib.hid (below2 Hb.out hb2' Hb.out.size)
        have Ho2 := Lib.hid (ho.out.below hb2')
        have hz2 := Hb2.out.size
        have hl2 : ad.block < w2.heap.size := by have := hb2'.size; omega
        clear hb2 hb2' g0 c0 c1 c2 c3 c4 ho hl0
        have g0 := cells_at hx0
        have Hx2 := Lib.hid hx0
        clear hx0
        cases ha : aheadT t ((r, i), s) xt ((xr, xi), xs) with
        | true =>
          have Ha := Lib.hid ha
          clear ha
          obtain ⟨ad', had, ⟨c0, c1, c2, c3, c4⟩, hl0⟩ := (Hv.out.below HB2.out).at Hy.out
          cases had
          dsimp only at c0 c1 c2 c3 c4
          go_wp2_with fail
          refine And.intro (by kernel_rfl) ?_
          go_wp2_with (at_builtin; go_must (refine wpList_appI rfl _ _ rfl w1.heap.size va vc v rfl ?o1 (some ⟨w2.heap.size, 0, none⟩) 1 [⟨t, ((r, i), s), x⟩] rfl ?s1 ?n1 ?b1 ?_))
          case o1 => exact Ho2.out.below ((Below.refl _ _).alloc (Nat.le_refl _) _)
          case s1 => exact its_one (heap_new w2 _)
          case n1 => simp; omega
          case b1 => simp; omega
          intro v' a' c' w3 hv' ho3 hb3 _
          have Hv' := Lib.hid hv'
          have hl' : v'.length ≤ k + 1 := by rw [hv']; simp; omega
          have Hb3 : Hid (Below w1.heap.size w1 w3) := Lib.hid ((Hb2.out.alloc hz2 _).trans hb3)
          have Ho3 := Lib.hid ho3
          clear hv' ho3 hb3
          go_wp2_with fail
          go_roundw
          case rel => exact ⟨k + 1, a', c', v', by omega, by go_num, rfl, hl', Lib.hid (by rw [Hv'.out, hve.out, take_snoc' Hy.out]), Lib.hid (lt_snoc (p := fun y => aheadT y.t y.d xt ((xr, xi), xs) = true) hup.out Hy.out Ha.out), Ho3, Hb3.out⟩
          case measure => simp [intOf]; omega
        | false =>
          have He := Lib.hid (lay_end (x := ⟨xt, ((xr, xi), xs), xx⟩) Hnin.out hup.out (fun y hy => by rw [Hy.out] at hy; cases hy; exact ha))
          clear ha
          obtain ⟨sa, sc, u, hu, hsl, hits⟩ := Hsl.out k (by omega)
          have hul : u.length ≤ l.length := by rw [hu]; simp
          have Hits := Lib.hid hits
          have Hu := Lib.hid hu
          clear hits hu
          go_wp2_with fail
          refine And.intro (by kernel_rfl) ?_
          go_wp2_with fail
          refine region_text [([0, 1, 4, 5, 6, 2, 3, 7, 8], false)] mixed (by kernel_rfl) ?_
          simp only [wpSegs, List.map_cons, List.map_nil, List.getD_cons_succ, List.getD_cons_zero]
          go_wp2_with (at_builtin; go_must (refine wpList_appI rfl _ _ rfl w1.heap.size va vc v rfl ?o1 (some ⟨w2.heap.size, 0, none⟩) 1 [⟨xt, ((xr, xi), xs), xx⟩] rfl ?s1 ?n1 ?b1 ?_))
          case o1 => exact Ho2.out.below (by first | exact (Below.refl _ _).alloc (Nat.le_refl _) _ | exact ((Below.refl _ _).alloc (Nat.le_refl _) _).drew | exact ((Below.refl _ _).alloc (Nat.le_refl _) _).drew.drew)
          case s1 => exact its_one (heap_new w2 _)
          case n1 => simp; omega
          case b1 => simp; omega
          intro v' a' c' w3 hv' ho3 hb3 _
          have Hv' := Lib.hid hv'
          have hl' : v'.length ≤ k + 1 := by rw [hv']; simp; omega
          have Hb3 : Hid (Below w1.heap.size w1 w3) := Lib.hid (by first | exact (Hb2.out.alloc hz2 _).trans hb3 | exact (Hb2.out.alloc hz2 _).drew.trans hb3 | exact (Hb2.out.alloc hz2 _).drew.drew.trans hb3)
          have Ho3 := Lib.hid ho3
          have HB3 := Lib.hid (below2 HB1.out Hb3.out (by omega))
          have hz3 := Hb3.out.size
          clear hv' ho3 hb3
          go_wp2_with (at_builtin; go_must (refine wpList_appI rfl _ _ rfl w1.heap.size a' c' v' rfl Ho3.out sa sc u rfl (Hits.out _ (Hv.out.below HB3.out)) ?n1 hz3 ?_))
          case n1 => omega
          intro v'' a'' c'' w4 hv'' ho4 hb4 _
          have Hv'' := Lib.hid hv''
          have Hb4 : Hid (Below w1.heap.size w1 w4) := Lib.hid (Hb3.out.trans hb4)
          have Ho4 := Lib.hid ho4
          clear hv'' ho4 hb4
          go_wp2_with fail
          refine And.intro (by kernel_rfl) ?_
          go_wp2_with fail
          go_ret
          exact ⟨a'', c'', v'', rfl, by rw [He.out, Hv''.out, Hv'.out, hve.out, Hu.out], Ho4.out.base (by omega), below2 HB1.out Hb4.out (by omega)⟩
      · have He := Lib.hid (lay_end (x := ⟨xt, ((xr, xi), xs), xx⟩) Hnin.out hup.out (fun y hy => by rw [List.getElem?_eq_none (by omega)] at hy; cases hy))
        obtain ⟨sa, sc, u, hu, hsl, hits⟩ := Hsl.out k (by omega)
        have hul : u.length ≤ l.length := by rw [hu]; simp
        have Hits := Lib.hid hits
        have Hu := Lib.hid hu
        clear hits hu
        go_wp2_with fail
        refine region_text [([0, 1, 2, 3, 4, 5, 6, 7, 8, 9, 10, 11, 12, 13, 14, 15, 16, 17, 18, 19, 20], false)] mixed (by kernel_rfl) ?_
        simp only [wpSegs, List.map_cons, List.map_nil, List.getD_cons_succ, List.getD_cons_zero]
        go_wp2_with fail
        refine And.intro (by kernel_rfl) ?_
        go_wp2_with fail
        refine region_text [([0, 1, 4, 5, 6, 2, 3, 7, 8], false)] mixed (by kernel_rfl) ?_
        simp only [wpSegs, List.map_cons, List.map_nil, List.getD_cons_succ, List.getD_cons_zero]
        go_wp2_with (at_builtin; go_must (refine wpList_appI rfl _ _ rfl w1.heap.size va vc v rfl ?o1 (some ⟨wr.heap.size, 0, none⟩) 1 [⟨xt, ((xr, xi), xs), xx⟩] rfl ?s1 ?n1 ?b1 ?_))
        case o1 => exact ho.out.below (by first | exact (Below.refl _ _).alloc (Nat.le_refl _) _ | exact ((Below.refl _ _).alloc (Nat.le_refl _) _).drew | exact ((Below.refl _ _).alloc (Nat.le_refl _) _).drew.drew)
        case s1 => exact its_one (heap_new wr _)
        case n1 => simp; omega
        case b1 => simp; omega
        intro v' a' c' w3 hv' ho3 hb3 _
        have Hv' := Lib.hid hv'
        have hl' : v'.length ≤ k + 1 := by rw [hv']; simp; omega
        have Hb3 : Hid (Below w1.heap.size w1 w3) := Lib.hid (by first | exact (Hb.out.alloc hz _).trans hb3 | exact (Hb.out.alloc hz _).drew.trans hb3 | exact (Hb.out.alloc hz _).drew.drew.trans hb3)
        have Ho3 := Lib.hid ho3
        have HB3 := Lib.hid (below2 HB1.out Hb3.out (by omega))
        have hz3 := Hb3.out.size
        clear hv' ho3 hb3
        go_wp2_with (at_builtin; go_must (refine wpList_appI rfl _ _ rfl w1.heap.size a' c' v' rfl Ho3.out sa sc u rfl (Hits.out _ (Hv.out.below HB3.out)) ?n1 hz3 ?_))
        case n1 => omega
        intro v'' a'' c'' w4 hv'' ho4 hb4 _
        have Hv'' := Lib.hid hv''
        have Hb4 : Hid (Below w1.heap.size w1 w4) := Lib.hid (Hb3.out.trans hb4)
        have Ho4 := Lib.hid ho4
        clear hv'' ho4 hb4
        go_wp2_with fail
        refine And.intro (by kernel_rfl) ?_
        go_wp2_with fail
        go_ret
        exact ⟨a'', c'', v'', rfl, by rw [He.out, Hv''.out, Hv'.out, hve.out, Hu.out], Ho4.out.base (by omega), below2 HB1.out Hb4.out (by omega)⟩
end Go.Proofs.YtmabjghjkgicgaaGreat
