/- Slices of items, of dots of one's own: appended to, cut. | The reference's Ahead, Item, Tomb, Left, Lay, Bury (varveref05): contracts. | The reference's May on leaves (varveref05): contract. -/
import Derived.Test.YtaandcblndldmaaGreatLeafA
import Derived.Lib.SliceRun
/- ItsA -/
namespace Go.Proofs.YtaandcblndldmaaGreat
open Go.RowKit
set_option linter.unusedVariables false
set_option linter.unusedSimpArgs false

theorem Tryz.info_item : (Tryz.prog.info? 180).map (fun i => (i.zero, i.size, i.bytes)) = some (some (.agg #[.int .u64 0, .int .u8 0, .int .u32 0, .int .u64 0, .string ⟨#[]⟩]), 5, 40) := by kernel_rfl
theorem info_parts {o : Option TypeInfo} {z : Option Value} {s b : Nat} (h : o.map (fun i => (i.zero, i.size, i.bytes)) = some (z, s, b)) : ∃ i, o = some i ∧ i.zero = z ∧ i.size = s ∧ i.bytes = b := by
  cases o with
  | none => cases h
  | some i => simp at h; exact ⟨i, rfl, h⟩
/-- items in memory of one's own, above base -/
def OwnI (w : World) (base : Nat) (a : Option Addr) (c : Nat) (v : List It) : Prop := w.ownsRow base 180 5 (.slice a v.length c) v.length (icells v)
def OwnD (w : World) (base : Nat) (a : Option Addr) (c : Nat) (v : List Dt) : Prop := w.ownsRow base 49 3 (.slice a v.length c) v.length (dcells v)
theorem OwnI.its {w : World} {base : Nat} {a : Option Addr} {c : Nat} {v : List It} (h : OwnI w base a c v) : Its w a c v := Sl.of_owns h
theorem OwnD.vec {w : World} {base : Nat} {a : Option Addr} {c : Nat} {v : List Dt} (h : OwnD w base a c v) : Vec w a c v := Sl.of_owns h
theorem OwnI.nil (w : World) (base : Nat) : OwnI w base none 0 [] := World.ownsRow_nil _ _ _ _
theorem OwnD.nil (w : World) (base : Nat) : OwnD w base none 0 [] := World.ownsRow_nil _ _ _ _
theorem OwnI.made (w : World) {base : Nat} (h : base ≤ w.heap.size) : OwnI (w.alloc (.cells #[] 180)) base (some ⟨w.heap.size, 0, none⟩) 0 [] := World.ownsRow_made w #[] 0 h (by decide) rfl
theorem OwnD.made (w : World) {base : Nat} (h : base ≤ w.heap.size) : OwnD (w.alloc (.cells #[] 49)) base (some ⟨w.heap.size, 0, none⟩) 0 [] := World.ownsRow_made w #[] 0 h (by decide) rfl
theorem OwnD.base {w : World} {base base' : Nat} {a : Option Addr} {c : Nat} {v : List Dt} (h : OwnD w base a c v) (hb : base' ≤ base) : OwnD w base' a c v := owns_base h hb
theorem OwnI.below {w w' : World} {base : Nat} {a : Option Addr} {c : Nat} {v : List It} (h : OwnI w base a c v) (hb : Below w.heap.size w w') : OwnI w' base a c v := owns_chg (F := []) h (Chg.of_below hb) (by simp)
theorem OwnD.below {w w' : World} {base : Nat} {a : Option Addr} {c : Nat} {v : List Dt} (h : OwnD w base a c v) (hb : Below w.heap.size w w') : OwnD w' base a c v := owns_chg (F := []) h (Chg.of_below hb) (by simp)
theorem vec_one {w : World} {b : Nat} {r i s : Int} (h : w.heap[b]? = some (.cells #[.int .u8 r, .int .u32 i, .int .u64 s] 49 (0, 0))) : Vec w (some ⟨b, 0, none⟩) 1 [((r, i), s)] :=
  Sl.blk (C := #[.int .u8 r, .int .u32 i, .int .u64 s]) h rfl (by simp [maxLen])

section
variable {w : World} {ops : Array Oper} {rest : List Oper} {o : Oper} {a : Act} {Q : Exit → Act → World → Prop}
theorem wpList_appI (hgd : o.guard = none) (s x : Operand) (ho : o.op = .call { callee := .builtin .append, args := #[s, x], argTypes := #[176, 176] })
    (base : Nat) (va : Option Addr) (vc : Nat) (v : List It) (hs : a.eval s = .slice va v.length vc) (hown : OwnI w base va vc v)
    (sa : Option Addr) (c : Nat) (u : List It) (hx : a.eval x = .slice sa u.length c) (hsl : Its w sa c u) (hn : v.length + u.length ≤ 3000000) (hbase : base ≤ w.heap.size)
    (h : ∀ v' a' c' w', v' = v ++ u → OwnI w' base a' c' v' → Below base w w' → Chg (ob va) w w' → wpList Tryz.prog ops Q rest (a.put o.dst (.slice a' v'.length c')) w') : wpList Tryz.prog ops Q (o :: rest) a w := by
  obtain ⟨i0, hi0, hz0, hz1, hz2⟩ := info_parts Tryz.info_item
  refine wpList_append_sl hgd s x 176 ho base 180 i0 (.agg #[.int .u64 0, .int .u8 0, .int .u32 0, .int .u64 0, .string ⟨#[]⟩]) 5 40 Tryz.underlying176 hi0 hz0 hz1 hz2 rfl (by decide) va v.length vc (icells v) hs hown sa u.length c (icells u) hx hsl (icells_one u) (by unfold maxLen; omega) (by omega) hbase fun a' c' w' h1 h2 h3 => ?_
  have := h (v ++ u) a' c' w' rfl (by unfold OwnI; rw [icells_append, List.length_append]; exact h1) (h2.below hbase fun k hk => (owns_lt hown k hk).1) h2
  rwa [List.length_append] at this
theorem wpList_appD (hgd : o.guard = none) (s x : Operand) (ho : o.op = .call { callee := .builtin .append, args := #[s, x], argTypes := #[27, 27] })
    (base : Nat) (va : Option Addr) (vc : Nat) (v : List Dt) (hs : a.eval s = .slice va v.length vc) (hown : OwnD w base va vc v)
    (sa : Option Addr) (c : Nat) (u : List Dt) (hx : a.eval x = .slice sa u.length c) (hsl : Vec w sa c u) (hn : v.length + u.length ≤ 3000000) (hbase : base ≤ w.heap.size)
    (h : ∀ v' a' c' w', v' = v ++ u → OwnD w' base a' c' v' → Below base w w' → Chg (ob va) w w' → wpList Tryz.prog ops Q rest (a.put o.dst (.slice a' v'.length c')) w') : wpList Tryz.prog ops Q (o :: rest) a w := by
  obtain ⟨i0, hi0, hz0, hz1, hz2⟩ := info_parts Tryz.info_dot
  refine wpList_append_sl hgd s x 27 ho base 49 i0 (.agg #[.int .u8 0, .int .u32 0, .int .u64 0]) 3 16 Tryz.underlying27 hi0 hz0 hz1 hz2 rfl (by decide) va v.length vc (dcells v) hs hown sa u.length c (dcells u) hx hsl (dcells_one u) (by unfold maxLen; omega) (by omega) hbase fun a' c' w' h1 h2 h3 => ?_
  have := h (v ++ u) a' c' w' rfl (by unfold OwnD; rw [dcells_append, List.length_append]; exact h1) (h2.below hbase fun k hk => (owns_lt hown k hk).1) h2
  rwa [List.length_append] at this
end

/-! parts of slices -/
theorem flatMap_drop {α : Type} {enc : α → List Value} {m : Nat} (hk : ∀ x, (enc x).length = m) : ∀ (l : List α) (j : Nat), (l.flatMap enc).drop (j * m) = (l.drop j).flatMap enc
  | l, 0 => by simp
  | [], j + 1 => by simp
  | x :: l, j + 1 => by
    rw [List.flatMap_cons, List.drop_succ_cons, ← flatMap_drop hk l j, show (j + 1) * m = (enc x).length + j * m by rw [hk, Nat.succ_mul]; omega, List.drop_append]
    simp
theorem flatMap_take {α : Type} {enc : α → List Value} {m : Nat} (hk : ∀ x, (enc x).length = m) : ∀ (l : List α) (j : Nat), (l.flatMap enc).take (j * m) = (l.take j).flatMap enc
  | l, 0 => by simp
  | [], j + 1 => by simp
  | x :: l, j + 1 => by
    rw [List.flatMap_cons, List.take_succ_cons, List.flatMap_cons, ← flatMap_take hk l j, show (j + 1) * m = (enc x).length + j * m by rw [hk, Nat.succ_mul]; omega, List.take_append, List.take_of_length_le (by omega)]
    simp
theorem Sl.dropK {α : Type} {enc : α → List Value} {m : Nat} (hk : ∀ x, (enc x).length = m) {w : World} {a : Option Addr} {c : Nat} {U : List α} (h : Sl w m a U.length c (U.flatMap enc)) {j : Nat} (hj : j ≤ U.length) : Sl w m (if c = j then a else a.map (·.add (j * m))) (U.drop j).length (c - j) ((U.drop j).flatMap enc) := by
  obtain ⟨h1, h2, h3, h4⟩ := h
  refine ⟨by rw [flatMap_len hk], by rw [List.length_drop]; omega, by omega, ?_⟩
  rcases h4 with ⟨rfl, h6, h7⟩ | ⟨b, rfl, hc⟩
  · exact .inl ⟨by split <;> rfl, by rw [List.length_drop]; omega, by omega⟩
  · by_cases e : c = j
    · rw [if_pos e]
      refine .inr ⟨b, rfl, fun i u hu => ?_⟩
      rw [List.drop_eq_nil_of_le (by omega)] at hu
      simp at hu
    · rw [if_neg e]
      refine .inr ⟨b.add (j * m), rfl, fun i u hu => ?_⟩
      rw [Go.Deep.add_add]
      refine hc _ _ ?_
      rw [← flatMap_drop hk, List.getElem?_drop] at hu
      exact hu
theorem Sl.takeK {α : Type} {enc : α → List Value} {m : Nat} (hk : ∀ x, (enc x).length = m) {w : World} {a : Option Addr} {c : Nat} {U : List α} (h : Sl w m a U.length c (U.flatMap enc)) {j : Nat} (hj : j ≤ U.length) : Sl w m a (U.take j).length c ((U.take j).flatMap enc) := by
  obtain ⟨h1, h2, h3, h4⟩ := h
  refine ⟨by rw [flatMap_len hk], by rw [List.length_take]; omega, h3, ?_⟩
  rcases h4 with ⟨h5, h6, h7⟩ | ⟨b, rfl, hc⟩
  · exact .inl ⟨h5, by rw [List.length_take]; omega, h7⟩
  · refine .inr ⟨b, rfl, fun i u hu => hc i u ?_⟩
    rw [← flatMap_take hk, List.getElem?_take] at hu
    split at hu
    · exact hu
    · cases hu
theorem slice_loI (oa : Option Addr) (n oc j : Nat) (hj : j ≤ n) (hn : n ≤ oc) (W : World) : (Instr.sliceAt 176 (.slice oa n oc) (some (.int .i64 (j : Int))) none none).run Tryz.prog W = .ok (.slice (if oc = j then oa else oa.map (·.add (j * 5))) (n - j) (oc - j)) W := by
  simp [go_sem, Instr.sliceAt, Instr.slice, run_underlying Tryz.underlying176]
  intro h; omega
theorem slice_loD (oa : Option Addr) (n oc j : Nat) (hj : j ≤ n) (hn : n ≤ oc) (W : World) : (Instr.sliceAt 27 (.slice oa n oc) (some (.int .i64 (j : Int))) none none).run Tryz.prog W = .ok (.slice (if oc = j then oa else oa.map (·.add (j * 3))) (n - j) (oc - j)) W := by
  simp [go_sem, Instr.sliceAt, Instr.slice, run_underlying Tryz.underlying27]
  intro h; omega
end Go.Proofs.YtaandcblndldmaaGreat

/- RefLA -/
namespace Go.Proofs.YtaandcblndldmaaGreat
open Go.RowKit
set_option linter.unusedVariables false
set_option linter.unusedSimpArgs false

theorem rahead_any (t : Int) (d : Dt) (u : Int) (o : Dt) (w : World) :
    Calls Tryz.prog 222 #[.int .u64 t, .agg #[.int .u8 d.1.1, .int .u32 d.1.2, .int .u64 d.2], .int .u64 u, .agg #[.int .u8 o.1.1, .int .u32 o.1.2, .int .u64 o.2]] w fun e w' => e = .returned (.bool (aheadT t d u o)) ∧ Below w.heap.size w w' := by
  by_cases h : t = u
  · subst h
    have He := Lib.hid (show aheadT t d t o = lessD d o by simp [aheadT])
    go_enter Tryz.func222, Tryz.ntmps222
    go_wp2_with fail
    refine (rless_any _ _ _ _ _ _ _).mono ?_
    rintro e w1 ⟨rfl, hb⟩
    have HB : Hid (Below w.heap.size w w1) := Lib.hid ((((Below.refl _ _).alloc (Nat.le_refl _) _).alloc (by simp) _).trans (hb.mono (by simp; omega)))
    clear hb
    go_wp2_with fail
    go_ret
    exact ⟨by rw [He.out]; rfl, HB.out⟩
  · have h' : (t != u) = true := by simpa using h
    have He := Lib.hid (show aheadT t d u o = decide (t < u) by simp [aheadT, h])
    go_enter Tryz.func222, Tryz.ntmps222
    go_wp2_with fail
    go_ret
    exact ⟨by rw [He.out]; rfl, ((Below.refl _ _).alloc (Nat.le_refl _) _).alloc (by simp) _⟩

theorem not_tomb_snoc {l : List Dt} {k : Nat} {x d : Dt} (hx : l[k]? = some x) (h : d ∉ l.take k) (hd : x ≠ d) : d ∉ l.take (k + 1) := by
  rw [take_snoc' hx]
  simp only [List.mem_append, List.mem_singleton, not_or]
  exact ⟨h, fun e => hd e.symm⟩
set_option maxHeartbeats 1000000 in
theorem rtomb_any (a : Option Addr) (c : Nat) (l : List Dt) (d : Dt) (w : World) (hv : Vec w a c l) (hn : l.length ≤ 3000000) :
    Calls Tryz.prog 221 #[.slice a l.length c, .agg #[.int .u8 d.1.1, .int .u32 d.1.2, .int .u64 d.2]] w fun e w' => ∃ q : Bool, e = .returned (.bool q) ∧ (q = true ↔ d ∈ l) ∧ Below w.heap.size w w' := by
  obtain ⟨⟨dr, di⟩, ds⟩ := d
  have Hv := Lib.hid hv
  clear hv
  go_enter Tryz.func221, Tryz.ntmps221
  go_wp2_with fail
  go_loopw [5] (fun j wr => ∃ k : Nat, k ≤ l.length ∧ j = .int .i64 k ∧ Hid (((dr, di), ds) ∉ l.take k) ∧ Hid (Below (w.alloc (.cells #[.int .u8 dr, .int .u32 di, .int .u64 ds] 49)).heap.size (w.alloc (.cells #[.int .u8 dr, .int .u32 di, .int .u64 ds] 49)) wr)) (fun j _ => l.length - (intOf j).toNat)
  case atStart => exact ⟨0, Nat.zero_le _, rfl, Lib.hid (by simp), Lib.hid (Below.refl _ _)⟩
  case round =>
    obtain ⟨k, hk, rfl, hle, hb⟩ := hrel
    obtain ⟨hx0, hs0, hbb⟩ := new1 hb.out
    have d0 := cells_at hx0
    have Hb := Lib.hid hbb
    have HB := Lib.hid hb.out
    clear hb hbb hx0
    by_cases hlt : k < l.length
    · obtain ⟨⟨⟨r, i⟩, s⟩, hx⟩ : ∃ x, l[k]? = some x := ⟨l[k], by simp [hlt]⟩
      obtain ⟨ad, had, c0, c1, c2, hl0⟩ := (Hv.out.below Hb.out).at hx
      subst had
      dsimp only at c0 c1 c2
      have Hx := Lib.hid hx
      clear hx
      cases hi : eqD ((r, i), s) ((dr, di), ds) with
      | true =>
        have He := Lib.hid (show ((dr, di), ds) ∈ l from (eqD_iff _ _).1 hi ▸ List.mem_of_getElem? Hx.out)
        go_wp2_with fail
        refine region_text [([0, 1, 2, 3, 4, 5], false)] mixed (by kernel_rfl) ?_
        simp only [wpSegs, List.map_cons, List.map_nil, List.getD_cons_succ, List.getD_cons_zero]
        go_wp2_with fail
        refine And.intro (by kernel_rfl) ?_
        go_wp2_with fail
        go_ret
        exact ⟨true, rfl, true_iff' He.out, below_drewN Hb.out _⟩
      | false =>
        have Hi := Lib.hid (show ((r, i), s) ≠ ((dr, di), ds) from fun e => by rw [(eqD_iff _ _).2 e] at hi; cases hi)
        go_wp2_with fail
        refine region_text [([0, 1, 2, 3, 4, 5], false)] mixed (by kernel_rfl) ?_
        simp only [wpSegs, List.map_cons, List.map_nil, List.getD_cons_succ, List.getD_cons_zero]
        go_wp2_with fail
        refine And.intro (by kernel_rfl) ?_
        go_wp2_with fail
        go_roundw
        case rel => exact ⟨k + 1, by omega, by go_num, Lib.hid (not_tomb_snoc Hx.out hle.out Hi.out), Lib.hid (below_drewN HB.out _)⟩
        case measure => simp [intOf]; omega
    · have He := Lib.hid (show ((dr, di), ds) ∉ l by have := hle.out; rwa [List.take_of_length_le (by omega)] at this)
      go_wp2_with fail
      go_ret
      exact ⟨false, rfl, false_iff' He.out, Hb.out⟩
/-- where a dot's item stands -/
def Stands (l : List It) (d : Dt) (k : Int) : Prop := (k = -1 ∧ d ∉ dotsOf l) ∨ ∃ (j : Nat) (x : It), k = j ∧ l[j]? = some x ∧ x.d = d ∧ d ∉ dotsOf (l.take j)
set_option maxHeartbeats 1000000 in
theorem ritem_any (a : Option Addr) (c : Nat) (l : List It) (d : Dt) (w : World) (hv : Its w a c l) (hn : l.length ≤ 3000000) :
    Calls Tryz.prog 220 #[.slice a l.length c, .agg #[.int .u8 d.1.1, .int .u32 d.1.2, .int .u64 d.2]] w fun e w' => ∃ k : Int, e = .returned (.int .i64 k) ∧ Stands l d k ∧ Below w.heap.size w w' := by
  obtain ⟨⟨dr, di⟩, ds⟩ := d
  have Hv := Lib.hid hv
  clear hv
  go_enter Tryz.func220, Tryz.ntmps220
  go_wp2_with fail
  go_loopw [5] (fun j wr => ∃ k : Nat, k ≤ l.length ∧ j = .int .i64 k ∧ Hid (((dr, di), ds) ∉ dotsOf (l.take k)) ∧ Hid (Below (w.alloc (.cells #[.int .u8 dr, .int .u32 di, .int .u64 ds] 49)).heap.size (w.alloc (.cells #[.int .u8 dr, .int .u32 di, .int .u64 ds] 49)) wr)) (fun j _ => l.length - (intOf j).toNat)
  case atStart => exact ⟨0, Nat.zero_le _, rfl, Lib.hid (by simp [dotsOf]), Lib.hid (Below.refl _ _)⟩
  case round =>
    obtain ⟨k, hk, rfl, hle, hb⟩ := hrel
    obtain ⟨hx0, hs0, hbb⟩ := new1 hb.out
    have d0 := cells_at hx0
    have Hb := Lib.hid hbb
    have HB := Lib.hid hb.out
    clear hb hbb hx0
    by_cases hlt : k < l.length
    · obtain ⟨⟨t, ⟨⟨r, i⟩, s⟩, x⟩, hx⟩ : ∃ x, l[k]? = some x := ⟨l[k], by simp [hlt]⟩
      obtain ⟨ad, had, ⟨c0, c1, c2, c3, c4⟩, hl0⟩ := (Hv.out.below Hb.out).at hx
      subst had
      dsimp only at c0 c1 c2 c3 c4
      have Hx := Lib.hid hx
      clear hx
      cases hi : eqD ((r, i), s) ((dr, di), ds) with
      | true =>
        go_wp2_with fail
        refine region_text [([0, 1, 2, 3, 4, 5, 6], false)] mixed (by kernel_rfl) ?_
        simp only [wpSegs, List.map_cons, List.map_nil, List.getD_cons_succ, List.getD_cons_zero]
        go_wp2_with fail
        refine And.intro (by kernel_rfl) ?_
        go_wp2_with fail
        go_ret
        exact ⟨k, rfl, .inr ⟨k, _, rfl, Hx.out, (eqD_iff _ _).1 hi, hle.out⟩, below_drewN Hb.out _⟩
      | false =>
        have Hi := Lib.hid (show ((r, i), s) ≠ ((dr, di), ds) from fun e => by rw [(eqD_iff _ _).2 e] at hi; cases hi)
        go_wp2_with fail
        refine region_text [([0, 1, 2, 3, 4, 5, 6], false)] mixed (by kernel_rfl) ?_
        simp only [wpSegs, List.map_cons, List.map_nil, List.getD_cons_succ, List.getD_cons_zero]
        go_wp2_with fail
        refine And.intro (by kernel_rfl) ?_
        go_wp2_with fail
        go_roundw
        case rel => exact ⟨k + 1, by omega, by go_num, Lib.hid (dots_snoc Hx.out hle.out Hi.out), Lib.hid (below_drewN HB.out _)⟩
        case measure => simp [intOf]; omega
    · have He := Lib.hid (show ((dr, di), ds) ∉ dotsOf l by have := hle.out; rwa [List.take_of_length_le (by omega)] at this)
      go_wp2_with fail
      go_ret
      exact ⟨-1, rfl, .inl ⟨rfl, He.out⟩, Hb.out⟩
end Go.Proofs.YtaandcblndldmaaGreat

/- RefLB -/
namespace Go.Proofs.YtaandcblndldmaaGreat
open Go.RowKit
set_option linter.unusedVariables false
set_option linter.unusedSimpArgs false

/-- two blocks that came first -/
def two (w : World) (A B : Array Value) (s t : TypeId) : World := (w.alloc (.cells A s)).alloc (.cells B t)
def icellA (x : It) : Array Value := #[.int .u64 x.t, .int .u8 x.d.1.1, .int .u32 x.d.1.2, .int .u64 x.d.2, .string x.x]
/-- what stays in a round: the leaf's block, below the item's block -/
structure RM (w : World) (A : Array Value) (B : Array Value) (W : World) : Prop where
  g : W.heap[w.heap.size]? = some (.cells A 178 (0, 0))
  bel : Below w.heap.size w W
  BEL : Below (two w A B 178 49).heap.size (two w A B 178 49) W
theorem RM.of {w W : World} {A B : Array Value} (h : Below (two w A B 178 49).heap.size (two w A B 178 49) W) : RM w A B W := ⟨(new2 h).1, (new2 h).2.2.2, h⟩
theorem RM.step {w W W' : World} {A B : Array Value} (h : RM w A B W) (hb : Below W.heap.size W W') : RM w A B W' := RM.of (below2 h.BEL hb h.BEL.size)
theorem twice_bad {timed : Bool} {l : List It} {k : Nat} {x : It} {q : Int} (hx : l[k]? = some x) (hs : Stands l x.d q) (hq : q ≠ k) : ¬ MayItems timed l := fun hm => by
  rcases hs with ⟨rfl, h⟩ | ⟨j, y, rfl, h1, h2, _⟩
  · exact h (mem_dotsOf.2 ⟨x, List.mem_of_getElem? hx, rfl⟩)
  · have hjk : j ≠ k := fun e => hq (by rw [e])
    obtain ⟨hj, rfl⟩ := List.getElem?_eq_some_iff.1 h1
    obtain ⟨hk, rfl⟩ := List.getElem?_eq_some_iff.1 hx
    have hn := hm.2.2
    rw [dotsOf, List.Nodup, List.pairwise_map, List.pairwise_iff_getElem] at hn
    rcases Nat.lt_or_gt_of_ne hjk with e | e
    · exact hn j k hj hk e h2
    · exact hn k j hk hj e h2.symm
theorem stands_at {l : List It} {k : Nat} {x : It} (hx : l[k]? = some x) (hs : Stands l x.d k) : x.d ∉ dotsOf (l.take k) := by
  rcases hs with ⟨h, _⟩ | ⟨j, y, h, h1, h2, h3⟩
  · omega
  · have : j = k := by omega
    subst this; exact h3
theorem nodup_snoc {l : List It} {k : Nat} {x : It} (hx : l[k]? = some x) (h : (dotsOf (l.take k)).Nodup) (hn : x.d ∉ dotsOf (l.take k)) : (dotsOf (l.take (k + 1))).Nodup := by
  rw [take_snoc' hx, dotsOf_snoc, List.nodup_append]
  exact ⟨h, by simp, fun a ha b hb e => hn (by simp at hb; rw [← hb, ← e]; exact ha)⟩
/-- all that is asked of items by the reference's loop -/
def AllI (timed : Bool) (l : List It) (ts : List Dt) : Prop := MayItems timed l ∧ ∀ x ∈ l, x.d ∉ ts
def AllT (ts : List Dt) : Prop := (∀ d ∈ ts, may d = true) ∧ ts.Pairwise ltD
theorem allIT {l : List It} {ts : List Dt} (h : AllI false l ts) (k : AllT ts) : MayItems false l ∧ MayTombs ts l := ⟨h.1, k.1, k.2, fun d hd hm => by
  obtain ⟨x, hx, e⟩ := mem_dotsOf.1 hm
  exact h.2 x hx (e ▸ hd)⟩
theorem allIT' {l : List It} {ts : List Dt} (h : MayItems false l) (k : MayTombs ts l) : AllI false l ts ∧ AllT ts := ⟨⟨h, fun x hx hm => k.2.2 x.d hm (mem_dotsOf.2 ⟨x, hx, rfl⟩)⟩, k.1, k.2.1⟩
theorem bad_t {ts : List Dt} {k : Nat} {d : Dt} (hd : ts[k]? = some d) (h : may d = false) : ¬ AllT ts := fun hm => by
  have := hm.1 d (List.mem_of_getElem? hd); rw [h] at this; cases this
theorem bad_tp {ts : List Dt} {k : Nat} {d o : Dt} (hd : ts[k]? = some d) (ho : ts[k + 1]? = some o) (h : lessD d o = false) : ¬ AllT ts := fun hm => by
  have := pairwise_next hm.2 hd ho
  unfold ltD at this
  rw [h] at this
  cases this

set_option maxRecDepth 100000 in
set_option maxHeartbeats 8000000 in
theorem rmayL3 (lr li ls : Int) (lx : ByteArray) (is : List It) (ts : List Dt) (ia ta : Option Addr) (ic tc : Nat) (w : World) (hl : LfAt w ⟨3, 0, 0, ((lr, li), ls), lx, is, ts⟩ ia ic ta tc) (hd : eqD ((lr, li), ls) ((0, 0), 0) = true) (hx : lx.toList = []) :
    Calls Tryz.prog 195 #[lval ⟨3, 0, 0, ((lr, li), ls), lx, is, ts⟩ ia ic ta tc] w fun e w' => ∃ q : Bool, e = .returned (.bool q) ∧ (q = true ↔ AllI false is ts ∧ AllT ts) ∧ Below w.heap.size w w' := by
  obtain ⟨hv, hu, hn, hm⟩ := hl
  dsimp only at hv hu hn hm
  have Hv := Lib.hid hv
  have Hu := Lib.hid hu
  clear hv hu
  have Hno := Lib.hid (fun (h : ¬ AllI false is ts) => (fun hh => h hh.1 : ¬ (AllI false is ts ∧ AllT ts)))
  simp only [lval]
  go_enter Tryz.func195, Tryz.ntmps195
  go_wp2_with fail
  go_loopw [4] (fun j wr => ∃ k : Nat, k ≤ is.length ∧ j = .int .i64 k ∧ Hid ((∀ x ∈ is.take k, OkItem false x ∧ x.d ∉ ts) ∧ upTo ltI is k ∧ (dotsOf (is.take k)).Nodup) ∧ Hid (RM w (lcells ⟨3, 0, 0, ((lr, li), ls), lx, is, ts⟩ ia ic ta tc) #[.int .u8 0, .int .u32 0, .int .u64 0] wr)) (fun j _ => is.length - (intOf j).toNat)
  case atStart => exact ⟨0, Nat.zero_le _, rfl, Lib.hid ⟨by simp, upTo.zero, by simp [dotsOf]⟩, Lib.hid (RM.of (Below.refl _ _))⟩
  case round =>
    obtain ⟨k, hk, rfl, hi, hE⟩ := hrel
    have Hi := Lib.hid hi.out
    have E := Lib.hid hE.out
    have g0 := cells_at E.out.g
    simp only [lcells] at g0
    clear hi hE hd hx
    by_cases hlt : k < is.length
    · obtain ⟨⟨t, ⟨⟨r, i⟩, s⟩, x⟩, hx⟩ : ∃ x, is[k]? = some x := ⟨is[k], by simp [hlt]⟩
      obtain ⟨ad, had, ⟨c0, c1, c2, c3, c4⟩, hl0⟩ := (Hv.out.below E.out.bel).at hx
      subst had
      dsimp only at c0 c1 c2 c3 c4
      have Hx := Lib.hid hx
      clear hx
      go_wp2_with fail
      refine (rmay_any r i s _).mono ?_
      rintro e w1 ⟨rfl, hb1⟩
      have D : Hid (w1.heap[wr.heap.size]? = some (.cells (icellA ⟨t, ((r, i), s), x⟩) 180 (0, 0))) := Lib.hid (new1 hb1).1
      replace E := Lib.hid (E.out.step (new1 hb1).2.2)
      have hz : wr.heap.size + 1 ≤ w1.heap.size := (new1 hb1).2.1
      clear hb1 c0 c1 c2 c3 c4 g0
      have g0 := cells_at E.out.g
      simp only [lcells] at g0
      have d0 := cells_at D.out
      simp only [icellA] at d0
      cases hm' : may ((r, i), s) with
      | false =>
        have He := Lib.hid (show ¬ AllI false is ts from fun h => bad_item (timed := false) Hx.out (fun h => by have := h.1; rw [hm'] at this; cases this) h.1)
        clear hm' 
        go_wp2_with fail
        go_ret
        exact ⟨false, rfl, false_iff' (Hno.out He.out), E.out.bel⟩
      | true =>
        have Hm := Lib.hid hm'
        clear hm'
        by_cases hsz : x.size ≤ 40
        · have Hsz := Lib.hid hsz
          have hsz' : decide (x.size ≤ 40) = true := by simpa using hsz
          by_cases ht0 : t = 0
          · subst ht0
            have Hok := Lib.hid (show OkItem false ⟨0, ((r, i), s), x⟩ from ⟨Hm.out, hsz, fun h => (by cases h), fun _ => rfl⟩)
            go_wp2_with fail
            refine (ritem_any (some ad) ic is ((r, i), s) _ (Hv.out.below E.out.bel) (by omega)).mono ?_
            rintro e w2 ⟨q, rfl, hq, hb⟩
            have Hq := Lib.hid hq
            clear hq g0 d0
            have hbz := hb
            replace E := Lib.hid (E.out.step hbz)
            replace D := Lib.hid ((hbz.block _ (heap_lt D.out)).trans D.out)
            have hzs := hbz.size
            have hz : wr.heap.size + 1 ≤ w2.heap.size := by omega
            clear hb hbz hzs
            have g0 := cells_at E.out.g
            simp only [lcells] at g0
            have d0 := cells_at D.out
            simp only [icellA] at d0
            by_cases hqk : q = (k : Int)
            · have Hn := Lib.hid (stands_at Hx.out (hqk ▸ Hq.out))
              subst hqk
              clear Hq
              go_wp2_with fail
              refine (rtomb_any ta tc ts ((r, i), s) _ (Hu.out.below E.out.bel) (by first | omega | (simp; done) | (simp; omega))).mono ?_
              rintro e w3 ⟨q, rfl, hq, hb⟩
              have Hq := Lib.hid hq
              clear hq g0 d0
              have hbz := hb
              replace E := Lib.hid (E.out.step hbz)
              replace D := Lib.hid ((hbz.block _ (heap_lt D.out)).trans D.out)
              have hzs := hbz.size
              have hz : wr.heap.size + 1 ≤ w3.heap.size := by omega
              clear hb hbz hzs
              have g0 := cells_at E.out.g
              simp only [lcells] at g0
              have d0 := cells_at D.out
              simp only [icellA] at d0
              cases q with
              | true =>
                have He := Lib.hid (show ¬ AllI false is ts from fun h => h.2 _ (List.mem_of_getElem? Hx.out) (Hq.out.1 (by simp)))
                go_wp2_with fail
                go_ret
                exact ⟨false, rfl, false_iff' (Hno.out He.out), E.out.bel⟩
              | false =>
                have Hnt := Lib.hid (show ((r, i), s) ∉ ts from fun h => by have := Hq.out.2 h; cases this)
                have hl3 : Hid (ad.block < w3.heap.size) := Lib.hid (by omega)
                clear Hq
                cases k with
                | zero =>
                  go_wp2_with fail
                  refine region_text [([0, 1, 2, 3, 4, 5, 6, 7, 8, 9, 10, 11, 12, 13, 14, 15, 16, 17, 18, 19, 20, 21, 22, 23], false)] mixed (by kernel_rfl) ?_
                  simp only [wpSegs, List.map_cons, List.map_nil, List.getD_cons_succ, List.getD_cons_zero]
                  go_wp2_with fail
                  refine And.intro (by kernel_rfl) ?_
                  go_wp2_with fail
                  go_roundw
                  case rel => exact ⟨1, by omega, by go_num, Lib.hid ⟨all_snoc Hx.out Hi.out.1 ⟨Hok.out, Hnt.out⟩, upTo.one, nodup_snoc Hx.out Hi.out.2.2 Hn.out⟩, Lib.hid (E.out.step (Below.refl _ _).drew)⟩
                  case measure => simp [intOf]; omega
                | succ m =>
                  obtain ⟨⟨t', ⟨⟨r', i'⟩, s'⟩, x'⟩, hy⟩ : ∃ x, is[m]? = some x := ⟨is[m], by simp [show m < is.length by omega]⟩
                  obtain ⟨ae, hae, ⟨p0, p1, p2, p3, p4⟩, hl1⟩ := (Hv.out.below E.out.bel).at hy
                  cases hae
                  dsimp only at p0 p1 p2 p3 p4
                  have Hy := Lib.hid hy
                  clear hy
                  go_wp2_with fail
                  refine region_text [([0, 1, 2, 3, 4, 5, 6, 7, 8, 9, 10, 11, 12, 13, 14, 15, 16, 17, 18, 19, 20, 21, 22, 23], false)] mixed (by kernel_rfl) ?_
                  simp only [wpSegs, List.map_cons, List.map_nil, List.getD_cons_succ, List.getD_cons_zero]
                  go_wp2_with fail
                  refine (rahead_any t' ((r', i'), s') 0 ((r, i), s) _).mono ?_
                  rintro e w4 ⟨rfl, hb4⟩
                  have hb := ((Below.refl _ w3).drew).trans hb4
                  clear g0 d0 hb4 p0 p1 p2 p3 p4
                  have hbz := hb
                  replace E := Lib.hid (E.out.step hbz)
                  replace D := Lib.hid ((hbz.block _ (heap_lt D.out)).trans D.out)
                  have hzs := hbz.size
                  have hz : wr.heap.size + 1 ≤ w4.heap.size := by omega
                  clear hb hbz hzs
                  have g0 := cells_at E.out.g
                  simp only [lcells] at g0
                  have d0 := cells_at D.out
                  simp only [icellA] at d0
                  cases ha : aheadT t' ((r', i'), s') 0 ((r, i), s) with
                  | false =>
                    have He := Lib.hid (show ¬ AllI false is ts from fun h => bad_pair (timed := false) Hy.out Hx.out ha h.1)
                    clear ha
                    go_wp2_with fail
                    refine And.intro (by kernel_rfl) ?_
                    go_wp2_with fail
                    go_ret
                    exact ⟨false, rfl, false_iff' (Hno.out He.out), E.out.bel⟩
                  | true =>
                    have Ha := Lib.hid ha
                    clear ha
                    go_wp2_with fail
                    refine And.intro (by kernel_rfl) ?_
                    go_wp2_with fail
                    go_roundw
                    case rel => exact ⟨m + 2, by omega, by go_num, Lib.hid ⟨all_snoc Hx.out Hi.out.1 ⟨Hok.out, Hnt.out⟩, Hi.out.2.1.succ Hy.out Hx.out Ha.out, nodup_snoc Hx.out Hi.out.2.2 Hn.out⟩, Lib.hid E.out⟩
                    case measure => simp [intOf]; omega
            · have hqk' : (q != (k : Int)) = true := by simpa using hqk
              have He := Lib.hid (show ¬ AllI false is ts from fun h => twice_bad (timed := false) Hx.out Hq.out hqk h.1)
              clear hqk Hq
              go_wp2_with fail
              go_ret
              exact ⟨false, rfl, false_iff' (Hno.out He.out), E.out.bel⟩
          · have ht0' : (t != 0) = true := by simpa using ht0
            have He := Lib.hid (show ¬ AllI false is ts from fun h => bad_item (timed := false) Hx.out (fun h => ht0 (h.2.2.2 rfl)) h.1)
            clear ht0
            go_wp2_with fail
            go_ret
            exact ⟨false, rfl, false_iff' (Hno.out He.out), E.out.bel⟩
        · have hsz' : decide (40 < (x.size : Int)) = true := by simp; omega
          have He := Lib.hid (show ¬ AllI false is ts from fun h => bad_item (timed := false) Hx.out (fun h => hsz h.2.1) h.1)
          clear hsz
          go_wp2_with fail
          go_ret
          exact ⟨false, rfl, false_iff' (Hno.out He.out), E.out.bel⟩
    · have hall := Hi.out.1
      have hnd := Hi.out.2.2
      rw [List.take_of_length_le (by omega)] at hall hnd
      have Hall := Lib.hid (show AllI false is ts from ⟨⟨fun x hx => (hall x hx).1, upTo.all (lt := ltI) (fun h1 h2 => ltI_trans h1 h2) Hi.out.2.1 (by omega), hnd⟩, fun x hx => (hall x hx).2⟩)
      have Hno := Lib.hid (fun (h : ¬ AllT ts) => (fun hh => h hh.2 : ¬ (AllI false is ts ∧ AllT ts)))
      clear hall hnd
      go_wp2_with fail
      go_loopw [6] (fun j wr => ∃ k : Nat, k ≤ ts.length ∧ j = .int .i64 k ∧ Hid ((∀ d ∈ ts.take k, may d = true) ∧ upTo ltD ts k) ∧ Hid (RM w (lcells ⟨3, 0, 0, ((lr, li), ls), lx, is, ts⟩ ia ic ta tc) #[.int .u8 0, .int .u32 0, .int .u64 0] wr)) (fun j _ => ts.length - (intOf j).toNat)
      case atStart => exact ⟨0, Nat.zero_le _, rfl, Lib.hid ⟨by simp, upTo.zero⟩, E⟩
      case round =>
        clear E g0 Hi
        obtain ⟨k, hk, rfl, hi, hE⟩ := hrel
        have Hi := Lib.hid hi.out
        have E := Lib.hid hE.out
        have g0 := cells_at E.out.g
        simp only [lcells] at g0
        clear hi hE
        by_cases hlt : k < ts.length
        · obtain ⟨⟨⟨r, i⟩, s⟩, hx⟩ : ∃ x, ts[k]? = some x := ⟨ts[k], by simp [hlt]⟩
          obtain ⟨ad, had, c0, c1, c2, hl0⟩ := (Hu.out.below E.out.bel).at hx
          subst had
          dsimp only at c0 c1 c2
          have Hx := Lib.hid hx
          clear hx
          go_wp2_with fail
          refine region_text [([0, 1, 2, 3, 4, 5, 6, 7, 8, 9, 10, 11, 12, 13, 14, 15, 16, 17, 18, 19, 20, 21, 22, 23, 24, 25], false)] mixed (by kernel_rfl) ?_
          simp only [wpSegs, List.map_cons, List.map_nil, List.getD_cons_succ, List.getD_cons_zero]
          go_wp2_with fail
          refine (rmay_any r i s _).mono ?_
          rintro e w1 ⟨rfl, hb1⟩
          have hb := ((Below.refl _ _).drew).trans hb1
          replace E := Lib.hid (E.out.step hb)
          have hzs := hb.size
          have hl1 : ad.block < w1.heap.size := by omega
          clear hb1 hb c0 c1 c2 g0
          obtain ⟨ad', had, c0, c1, c2, hl0'⟩ := (Hu.out.below E.out.bel).at Hx.out
          cases had
          dsimp only at c0 c1 c2
          have g0 := cells_at E.out.g
          simp only [lcells] at g0
          cases hm' : may ((r, i), s) with
          | false =>
            have He := Lib.hid (bad_t Hx.out hm')
            clear hm' 
            go_wp2_with fail
            refine And.intro (by kernel_rfl) ?_
            go_wp2_with fail
            go_ret
            exact ⟨false, rfl, false_iff' (Hno.out He.out), E.out.bel⟩
          | true =>
            have Hm := Lib.hid hm'
            clear hm'
            cases k with
            | zero =>
              go_wp2_with fail
              refine And.intro (by kernel_rfl) ?_
              go_wp2_with fail
              go_roundw
              case rel => exact ⟨1, by omega, by go_num, Lib.hid ⟨all_snoc Hx.out Hi.out.1 Hm.out, upTo.one⟩, Lib.hid E.out⟩
              case measure => simp [intOf]; omega
            | succ m =>
              obtain ⟨⟨⟨r', i'⟩, s'⟩, hy⟩ : ∃ x, ts[m]? = some x := ⟨ts[m], by simp [show m < ts.length by omega]⟩
              obtain ⟨ae, hae, p0, p1, p2, hl2⟩ := (Hu.out.below E.out.bel).at hy
              cases hae
              dsimp only at p0 p1 p2
              have Hy := Lib.hid hy
              clear hy
              go_wp2_with fail
              refine (rless_any r' i' s' r i s _).mono ?_
              rintro e w2 ⟨rfl, hb⟩
              replace E := Lib.hid (E.out.step hb)
              clear hb g0
              cases ha : lessD ((r', i'), s') ((r, i), s) with
              | false =>
                have He := Lib.hid (bad_tp Hy.out Hx.out ha)
                clear ha
                go_wp2_with fail
                refine And.intro (by kernel_rfl) ?_
                go_wp2_with fail
                go_ret
                exact ⟨false, rfl, false_iff' (Hno.out He.out), E.out.bel⟩
              | true =>
                have Ha := Lib.hid ha
                clear ha
                go_wp2_with fail
                refine And.intro (by kernel_rfl) ?_
                go_wp2_with fail
                go_roundw
                case rel => exact ⟨m + 2, by omega, by go_num, Lib.hid ⟨all_snoc Hx.out Hi.out.1 Hm.out, Hi.out.2.succ Hy.out Hx.out Ha.out⟩, Lib.hid E.out⟩
                case measure => simp [intOf]; omega
        · have hall := Hi.out.1
          rw [List.take_of_length_le (by omega)] at hall
          have HallT := Lib.hid (show AllT ts from ⟨hall, upTo.all (lt := ltD) (fun h1 h2 => ltD_trans h1 h2) Hi.out.2 (by omega)⟩)
          clear hall
          go_wp2_with fail
          go_ret
          exact ⟨true, rfl, true_iff' ⟨Hall.out, HallT.out⟩, E.out.bel⟩

set_option maxRecDepth 100000 in
set_option maxHeartbeats 8000000 in
theorem rmayL4 (lr li ls : Int) (lx : ByteArray) (is : List It) (ts : List Dt) (ia ta : Option Addr) (ic tc : Nat) (w : World) (hl : LfAt w ⟨4, 0, 0, ((lr, li), ls), lx, is, ts⟩ ia ic ta tc) (hd : eqD ((lr, li), ls) ((0, 0), 0) = true) (hx : lx.toList = []) (hts : ts = []) :
    Calls Tryz.prog 195 #[lval ⟨4, 0, 0, ((lr, li), ls), lx, is, ts⟩ ia ic ta tc] w fun e w' => ∃ q : Bool, e = .returned (.bool q) ∧ (q = true ↔ AllI true is ts ∧ AllT ts) ∧ Below w.heap.size w w' := by
  obtain ⟨hv, hu, hn, hm⟩ := hl
  dsimp only at hv hu hn hm
  subst hts
  have Hv := Lib.hid hv
  have Hu := Lib.hid hu
  clear hv hu
  have Hno := Lib.hid (fun (h : ¬ AllI true is ([] : List Dt)) => (fun hh => h hh.1 : ¬ (AllI true is ([] : List Dt) ∧ AllT ([] : List Dt))))
  simp only [lval]
  go_enter Tryz.func195, Tryz.ntmps195
  go_wp2_with fail
  go_loopw [4] (fun j wr => ∃ k : Nat, k ≤ is.length ∧ j = .int .i64 k ∧ Hid ((∀ x ∈ is.take k, OkItem true x ∧ x.d ∉ ([] : List Dt)) ∧ upTo ltI is k ∧ (dotsOf (is.take k)).Nodup) ∧ Hid (RM w (lcells ⟨4, 0, 0, ((lr, li), ls), lx, is, []⟩ ia ic ta tc) #[.int .u8 0, .int .u32 0, .int .u64 0] wr)) (fun j _ => is.length - (intOf j).toNat)
  case atStart => exact ⟨0, Nat.zero_le _, rfl, Lib.hid ⟨by simp, upTo.zero, by simp [dotsOf]⟩, Lib.hid (RM.of (Below.refl _ _))⟩
  case round =>
    obtain ⟨k, hk, rfl, hi, hE⟩ := hrel
    have Hi := Lib.hid hi.out
    have E := Lib.hid hE.out
    have g0 := cells_at E.out.g
    simp only [lcells] at g0
    clear hi hE hd hx
    by_cases hlt : k < is.length
    · obtain ⟨⟨t, ⟨⟨r, i⟩, s⟩, x⟩, hx⟩ : ∃ x, is[k]? = some x := ⟨is[k], by simp [hlt]⟩
      obtain ⟨ad, had, ⟨c0, c1, c2, c3, c4⟩, hl0⟩ := (Hv.out.below E.out.bel).at hx
      subst had
      dsimp only at c0 c1 c2 c3 c4
      have Hx := Lib.hid hx
      clear hx
      go_wp2_with fail
      refine (rmay_any r i s _).mono ?_
      rintro e w1 ⟨rfl, hb1⟩
      have D : Hid (w1.heap[wr.heap.size]? = some (.cells (icellA ⟨t, ((r, i), s), x⟩) 180 (0, 0))) := Lib.hid (new1 hb1).1
      replace E := Lib.hid (E.out.step (new1 hb1).2.2)
      have hz : wr.heap.size + 1 ≤ w1.heap.size := (new1 hb1).2.1
      clear hb1 c0 c1 c2 c3 c4 g0
      have g0 := cells_at E.out.g
      simp only [lcells] at g0
      have d0 := cells_at D.out
      simp only [icellA] at d0
      cases hm' : may ((r, i), s) with
      | false =>
        have He := Lib.hid (show ¬ AllI true is ([] : List Dt) from fun h => bad_item (timed := true) Hx.out (fun h => by have := h.1; rw [hm'] at this; cases this) h.1)
        clear hm' 
        go_wp2_with fail
        go_ret
        exact ⟨false, rfl, false_iff' (Hno.out He.out), E.out.bel⟩
      | true =>
        have Hm := Lib.hid hm'
        clear hm'
        by_cases hsz : x.size ≤ 40
        · have Hsz := Lib.hid hsz
          have hsz' : decide (x.size ≤ 40) = true := by simpa using hsz
          by_cases ht1 : 1 ≤ t
          · by_cases ht2 : t ≤ 1099511627776
            · have Hok := Lib.hid (show OkItem true ⟨t, ((r, i), s), x⟩ from ⟨Hm.out, hsz, fun _ => ⟨ht1, ht2⟩, fun h => (by cases h)⟩)
              go_wp2_with fail
              refine (ritem_any (some ad) ic is ((r, i), s) _ (Hv.out.below E.out.bel) (by omega)).mono ?_
              rintro e w2 ⟨q, rfl, hq, hb⟩
              have Hq := Lib.hid hq
              clear hq g0 d0
              have hbz := hb
              replace E := Lib.hid (E.out.step hbz)
              replace D := Lib.hid ((hbz.block _ (heap_lt D.out)).trans D.out)
              have hzs := hbz.size
              have hz : wr.heap.size + 1 ≤ w2.heap.size := by omega
              clear hb hbz hzs
              have g0 := cells_at E.out.g
              simp only [lcells] at g0
              have d0 := cells_at D.out
              simp only [icellA] at d0
              by_cases hqk : q = (k : Int)
              · have Hn := Lib.hid (stands_at Hx.out (hqk ▸ Hq.out))
                subst hqk
                clear Hq
                go_wp2_with fail
                refine (rtomb_any ta tc ([] : List Dt) ((r, i), s) _ (Hu.out.below E.out.bel) (by first | omega | (simp; done) | (simp; omega))).mono ?_
                rintro e w3 ⟨q, rfl, hq, hb⟩
                have Hq := Lib.hid hq
                clear hq g0 d0
                have hbz := hb
                replace E := Lib.hid (E.out.step hbz)
                replace D := Lib.hid ((hbz.block _ (heap_lt D.out)).trans D.out)
                have hzs := hbz.size
                have hz : wr.heap.size + 1 ≤ w3.heap.size := by omega
                clear hb hbz hzs
                have g0 := cells_at E.out.g
                simp only [lcells] at g0
                have d0 := cells_at D.out
                simp only [icellA] at d0
                cases q with
                | true =>
                  have He := Lib.hid (show ¬ AllI true is ([] : List Dt) from fun h => h.2 _ (List.mem_of_getElem? Hx.out) (Hq.out.1 (by simp)))
                  go_wp2_with fail
                  go_ret
                  exact ⟨false, rfl, false_iff' (Hno.out He.out), E.out.bel⟩
                | false =>
                  have Hnt := Lib.hid (show ((r, i), s) ∉ ([] : List Dt) from fun h => by have := Hq.out.2 h; cases this)
                  have hl3 : Hid (ad.block < w3.heap.size) := Lib.hid (by omega)
                  clear Hq
                  cases k with
                  | zero =>
                    go_wp2_with fail
                    refine region_text [([0, 1, 2, 3, 4, 5, 6, 7, 8, 9, 10, 11, 12, 13, 14, 15, 16, 17, 18, 19, 20, 21, 22, 23], false)] mixed (by kernel_rfl) ?_
                    simp only [wpSegs, List.map_cons, List.map_nil, List.getD_cons_succ, List.getD_cons_zero]
                    go_wp2_with fail
                    refine And.intro (by kernel_rfl) ?_
                    go_wp2_with fail
                    go_roundw
                    case rel => exact ⟨1, by omega, by go_num, Lib.hid ⟨all_snoc Hx.out Hi.out.1 ⟨Hok.out, Hnt.out⟩, upTo.one, nodup_snoc Hx.out Hi.out.2.2 Hn.out⟩, Lib.hid (E.out.step (Below.refl _ _).drew)⟩
                    case measure => simp [intOf]; omega
                  | succ m =>
                    obtain ⟨⟨t', ⟨⟨r', i'⟩, s'⟩, x'⟩, hy⟩ : ∃ x, is[m]? = some x := ⟨is[m], by simp [show m < is.length by omega]⟩
                    obtain ⟨ae, hae, ⟨p0, p1, p2, p3, p4⟩, hl1⟩ := (Hv.out.below E.out.bel).at hy
                    cases hae
                    dsimp only at p0 p1 p2 p3 p4
                    have Hy := Lib.hid hy
                    clear hy
                    go_wp2_with fail
                    refine region_text [([0, 1, 2, 3, 4, 5, 6, 7, 8, 9, 10, 11, 12, 13, 14, 15, 16, 17, 18, 19, 20, 21, 22, 23], false)] mixed (by kernel_rfl) ?_
                    simp only [wpSegs, List.map_cons, List.map_nil, List.getD_cons_succ, List.getD_cons_zero]
                    go_wp2_with fail
                    refine (rahead_any t' ((r', i'), s') t ((r, i), s) _).mono ?_
                    rintro e w4 ⟨rfl, hb4⟩
                    have hb := ((Below.refl _ w3).drew).trans hb4
                    clear g0 d0 hb4 p0 p1 p2 p3 p4
                    have hbz := hb
                    replace E := Lib.hid (E.out.step hbz)
                    replace D := Lib.hid ((hbz.block _ (heap_lt D.out)).trans D.out)
                    have hzs := hbz.size
                    have hz : wr.heap.size + 1 ≤ w4.heap.size := by omega
                    clear hb hbz hzs
                    have g0 := cells_at E.out.g
                    simp only [lcells] at g0
                    have d0 := cells_at D.out
                    simp only [icellA] at d0
                    cases ha : aheadT t' ((r', i'), s') t ((r, i), s) with
                    | false =>
                      have He := Lib.hid (show ¬ AllI true is ([] : List Dt) from fun h => bad_pair (timed := true) Hy.out Hx.out ha h.1)
                      clear ha
                      go_wp2_with fail
                      refine And.intro (by kernel_rfl) ?_
                      go_wp2_with fail
                      go_ret
                      exact ⟨false, rfl, false_iff' (Hno.out He.out), E.out.bel⟩
                    | true =>
                      have Ha := Lib.hid ha
                      clear ha
                      go_wp2_with fail
                      refine And.intro (by kernel_rfl) ?_
                      go_wp2_with fail
                      go_roundw
                      case rel => exact ⟨m + 2, by omega, by go_num, Lib.hid ⟨all_snoc Hx.out Hi.out.1 ⟨Hok.out, Hnt.out⟩, Hi.out.2.1.succ Hy.out Hx.out Ha.out, nodup_snoc Hx.out Hi.out.2.2 Hn.out⟩, Lib.hid E.out⟩
                      case measure => simp [intOf]; omega
              · have hqk' : (q != (k : Int)) = true := by simpa using hqk
                have He := Lib.hid (show ¬ AllI true is ([] : List Dt) from fun h => twice_bad (timed := true) Hx.out Hq.out hqk h.1)
                clear hqk Hq
                go_wp2_with fail
                go_ret
                exact ⟨false, rfl, false_iff' (Hno.out He.out), E.out.bel⟩
            · have ht2' : decide (1099511627776 < t) = true := by simp; omega
              have He := Lib.hid (show ¬ AllI true is ([] : List Dt) from fun h => bad_item (timed := true) Hx.out (fun h => ht2 (h.2.2.1 rfl).2) h.1)
              go_wp2_with fail
              go_ret
              exact ⟨false, rfl, false_iff' (Hno.out He.out), E.out.bel⟩
          · have ht1' : decide (t < 1) = true := by simp; omega
            have He := Lib.hid (show ¬ AllI true is ([] : List Dt) from fun h => bad_item (timed := true) Hx.out (fun h => ht1 (h.2.2.1 rfl).1) h.1)
            go_wp2_with fail
            go_ret
            exact ⟨false, rfl, false_iff' (Hno.out He.out), E.out.bel⟩
        · have hsz' : decide (40 < (x.size : Int)) = true := by simp; omega
          have He := Lib.hid (show ¬ AllI true is ([] : List Dt) from fun h => bad_item (timed := true) Hx.out (fun h => hsz h.2.1) h.1)
          clear hsz
          go_wp2_with fail
          go_ret
          exact ⟨false, rfl, false_iff' (Hno.out He.out), E.out.bel⟩
    · have hall := Hi.out.1
      have hnd := Hi.out.2.2
      rw [List.take_of_length_le (by omega)] at hall hnd
      have Hall := Lib.hid (show AllI true is ([] : List Dt) from ⟨⟨fun x hx => (hall x hx).1, upTo.all (lt := ltI) (fun h1 h2 => ltI_trans h1 h2) Hi.out.2.1 (by omega), hnd⟩, fun x hx => (hall x hx).2⟩)
      have Hno := Lib.hid (fun (h : ¬ AllT ([] : List Dt)) => (fun hh => h hh.2 : ¬ (AllI true is ([] : List Dt) ∧ AllT ([] : List Dt))))
      clear hall hnd
      go_wp2_with fail
      go_loopw [6] (fun j w0 => j = .int .i64 0 ∧ Hid (RM w (lcells ⟨4, 0, 0, ((lr, li), ls), lx, is, []⟩ ia ic ta tc) #[.int .u8 0, .int .u32 0, .int .u64 0] w0)) (fun j _ => 0)
      case atStart => exact ⟨rfl, E⟩
      case round =>
        rename_i w0 _
        obtain ⟨rfl, hE⟩ := hrel
        have g0 := cells_at hE.out.g
        simp only [lcells] at g0
        go_wp2_with fail
        go_ret
        exact ⟨true, rfl, true_iff' ⟨Hall.out, by simp, by simp⟩, hE.out.bel⟩

end Go.Proofs.YtaandcblndldmaaGreat
