/- slices.IndexFunc with like$1. (printed by wip/tools/genlikeat.py) | (*queue).like. (printed by wip/tools/genlikeq.py) -/
import Derived.Test.YtmabjghjkgicgaaGreatBatC
/- BatJ -/
namespace Go.Proofs.YtmabjghjkgicgaaGreat
open Go.RowKit
set_option linter.unusedVariables false
set_option linter.unusedSimpArgs false

/-- the first place of one that is such -/
def IdxTo (w : World) (V : List Ow) (P : Opn → Prop) (e : Ending) (w' : World) : Prop := ∃ k : Int, e = .returned (.int .i64 k) ∧ ((k = -1 ∧ ∀ v ∈ V, ¬ P v.o) ∨ ∃ (q : Nat) (v : Ow), k = q ∧ V[q]? = some v ∧ P v.o ∧ ∀ u ∈ V.take q, ¬ P u.o) ∧ Below w.heap.size w w'
def JIdx (V : List Ow) (P : Opn → Prop) (w : World) (j : Value) (wr : World) : Prop := ∃ q : Nat, q ≤ V.length ∧ j = .int .i64 q ∧ Below w.heap.size w wr ∧ ∀ v ∈ V.take q, ¬ P v.o
set_option maxRecDepth 100000 in
set_option maxHeartbeats 4000000 in
theorem likeAtSet_any (a : Option Addr) (c : Nat) (V : List Ow) (o : Ow) (pb ib : Nat) (t : TypeId) (w : World) (hV : Ops w a c V) (hn : V.length ≤ 1000000) (hmV : ∀ v ∈ V, MayO v.o) (h : OBlk w pb o) (hi : w.heap[ib]? = some (.cells #[.func (.func 40) #[] #[]] t (0, 0))) (ho : OwAt w o) (hmo : MayO o.o) :
    Calls Tryz.prog 35 #[.slice a V.length c, .func (.func 64) #[] #[.pointer (some ⟨pb, 0, none⟩), .pointer (some ⟨ib, 0, none⟩)]] w (IdxTo w V (fun x => x.k = o.o.k ∧ x.p = o.o.p ∧ True)) := by
  have he := enters_of Tryz.func64 (by kernel_rfl) rfl
  have H := Lib.hid hV
  have HmV := Lib.hid hmV
  have HP := Lib.hid h
  have HI := Lib.hid hi
  have Ho := Lib.hid ho
  have Hmo := Lib.hid hmo
  clear hV hmV h hi ho hmo
  go_enter Tryz.func35, Tryz.ntmps35
  go_wp2_with fail
  go_loopw [8] (fun j wr => JIdx V (fun x => x.k = o.o.k ∧ x.p = o.o.p ∧ True) w j wr) (fun j _ => V.length - (intOf j).toNat)
  case atStart => exact ⟨0, Nat.zero_le _, rfl, Below.refl _ _, fun s hs => by simp at hs⟩
  case round =>
    obtain ⟨q, hq, rfl, hB, hall⟩ := hrel
    have HB := Lib.hid hB
    have Hall := Lib.hid hall
    clear hB hall
    by_cases hlt : q < V.length
    · obtain ⟨x, hx⟩ : ∃ x, V[q]? = some x := ⟨V[q], by simp [hlt]⟩
      obtain ⟨ad, had, ⟨c0, c1, c2, c3, c4, hat⟩, hl0⟩ := (H.out.below HB.out).at hx
      subst had
      have Hx := Lib.hid hx
      have Hat := Lib.hid hat
      clear hx hat
      go_wp2_with fail
      refine (like1Set_any x o pb ib pb t _ (HP.out.below HB.out) ((HB.out.block _ (heap_lt HI.out)).trans HI.out) (HP.out.below HB.out) Hat.out (Ho.out.below HB.out) (HmV.out x (List.mem_of_getElem? Hx.out)) Hmo.out).mono ?_
      intro e w1 hto
      obtain ⟨z, rfl, hz, hb⟩ := hto
      have HB1 := Lib.hid (below2 HB.out hb HB.out.size)
      have Hz := Lib.hid hz
      clear hb hz c0 c1 c2 c3 c4 Hat
      cases z with
      | true =>
        have Hy := Lib.hid (Hz.out.1 (by simp))
        go_wp2_with fail
        go_ret
        exact ⟨q, rfl, .inr ⟨q, x, rfl, Hx.out, Hy.out, Hall.out⟩, HB1.out⟩
      | false =>
        have Hnx := Lib.hid (show ¬ (x.o.k = o.o.k ∧ x.o.p = o.o.p ∧ True) from fun h => by have := Hz.out.2 h; cases this)
        go_wp2_with fail
        go_roundw
        case rel => exact ⟨q + 1, by omega, by go_num, HB1.out, all_snoc Hx.out Hall.out Hnx.out⟩
        case measure => simp [intOf]; omega
    · have ha := Hall.out
      rw [List.take_of_length_le (by omega)] at ha
      have Ha := Lib.hid ha
      clear ha
      go_wp2_with fail
      go_ret
      exact ⟨-1, rfl, .inl ⟨rfl, by first | exact Ha.out | exact fun v hv hh => Ha.out v hv ⟨hh.1, hh.2, trivial⟩⟩, HB.out⟩
set_option maxRecDepth 100000 in
set_option maxHeartbeats 4000000 in
theorem likeAtPut_any (a : Option Addr) (c : Nat) (V : List Ow) (o : Ow) (pb ib qb : Nat) (t : TypeId) (w : World) (hV : Ops w a c V) (hn : V.length ≤ 1000000) (hmV : ∀ v ∈ V, MayO v.o) (h : OBlk w pb o) (hi : w.heap[ib]? = some (.cells #[.func (.func 42) #[] #[.pointer (some ⟨qb, 0, none⟩)]] t (0, 0))) (hq : OBlk w qb o) (ho : OwAt w o) (hmo : MayO o.o) :
    Calls Tryz.prog 35 #[.slice a V.length c, .func (.func 64) #[] #[.pointer (some ⟨pb, 0, none⟩), .pointer (some ⟨ib, 0, none⟩)]] w (IdxTo w V (fun x => x.k = o.o.k ∧ x.p = o.o.p ∧ PutIs o.o x)) := by
  have he := enters_of Tryz.func64 (by kernel_rfl) rfl
  have H := Lib.hid hV
  have HmV := Lib.hid hmV
  have HP := Lib.hid h
  have HI := Lib.hid hi
  have HQ := Lib.hid hq
  have Ho := Lib.hid ho
  have Hmo := Lib.hid hmo
  clear hV hmV h hi hq ho hmo
  go_enter Tryz.func35, Tryz.ntmps35
  go_wp2_with fail
  go_loopw [8] (fun j wr => JIdx V (fun x => x.k = o.o.k ∧ x.p = o.o.p ∧ PutIs o.o x) w j wr) (fun j _ => V.length - (intOf j).toNat)
  case atStart => exact ⟨0, Nat.zero_le _, rfl, Below.refl _ _, fun s hs => by simp at hs⟩
  case round =>
    obtain ⟨q, hq, rfl, hB, hall⟩ := hrel
    have HB := Lib.hid hB
    have Hall := Lib.hid hall
    clear hB hall
    by_cases hlt : q < V.length
    · obtain ⟨x, hx⟩ : ∃ x, V[q]? = some x := ⟨V[q], by simp [hlt]⟩
      obtain ⟨ad, had, ⟨c0, c1, c2, c3, c4, hat⟩, hl0⟩ := (H.out.below HB.out).at hx
      subst had
      have Hx := Lib.hid hx
      have Hat := Lib.hid hat
      clear hx hat
      go_wp2_with fail
      refine (like1Put_any x o pb ib qb t _ (HP.out.below HB.out) ((HB.out.block _ (heap_lt HI.out)).trans HI.out) (HQ.out.below HB.out) Hat.out (Ho.out.below HB.out) (HmV.out x (List.mem_of_getElem? Hx.out)) Hmo.out).mono ?_
      intro e w1 hto
      obtain ⟨z, rfl, hz, hb⟩ := hto
      have HB1 := Lib.hid (below2 HB.out hb HB.out.size)
      have Hz := Lib.hid hz
      clear hb hz c0 c1 c2 c3 c4 Hat
      cases z with
      | true =>
        have Hy := Lib.hid (Hz.out.1 (by simp))
        go_wp2_with fail
        go_ret
        exact ⟨q, rfl, .inr ⟨q, x, rfl, Hx.out, Hy.out, Hall.out⟩, HB1.out⟩
      | false =>
        have Hnx := Lib.hid (show ¬ (x.o.k = o.o.k ∧ x.o.p = o.o.p ∧ PutIs o.o x.o) from fun h => by have := Hz.out.2 h; cases this)
        go_wp2_with fail
        go_roundw
        case rel => exact ⟨q + 1, by omega, by go_num, HB1.out, all_snoc Hx.out Hall.out Hnx.out⟩
        case measure => simp [intOf]; omega
    · have ha := Hall.out
      rw [List.take_of_length_le (by omega)] at ha
      have Ha := Lib.hid ha
      clear ha
      go_wp2_with fail
      go_ret
      exact ⟨-1, rfl, .inl ⟨rfl, by first | exact Ha.out | exact fun v hv hh => Ha.out v hv ⟨hh.1, hh.2, trivial⟩⟩, HB.out⟩
set_option maxRecDepth 100000 in
set_option maxHeartbeats 4000000 in
theorem likeAtAdd_any (a : Option Addr) (c : Nat) (V : List Ow) (o : Ow) (pb ib qb : Nat) (t : TypeId) (w : World) (hV : Ops w a c V) (hn : V.length ≤ 1000000) (hmV : ∀ v ∈ V, MayO v.o) (h : OBlk w pb o) (hi : w.heap[ib]? = some (.cells #[.func (.func 39) #[] #[.pointer (some ⟨qb, 0, none⟩)]] t (0, 0))) (hq : OBlk w qb o) (ho : OwAt w o) (hmo : MayO o.o) (hk1 : o.o.k = 1) :
    Calls Tryz.prog 35 #[.slice a V.length c, .func (.func 64) #[] #[.pointer (some ⟨pb, 0, none⟩), .pointer (some ⟨ib, 0, none⟩)]] w (IdxTo w V (fun x => x.k = o.o.k ∧ x.p = o.o.p ∧ AddIs o.o x)) := by
  have he := enters_of Tryz.func64 (by kernel_rfl) rfl
  have H := Lib.hid hV
  have HmV := Lib.hid hmV
  have HP := Lib.hid h
  have HI := Lib.hid hi
  have HQ := Lib.hid hq
  have Ho := Lib.hid ho
  have Hmo := Lib.hid hmo
  have Hk1 := Lib.hid hk1
  clear hk1
  clear hV hmV h hi hq ho hmo
  go_enter Tryz.func35, Tryz.ntmps35
  go_wp2_with fail
  go_loopw [8] (fun j wr => JIdx V (fun x => x.k = o.o.k ∧ x.p = o.o.p ∧ AddIs o.o x) w j wr) (fun j _ => V.length - (intOf j).toNat)
  case atStart => exact ⟨0, Nat.zero_le _, rfl, Below.refl _ _, fun s hs => by simp at hs⟩
  case round =>
    obtain ⟨q, hq, rfl, hB, hall⟩ := hrel
    have HB := Lib.hid hB
    have Hall := Lib.hid hall
    clear hB hall
    by_cases hlt : q < V.length
    · obtain ⟨x, hx⟩ : ∃ x, V[q]? = some x := ⟨V[q], by simp [hlt]⟩
      obtain ⟨ad, had, ⟨c0, c1, c2, c3, c4, hat⟩, hl0⟩ := (H.out.below HB.out).at hx
      subst had
      have Hx := Lib.hid hx
      have Hat := Lib.hid hat
      clear hx hat
      go_wp2_with fail
      refine (like1Add_any x o pb ib qb t _ (HP.out.below HB.out) ((HB.out.block _ (heap_lt HI.out)).trans HI.out) (HQ.out.below HB.out) Hat.out (Ho.out.below HB.out) (HmV.out x (List.mem_of_getElem? Hx.out)) Hmo.out Hk1.out).mono ?_
      intro e w1 hto
      obtain ⟨z, rfl, hz, hb⟩ := hto
      have HB1 := Lib.hid (below2 HB.out hb HB.out.size)
      have Hz := Lib.hid hz
      clear hb hz c0 c1 c2 c3 c4 Hat
      cases z with
      | true =>
        have Hy := Lib.hid (Hz.out.1 (by simp))
        go_wp2_with fail
        go_ret
        exact ⟨q, rfl, .inr ⟨q, x, rfl, Hx.out, Hy.out, Hall.out⟩, HB1.out⟩
      | false =>
        have Hnx := Lib.hid (show ¬ (x.o.k = o.o.k ∧ x.o.p = o.o.p ∧ AddIs o.o x.o) from fun h => by have := Hz.out.2 h; cases this)
        go_wp2_with fail
        go_roundw
        case rel => exact ⟨q + 1, by omega, by go_num, HB1.out, all_snoc Hx.out Hall.out Hnx.out⟩
        case measure => simp [intOf]; omega
    · have ha := Hall.out
      rw [List.take_of_length_le (by omega)] at ha
      have Ha := Lib.hid ha
      clear ha
      go_wp2_with fail
      go_ret
      exact ⟨-1, rfl, .inl ⟨rfl, by first | exact Ha.out | exact fun v hv hh => Ha.out v hv ⟨hh.1, hh.2, trivial⟩⟩, HB.out⟩
set_option maxRecDepth 100000 in
set_option maxHeartbeats 4000000 in
theorem likeAtDrop_any (a : Option Addr) (c : Nat) (V : List Ow) (o : Ow) (pb ib qb : Nat) (t : TypeId) (w : World) (hV : Ops w a c V) (hn : V.length ≤ 1000000) (hmV : ∀ v ∈ V, MayO v.o) (h : OBlk w pb o) (hi : w.heap[ib]? = some (.cells #[.func (.func 43) #[] #[.pointer (some ⟨qb, 0, none⟩)]] t (0, 0))) (hq : OBlk w qb o) (ho : OwAt w o) (hmo : MayO o.o) :
    Calls Tryz.prog 35 #[.slice a V.length c, .func (.func 64) #[] #[.pointer (some ⟨pb, 0, none⟩), .pointer (some ⟨ib, 0, none⟩)]] w (IdxTo w V (fun x => x.k = o.o.k ∧ x.p = o.o.p ∧ DropIs o.o x)) := by
  have he := enters_of Tryz.func64 (by kernel_rfl) rfl
  have H := Lib.hid hV
  have HmV := Lib.hid hmV
  have HP := Lib.hid h
  have HI := Lib.hid hi
  have HQ := Lib.hid hq
  have Ho := Lib.hid ho
  have Hmo := Lib.hid hmo
  clear hV hmV h hi hq ho hmo
  go_enter Tryz.func35, Tryz.ntmps35
  go_wp2_with fail
  go_loopw [8] (fun j wr => JIdx V (fun x => x.k = o.o.k ∧ x.p = o.o.p ∧ DropIs o.o x) w j wr) (fun j _ => V.length - (intOf j).toNat)
  case atStart => exact ⟨0, Nat.zero_le _, rfl, Below.refl _ _, fun s hs => by simp at hs⟩
  case round =>
    obtain ⟨q, hq, rfl, hB, hall⟩ := hrel
    have HB := Lib.hid hB
    have Hall := Lib.hid hall
    clear hB hall
    by_cases hlt : q < V.length
    · obtain ⟨x, hx⟩ : ∃ x, V[q]? = some x := ⟨V[q], by simp [hlt]⟩
      obtain ⟨ad, had, ⟨c0, c1, c2, c3, c4, hat⟩, hl0⟩ := (H.out.below HB.out).at hx
      subst had
      have Hx := Lib.hid hx
      have Hat := Lib.hid hat
      clear hx hat
      go_wp2_with fail
      refine (like1Drop_any x o pb ib qb t _ (HP.out.below HB.out) ((HB.out.block _ (heap_lt HI.out)).trans HI.out) (HQ.out.below HB.out) Hat.out (Ho.out.below HB.out) (HmV.out x (List.mem_of_getElem? Hx.out)) Hmo.out).mono ?_
      intro e w1 hto
      obtain ⟨z, rfl, hz, hb⟩ := hto
      have HB1 := Lib.hid (below2 HB.out hb HB.out.size)
      have Hz := Lib.hid hz
      clear hb hz c0 c1 c2 c3 c4 Hat
      cases z with
      | true =>
        have Hy := Lib.hid (Hz.out.1 (by simp))
        go_wp2_with fail
        go_ret
        exact ⟨q, rfl, .inr ⟨q, x, rfl, Hx.out, Hy.out, Hall.out⟩, HB1.out⟩
      | false =>
        have Hnx := Lib.hid (show ¬ (x.o.k = o.o.k ∧ x.o.p = o.o.p ∧ DropIs o.o x.o) from fun h => by have := Hz.out.2 h; cases this)
        go_wp2_with fail
        go_roundw
        case rel => exact ⟨q + 1, by omega, by go_num, HB1.out, all_snoc Hx.out Hall.out Hnx.out⟩
        case measure => simp [intOf]; omega
    · have ha := Hall.out
      rw [List.take_of_length_le (by omega)] at ha
      have Ha := Lib.hid ha
      clear ha
      go_wp2_with fail
      go_ret
      exact ⟨-1, rfl, .inl ⟨rfl, by first | exact Ha.out | exact fun v hv hh => Ha.out v hv ⟨hh.1, hh.2, trivial⟩⟩, HB.out⟩
end Go.Proofs.YtmabjghjkgicgaaGreat

/- BatK -/
namespace Go.Proofs.YtmabjghjkgicgaaGreat
open Go.RowKit
set_option linter.unusedVariables false
set_option linter.unusedSimpArgs false

set_option maxRecDepth 100000 in
set_option maxHeartbeats 2000000 in
theorem likeSet_any (qp : Nat) (t0 : TypeId) (a : Option Addr) (c : Nat) (V : List Ow) (o : Ow) (w : World) (h0 : w.heap[qp]? = some (.cells #[.slice a V.length c] t0 (0, 0))) (hV : Ops w a c V) (hn : V.length ≤ 1000000) (hmV : ∀ v ∈ V, MayO v.o) (ho : OwAt w o) (hmo : MayO o.o) :
    Calls Tryz.prog 38 #[.pointer (some ⟨qp, 0, none⟩), .agg #[.int .u8 o.o.k, .slice o.pa o.o.p.length o.pc, .int .i64 o.o.n, .string o.o.x, .slice o.da o.o.ds.length o.dc], .func (.func 40) #[] #[]] w (IdxTo w V (fun x => x.k = o.o.k ∧ x.p = o.o.p ∧ True)) := by
  have H := Lib.hid hV
  have HmV := Lib.hid hmV
  have Ho := Lib.hid ho
  have Hmo := Lib.hid hmo
  have d0 := cells_at h0
  have hl0 := heap_lt h0
  clear hV hmV ho hmo h0
  go_enter Tryz.func38, Tryz.ntmps38
  go_wp2_with fail
  have two := fun (x y : Obj) => new2 (w := w) (o0 := x) (o1 := y) (Below.refl _ _)
  refine (likeAtSet_any a c V o w.heap.size (w.heap.size + 1) _ _ (H.out.below ?h1) hn HmV.out (two _ _).1 (two _ _).2.1 (Ho.out.below ?h3) Hmo.out).mono ?_
  case h1 => exact of_below _ _ _
  case h3 => exact of_below _ _ _
  intro e w1 hto
  obtain ⟨k, rfl, hk, hb⟩ := hto
  have HB := Lib.hid (new2 hb).2.2.2
  have Hk := Lib.hid hk
  clear hk hb two
  go_wp2_with fail
  go_ret
  exact ⟨k, rfl, Hk.out, HB.out⟩
set_option maxRecDepth 100000 in
set_option maxHeartbeats 2000000 in
theorem likePut_any (qp : Nat) (t0 : TypeId) (a : Option Addr) (c : Nat) (V : List Ow) (o : Ow) (qb : Nat) (w : World) (h0 : w.heap[qp]? = some (.cells #[.slice a V.length c] t0 (0, 0))) (hV : Ops w a c V) (hn : V.length ≤ 1000000) (hmV : ∀ v ∈ V, MayO v.o) (hq : OBlk w qb o) (ho : OwAt w o) (hmo : MayO o.o) :
    Calls Tryz.prog 38 #[.pointer (some ⟨qp, 0, none⟩), .agg #[.int .u8 o.o.k, .slice o.pa o.o.p.length o.pc, .int .i64 o.o.n, .string o.o.x, .slice o.da o.o.ds.length o.dc], .func (.func 42) #[] #[.pointer (some ⟨qb, 0, none⟩)]] w (IdxTo w V (fun x => x.k = o.o.k ∧ x.p = o.o.p ∧ PutIs o.o x)) := by
  have H := Lib.hid hV
  have HmV := Lib.hid hmV
  have HQ := Lib.hid hq
  have Ho := Lib.hid ho
  have Hmo := Lib.hid hmo
  have d0 := cells_at h0
  have hl0 := heap_lt h0
  clear hV hmV hq ho hmo h0
  go_enter Tryz.func38, Tryz.ntmps38
  go_wp2_with fail
  have two := fun (x y : Obj) => new2 (w := w) (o0 := x) (o1 := y) (Below.refl _ _)
  refine (likeAtPut_any a c V o w.heap.size (w.heap.size + 1) qb _ _ (H.out.below ?h1) hn HmV.out (two _ _).1 (two _ _).2.1 (HQ.out.below ?h2) (Ho.out.below ?h3) Hmo.out).mono ?_
  case h1 => exact of_below _ _ _
  case h2 => exact of_below _ _ _
  case h3 => exact of_below _ _ _
  intro e w1 hto
  obtain ⟨k, rfl, hk, hb⟩ := hto
  have HB := Lib.hid (new2 hb).2.2.2
  have Hk := Lib.hid hk
  clear hk hb two
  go_wp2_with fail
  go_ret
  exact ⟨k, rfl, Hk.out, HB.out⟩
set_option maxRecDepth 100000 in
set_option maxHeartbeats 2000000 in
theorem likeAdd_any (qp : Nat) (t0 : TypeId) (a : Option Addr) (c : Nat) (V : List Ow) (o : Ow) (qb : Nat) (w : World) (h0 : w.heap[qp]? = some (.cells #[.slice a V.length c] t0 (0, 0))) (hV : Ops w a c V) (hn : V.length ≤ 1000000) (hmV : ∀ v ∈ V, MayO v.o) (hq : OBlk w qb o) (ho : OwAt w o) (hmo : MayO o.o) (hk1 : o.o.k = 1) :
    Calls Tryz.prog 38 #[.pointer (some ⟨qp, 0, none⟩), .agg #[.int .u8 o.o.k, .slice o.pa o.o.p.length o.pc, .int .i64 o.o.n, .string o.o.x, .slice o.da o.o.ds.length o.dc], .func (.func 39) #[] #[.pointer (some ⟨qb, 0, none⟩)]] w (IdxTo w V (fun x => x.k = o.o.k ∧ x.p = o.o.p ∧ AddIs o.o x)) := by
  have H := Lib.hid hV
  have HmV := Lib.hid hmV
  have HQ := Lib.hid hq
  have Ho := Lib.hid ho
  have Hmo := Lib.hid hmo
  have d0 := cells_at h0
  have hl0 := heap_lt h0
  have Hk1 := Lib.hid hk1
  clear hk1
  clear hV hmV hq ho hmo h0
  go_enter Tryz.func38, Tryz.ntmps38
  go_wp2_with fail
  have two := fun (x y : Obj) => new2 (w := w) (o0 := x) (o1 := y) (Below.refl _ _)
  refine (likeAtAdd_any a c V o w.heap.size (w.heap.size + 1) qb _ _ (H.out.below ?h1) hn HmV.out (two _ _).1 (two _ _).2.1 (HQ.out.below ?h2) (Ho.out.below ?h3) Hmo.out Hk1.out).mono ?_
  case h1 => exact of_below _ _ _
  case h2 => exact of_below _ _ _
  case h3 => exact of_below _ _ _
  intro e w1 hto
  obtain ⟨k, rfl, hk, hb⟩ := hto
  have HB := Lib.hid (new2 hb).2.2.2
  have Hk := Lib.hid hk
  clear hk hb two
  go_wp2_with fail
  go_ret
  exact ⟨k, rfl, Hk.out, HB.out⟩
set_option maxRecDepth 100000 in
set_option maxHeartbeats 2000000 in
theorem likeDrop_any (qp : Nat) (t0 : TypeId) (a : Option Addr) (c : Nat) (V : List Ow) (o : Ow) (qb : Nat) (w : World) (h0 : w.heap[qp]? = some (.cells #[.slice a V.length c] t0 (0, 0))) (hV : Ops w a c V) (hn : V.length ≤ 1000000) (hmV : ∀ v ∈ V, MayO v.o) (hq : OBlk w qb o) (ho : OwAt w o) (hmo : MayO o.o) :
    Calls Tryz.prog 38 #[.pointer (some ⟨qp, 0, none⟩), .agg #[.int .u8 o.o.k, .slice o.pa o.o.p.length o.pc, .int .i64 o.o.n, .string o.o.x, .slice o.da o.o.ds.length o.dc], .func (.func 43) #[] #[.pointer (some ⟨qb, 0, none⟩)]] w (IdxTo w V (fun x => x.k = o.o.k ∧ x.p = o.o.p ∧ DropIs o.o x)) := by
  have H := Lib.hid hV
  have HmV := Lib.hid hmV
  have HQ := Lib.hid hq
  have Ho := Lib.hid ho
  have Hmo := Lib.hid hmo
  have d0 := cells_at h0
  have hl0 := heap_lt h0
  clear hV hmV hq ho hmo h0
  go_enter Tryz.func38, Tryz.ntmps38
  go_wp2_with fail
  have two := fun (x y : Obj) => new2 (w := w) (o0 := x) (o1 := y) (Below.refl _ _)
  refine (likeAtDrop_any a c V o w.heap.size (w.heap.size + 1) qb _ _ (H.out.below ?h1) hn HmV.out (two _ _).1 (two _ _).2.1 (HQ.out.below ?h2) (Ho.out.below ?h3) Hmo.out).mono ?_
  case h1 => exact of_below _ _ _
  case h2 => exact of_below _ _ _
  case h3 => exact of_below _ _ _
  intro e w1 hto
  obtain ⟨k, rfl, hk, hb⟩ := hto
  have HB := Lib.hid (new2 hb).2.2.2
  have Hk := Lib.hid hk
  clear hk hb two
  go_wp2_with fail
  go_ret
  exact ⟨k, rfl, Hk.out, HB.out⟩
end Go.Proofs.YtmabjghjkgicgaaGreat
