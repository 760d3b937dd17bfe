/- (*queue).add. | (*queue).drop. -/
import Derived.Test.YtmabjghjkgicgaaGreatBatL
/- BatP -/
namespace Go.Proofs.YtmabjghjkgicgaaGreat
open Go.RowKit
set_option linter.unusedVariables false
set_option linter.unusedSimpArgs false

theorem Qu.putN {W : World} {t : TypeId} {base qp g c q : Nat} {V : List Ow} {v : Ow} {y : Int} (hQ : Qu W t base qp (some ⟨g, 0, none⟩) c V) (hv : V[q]? = some v) (hm : MayO { v.o with n := y }) :
    Qu (W.setCell ⟨g, q * 5 + 2, none⟩ (.int .i64 y)) t base qp (some ⟨g, 0, none⟩) c (V.set q { v with o := { v.o with n := y } }) := by
  have hC : Chg (ob (some (⟨g, 0, none⟩ : Addr))) W (W.setCell ⟨g, q * 5 + 2, none⟩ (.int .i64 y)) := Chg.setCell W ⟨g, q * 5 + 2, none⟩ _
  refine ⟨?_, hQ.lo, OwnO.put hQ.own hv (by omega) rfl, fun u hu => ?_⟩
  · rw [List.length_set]
    exact heap_chg hQ.blk hC (fun h => by have := (owns_lt hQ.own qp h).1; have := hQ.lo; omega)
  · rcases List.mem_or_eq_of_mem_set hu with hu | rfl
    · exact (hQ.each u hu).chg hQ.own hC
    · have h := (hQ.each v (List.mem_of_getElem? hv)).chg hQ.own hC
      exact ⟨h.pt, h.ds, h.ok, hm⟩
theorem may_add {o : Opn} {y : Int} (h : MayO o) (hk : o.k = 1) (h1 : -1000000 ≤ y) (h2 : y ≤ 1000000) : MayO { o with n := y } :=
  ⟨h.kind, h.path, h.text, h.few, fun _ => ⟨h1, h2, (h.add hk).2.2.1, (h.add hk).2.2.2⟩, fun hn => absurd hk hn⟩
def AddM (o x : Opn) : Prop := x.k = o.k ∧ x.p = o.p ∧ AddIs o x
def AddL (L : List Opn) (o : Opn) (L' : List Opn) : Prop := (∃ (q : Nat) (x : Opn), L[q]? = some x ∧ AddM o x ∧ (∀ y ∈ L.take q, ¬ AddM o y) ∧ L' = L.set q { x with n := x.n + o.n }) ∨ ((∀ x ∈ L, ¬ AddM o x) ∧ L' = L ++ [o])
set_option maxRecDepth 100000 in
set_option maxHeartbeats 4000000 in
theorem add_any (t : TypeId) (base qp : Nat) (a : Option Addr) (c : Nat) (V : List Ow) (o : Ow) (w : World) (hQ : Qu w t base qp a c V) (hbw : base ≤ w.heap.size) (hn : V.length ≤ 1000000) (ho : OwAt w o) (hmo : MayO o.o) (hk1 : o.o.k = 1) :
    Calls Tryz.prog 22 #[.pointer (some ⟨qp, 0, none⟩), .agg #[.int .u8 o.o.k, .slice o.pa o.o.p.length o.pc, .int .i64 o.o.n, .string o.o.x, .slice o.da o.o.ds.length o.dc]] w (QTo w t base qp (AddL (V.map (·.o)) o.o)) := by
  have HQ := Lib.hid hQ
  have Ho := Lib.hid ho
  have Hmo := Lib.hid hmo
  have Hk1 := Lib.hid hk1
  have hlq := hQ.lo
  clear hQ ho hmo hk1
  go_enter Tryz.func22, Tryz.ntmps22
  go_wp2_with fail
  have hb0 : Below w.heap.size w (w.alloc (.cells (owcells o) 59 (0, 0))) := (Below.refl _ _).alloc (Nat.le_refl _) _
  refine (likeAdd_any qp t a c V o w.heap.size _ (HQ.out.below hb0).blk (HQ.out.below hb0).ops hn (fun v hv => (HQ.out.each v hv).may) (heap_new w _) (Ho.out.below hb0) Hmo.out Hk1.out).mono ?_
  intro e w1 hto
  obtain ⟨k, rfl, hk, hb⟩ := hto
  obtain ⟨x0, hz1, hB1⟩ := new1 hb
  have HB1 := Lib.hid hB1
  have X0 := Lib.hid x0
  have x1 := cells_at x0
  simp only [owcells, ocells] at x1
  clear hb hB1 x0 hb0
  rcases hk with ⟨rfl, hno⟩ | ⟨q, v, rfl, hv, hm, hfst⟩
  · have Hno := Lib.hid hno
    clear hno
    go_wp2_with fail
    refine (wait_any t base qp a c V o _ (HQ.out.below HB1.out) (by omega) hn (Ho.out.below HB1.out) Hmo.out).mono ?_
    intro e w2 hto
    obtain ⟨rfl, a', c', u, hu, hq2, hb2⟩ := hto
    have Hu := Lib.hid hu
    have H2 := Lib.hid hq2
    have HB2 := Lib.hid hb2
    clear hu hq2 hb2 x1
    go_wp2_with fail
    go_end0
    refine ⟨rfl, a', c', V ++ [u], .inr ⟨fun x hx => ?_, by rw [List.map_append, List.map_cons, List.map_nil, Hu.out]⟩, H2.out, (HB1.out.mono (by have := heap_lt HQ.out.blk; omega)).trans HB2.out⟩
    obtain ⟨v, hv, rfl⟩ := List.mem_map.1 hx
    exact Hno.out v hv
  · have Hm := Lib.hid hm
    have Hv := Lib.hid hv
    have Hf := Lib.hid hfst
    have hk0 : decide ((q : Int) < 0) = false := by simp
    have hq1 : q < V.length := (List.getElem?_eq_some_iff.1 hv).1
    have Q1 := Lib.hid (HQ.out.below HB1.out)
    have b1 := cells_at Q1.out.blk
    obtain ⟨ad, had, ⟨c0, c1, c2, c3, c4, hat⟩, hl1⟩ := Q1.out.ops.at hv
    subst had
    obtain ⟨g, rfl⟩ : ∃ g, ad = ⟨g, 0, none⟩ := by
      rcases Q1.out.own.2 with ⟨h2, _⟩ | ⟨g, _, _, h2, _⟩
      · cases h2
      · injection h2 with h2
        exact ⟨g, Option.some.inj h2⟩
    have hadd : (⟨g, 0, none⟩ : Addr).add (q * 5) = ⟨g, q * 5, none⟩ := by unfold Addr.add; split <;> simp_all
    rw [hadd] at c0 c1 c2 c3 c4
    dsimp only at c0 c1 c2 c3 c4
    have f2 := Q1.out.own.free (q * 5 + 2)
    have Hb := Lib.hid (show -1000000 ≤ v.o.n + o.o.n ∧ v.o.n + o.o.n ≤ 1000000 from hm.2.2)
    have hb1 := Hb.out.1
    have hb2 := Hb.out.2
    clear hv hm hfst hat
    go_wp2_with fail
    refine region_text [([0, 1, 2, 3, 4, 5, 6, 7, 8, 9, 10, 11, 12, 13], false)] mixed (by kernel_rfl) ?_
    simp only [wpSegs, List.map_cons, List.map_nil, List.getD_cons_succ, List.getD_cons_zero]
    go_wp2_with fail
    refine And.intro (by kernel_rfl) ?_
    go_wp2_with fail
    go_end0
    have hmay := may_add (y := v.o.n + o.o.n) ((Q1.out.each v (List.mem_of_getElem? Hv.out)).may) (Hm.out.1.trans Hk1.out) Hb.out.1 Hb.out.2
    have Q2 := Q1.out.below (Below.refl _ _).drew
    refine ⟨rfl, _, c, _, .inl ⟨q, v.o, by rw [List.getElem?_map, Hv.out]; rfl, Hm.out, fun y hy => ?_, ?_⟩, Q2.putN Hv.out hmay, ?_⟩
    · rw [← List.map_take] at hy
      obtain ⟨u, hu, rfl⟩ := List.mem_map.1 hy
      exact Hf.out u hu
    · rw [List.map_set]
    · exact (((HB1.out.mono (by have := heap_lt HQ.out.blk; omega)).trans ((Below.refl _ _).drew)).setCell (by have := (owns_lt Q1.out.own g (by simp [ob])).1; simp; omega) _)
end Go.Proofs.YtmabjghjkgicgaaGreat

/- BatQ -/
namespace Go.Proofs.YtmabjghjkgicgaaGreat
open Go.RowKit
set_option linter.unusedVariables false
set_option linter.unusedSimpArgs false

theorem Qu.putD {W : World} {t : TypeId} {base qp g c q c' : Nat} {a' : Option Addr} {V : List Ow} {v : Ow} {y : List Dt} (hQ : Qu W t base qp (some ⟨g, 0, none⟩) c V) (hv : V[q]? = some v) (hy : OwnD W base a' c' y) (hok : okV y) (hm : MayO { v.o with ds := y }) :
    Qu (W.setCell ⟨g, q * 5 + 4, none⟩ (.slice a' y.length c')) t base qp (some ⟨g, 0, none⟩) c (V.set q { v with o := { v.o with ds := y }, da := a', dc := c' }) := by
  have hC : Chg (ob (some (⟨g, 0, none⟩ : Addr))) W (W.setCell ⟨g, q * 5 + 4, none⟩ (.slice a' y.length c')) := Chg.setCell W ⟨g, q * 5 + 4, none⟩ _
  refine ⟨?_, hQ.lo, OwnO.put hQ.own hv (by omega) rfl, fun u hu => ?_⟩
  · rw [List.length_set]
    exact heap_chg hQ.blk hC (fun h => by have := (owns_lt hQ.own qp h).1; have := hQ.lo; omega)
  · rcases List.mem_or_eq_of_mem_set hu with hu | rfl
    · exact (hQ.each u hu).chg hQ.own hC
    · have h := (hQ.each v (List.mem_of_getElem? hv)).chg hQ.own hC
      exact ⟨h.pt, owns_chg hy hC (fun k hk hm => owns_ne hy hQ.own (by decide) k hk hm), hok, hm⟩
theorem may_drop {o x : Opn} {y : List Dt} (h : MayO x) (k : MayO o) (hx : x.k = 4) (ho : o.k = 4) (ht : TombsOf x.ds o.ds y) (hl : y.length ≤ 64) : MayO { x with ds := y } :=
  ⟨h.kind, h.path, h.text, hl, fun hn => by simp [hx] at hn, fun _ => ⟨(h.rest (by rw [hx]; decide)).1, fun hn => absurd hx hn, fun d hd => by
    rcases (ht.2 d).1 hd with h1 | h1
    · exact (h.rest (by rw [hx]; decide)).2.2.1 d h1
    · exact (k.rest (by rw [ho]; decide)).2.2.1 d h1, ht.1⟩⟩
theorem ok_both {a b y : List Dt} (ha : okV a) (hb : okV b) (ht : TombsOf a b y) : okV y := fun d hd => by
  rcases (ht.2 d).1 hd with h | h
  · exact ha d h
  · exact hb d h
def DropM (o x : Opn) : Prop := x.k = o.k ∧ x.p = o.p ∧ DropIs o x
def DropL (L : List Opn) (o : Opn) (L' : List Opn) : Prop := (∃ (q : Nat) (x : Opn) (y : List Dt), L[q]? = some x ∧ DropM o x ∧ (∀ z ∈ L.take q, ¬ DropM o z) ∧ TombsOf x.ds o.ds y ∧ L' = L.set q { x with ds := y }) ∨ ((∀ x ∈ L, ¬ DropM o x) ∧ L' = L ++ [o])
set_option maxRecDepth 100000 in
set_option maxHeartbeats 4000000 in
theorem drop_any (t : TypeId) (base qp : Nat) (a : Option Addr) (c : Nat) (V : List Ow) (o : Ow) (w : World) (hQ : Qu w t base qp a c V) (hbw : base ≤ w.heap.size) (hn : V.length ≤ 1000000) (ho : OwAt w o) (hmo : MayO o.o) (hk1 : o.o.k = 4) :
    Calls Tryz.prog 25 #[.pointer (some ⟨qp, 0, none⟩), .agg #[.int .u8 o.o.k, .slice o.pa o.o.p.length o.pc, .int .i64 o.o.n, .string o.o.x, .slice o.da o.o.ds.length o.dc]] w (QTo w t base qp (DropL (V.map (·.o)) o.o)) := by
  have HQ := Lib.hid hQ
  have Ho := Lib.hid ho
  have Hmo := Lib.hid hmo
  have Hk1 := Lib.hid hk1
  have hlq := hQ.lo
  clear hQ ho hmo hk1
  go_enter Tryz.func25, Tryz.ntmps25
  go_wp2_with fail
  have hb0 : Below w.heap.size w (w.alloc (.cells (owcells o) 59 (0, 0))) := (Below.refl _ _).alloc (Nat.le_refl _) _
  refine (likeDrop_any qp t a c V o w.heap.size _ (HQ.out.below hb0).blk (HQ.out.below hb0).ops hn (fun v hv => (HQ.out.each v hv).may) (heap_new w _) (Ho.out.below hb0) Hmo.out).mono ?_
  intro e w1 hto
  obtain ⟨k, rfl, hk, hb⟩ := hto
  obtain ⟨x0, hz1, hB1⟩ := new1 hb
  have HB1 := Lib.hid hB1
  have X0 := Lib.hid x0
  have x1 := cells_at x0
  simp only [owcells, ocells] at x1
  clear hb hB1 x0 hb0
  rcases hk with ⟨rfl, hno⟩ | ⟨q, v, rfl, hv, hm, hfst⟩
  · have Hno := Lib.hid hno
    clear hno
    go_wp2_with fail
    refine (wait_any t base qp a c V o _ (HQ.out.below HB1.out) (by omega) hn (Ho.out.below HB1.out) Hmo.out).mono ?_
    intro e w2 hto
    obtain ⟨rfl, a', c', u, hu, hq2, hb2⟩ := hto
    have Hu := Lib.hid hu
    have H2 := Lib.hid hq2
    have HB2 := Lib.hid hb2
    clear hu hq2 hb2 x1
    go_wp2_with fail
    go_end0
    refine ⟨rfl, a', c', V ++ [u], .inr ⟨fun x hx => ?_, by rw [List.map_append, List.map_cons, List.map_nil, Hu.out]⟩, H2.out, (HB1.out.mono (by have := heap_lt HQ.out.blk; omega)).trans HB2.out⟩
    obtain ⟨v, hv, rfl⟩ := List.mem_map.1 hx
    exact Hno.out v hv
  · have Hm := Lib.hid hm
    have Hv := Lib.hid hv
    have Hf := Lib.hid hfst
    have hk0 : decide ((q : Int) < 0) = false := by simp
    have hq1 : q < V.length := (List.getElem?_eq_some_iff.1 hv).1
    have Q1 := Lib.hid (HQ.out.below HB1.out)
    have b1 := cells_at Q1.out.blk
    obtain ⟨ad, had, ⟨c0, c1, c2, c3, c4, hat⟩, hl1⟩ := Q1.out.ops.at hv
    subst had
    obtain ⟨g, rfl⟩ : ∃ g, ad = ⟨g, 0, none⟩ := by
      rcases Q1.out.own.2 with ⟨h2, _⟩ | ⟨g, _, _, h2, _⟩
      · cases h2
      · injection h2 with h2
        exact ⟨g, Option.some.inj h2⟩
    have hadd : (⟨g, 0, none⟩ : Addr).add (q * 5) = ⟨g, q * 5, none⟩ := by unfold Addr.add; split <;> simp_all
    rw [hadd] at c0 c1 c2 c3 c4
    dsimp only at c0 c1 c2 c3 c4
    clear hv hm hfst hat
    go_wp2_with fail
    refine region_text [([0, 1, 2, 3, 4, 5, 6, 7, 8, 9, 10, 11, 12, 13, 14], false), ([15], true), ([16, 17, 18], false)] mixed (by kernel_rfl) ?_
    simp only [wpSegs, List.map_cons, List.map_nil, List.getD_cons_succ, List.getD_cons_zero]
    go_wp2_with fail
    refine (bothD_any v.da o.da v.dc o.dc v.o.ds o.o.ds _ (((Q1.out.each v (List.mem_of_getElem? Hv.out)).at_).below (Below.refl _ _).drew).ds ((Ho.out.below HB1.out).below (Below.refl _ _).drew).ds (op_len (Q1.out.each v (List.mem_of_getElem? Hv.out)).may).2 (op_len Hmo.out).2).mono ?_
    intro e w2 hto
    obtain ⟨a', c', y, rfl, ht, how, hb2⟩ := hto
    have hB2 := ((Below.refl _ _).drew).trans hb2
    have Q2 := Lib.hid (Q1.out.below hB2)
    have HB2 := Lib.hid hB2
    have Ht := Lib.hid ht
    have Hy := Lib.hid (OwnD.base (base' := base) how (by have := HB1.out.size; simp; omega))
    go_wp2_with fail
    refine And.intro (Agree.of_below hb2) ?_
    have e4 := hB2.cell (p := ⟨g, q * 5 + 4, none⟩) hl1
    rw [c4] at e4
    have f2 := Q2.out.own.free (q * 5 + 4)
    clear ht how hb2 hB2 c0 c1 c2 c3 c4 b1 x1
    go_wp2_with fail
    refine And.intro (by kernel_rfl) ?_
    go_wp2_with fail
    go_end0
    have hmay := may_drop ((Q1.out.each v (List.mem_of_getElem? Hv.out)).may) Hmo.out (Hm.out.1.trans Hk1.out) Hk1.out Ht.out (Hm.out.2.2.2 y Ht.out)
    refine ⟨rfl, _, c, _, .inl ⟨q, v.o, y, by rw [List.getElem?_map, Hv.out]; rfl, Hm.out, fun z hz => ?_, Ht.out, ?_⟩, Q2.out.putD Hv.out Hy.out (ok_both (Q1.out.each v (List.mem_of_getElem? Hv.out)).ok Ho.out.ok Ht.out) hmay, ?_⟩
    · rw [← List.map_take] at hz
      obtain ⟨u, hu, rfl⟩ := List.mem_map.1 hz
      exact Hf.out u hu
    · rw [List.map_set]
    · exact (((HB1.out.mono (by have := heap_lt HQ.out.blk; omega)).trans (HB2.out.mono (by have := heap_lt Q1.out.blk; show qp ≤ w1.heap.size; omega))).setCell (by have := (owns_lt Q1.out.own g (by simp [ob])).1; simp; omega) _)
end Go.Proofs.YtmabjghjkgicgaaGreat
