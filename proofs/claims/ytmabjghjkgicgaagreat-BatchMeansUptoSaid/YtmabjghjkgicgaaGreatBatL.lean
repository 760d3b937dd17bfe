/- The queue in memory. | (*queue).wait. | (*queue).put. | A store into the queue's row. -/
import Derived.Test.YtmabjghjkgicgaaGreatBatJ
/- BatL -/
namespace Go.Proofs.YtmabjghjkgicgaaGreat
open Go.RowKit
set_option linter.unusedVariables false
set_option linter.unusedSimpArgs false

/-- rows of one's own of different types lie apart -/
theorem owns_ne {w : World} {base base' : Nat} {e e' : TypeId} {size size' : Nat} {a b : Option Addr} {n c m n' c' m' : Nat} {xs ys : List Value} (h : w.ownsRow base e size (.slice a n c) m xs) (k : w.ownsRow base' e' size' (.slice b n' c') m' ys) (hne : e ≠ e') : ∀ q ∈ ob a, q ∉ ob b := by
  intro q hq hm
  rcases h.2 with ⟨h2, _⟩ | ⟨g, cap, cur, h2, _, hg, _⟩
  · injection h2 with h2
    subst h2
    simp [ob] at hq
  · rcases k.2 with ⟨k2, _⟩ | ⟨g', cap', cur', k2, _, hg', _⟩
    · injection k2 with k2
      subst k2
      simp [ob] at hm
    · injection h2 with h2
      injection k2 with k2
      subst h2 k2
      simp [ob] at hq hm
      subst hq
      subst hm
      rw [hg] at hg'
      injection hg' with hg'
      injection hg' with _ h3
      exact hne h3
/-- operations of one's own, with paths and dots of their own -/
structure QV (W : World) (base : Nat) (v : Ow) : Prop where
  pt : OwnS W base v.pa v.pc v.o.p
  ds : OwnD W base v.da v.dc v.o.ds
  ok : okV v.o.ds
  may : MayO v.o
theorem QV.at_ {W : World} {base : Nat} {v : Ow} (h : QV W base v) : OwAt W v := ⟨h.pt.strs, h.ds.vec, h.ok⟩
theorem QV.below {W W' : World} {base : Nat} {v : Ow} (h : QV W base v) (hb : Below W.heap.size W W') : QV W' base v := ⟨h.pt.below hb, h.ds.below hb, h.ok, h.may⟩
theorem QV.base {W : World} {base base' : Nat} {v : Ow} (h : QV W base v) (hb : base' ≤ base) : QV W base' v := ⟨h.pt.base hb, h.ds.base hb, h.ok, h.may⟩
theorem opcells_at {V : List Ow} {k : Nat} {v : Ow} (h : V[k]? = some v) : ∀ j, j < 5 → (opcells V)[k * 5 + j]? = (owcells v).toList[j]? := fun j hj => flatMap_at (enc := fun v : Ow => (owcells v).toList) (k := 5) (fun _ => rfl) V k j v h hj
theorem ops_of {W : World} {base : Nat} {a : Option Addr} {c : Nat} {V : List Ow} (h : OwnO W base a c V) (hv : ∀ v ∈ V, OwAt W v) : Ops W a c V := by
  obtain ⟨h1, h2, h3, h4⟩ := h.sl
  refine ⟨rfl, h2, h3, fun e => ?_, fun i y hy => ?_⟩
  · rcases h4 with ⟨_, h5, h6⟩ | ⟨b, hb, _⟩
    · exact ⟨h5, h6⟩
    · rw [e] at hb; cases hb
  · have hi : i < V.length := (List.getElem?_eq_some_iff.1 hy).1
    rcases h4 with ⟨_, h5, _⟩ | ⟨b, rfl, hc⟩
    · omega
    · refine ⟨b, (owcells y).toList, rfl, rfl, fun j hj => ?_, rfl, hv y (List.mem_of_getElem? hy)⟩
      have hj5 : (owcells y).toList[j]? = some ((owcells y).toList[j]'(by simpa [owcells, ocells] using hj)) := by simp
      rw [hj5]
      refine hc _ _ ?_
      rw [opcells_at hy j hj, hj5]
/-- the queue -/
structure Qu (W : World) (t : TypeId) (base qp : Nat) (a : Option Addr) (c : Nat) (V : List Ow) : Prop where
  blk : W.heap[qp]? = some (.cells #[.slice a V.length c] t (0, 0))
  lo : qp < base
  own : OwnO W base a c V
  each : ∀ v ∈ V, QV W base v
theorem Qu.ops {W : World} {t : TypeId} {base qp : Nat} {a : Option Addr} {c : Nat} {V : List Ow} (h : Qu W t base qp a c V) : Ops W a c V := ops_of h.own fun v hv => (h.each v hv).at_
theorem Qu.below {W W' : World} {t : TypeId} {base qp : Nat} {a : Option Addr} {c : Nat} {V : List Ow} (h : Qu W t base qp a c V) (hb : Below W.heap.size W W') : Qu W' t base qp a c V :=
  ⟨(hb.block _ (heap_lt h.blk)).trans h.blk, h.lo, h.own.below hb, fun v hv => (h.each v hv).below hb⟩
end Go.Proofs.YtmabjghjkgicgaaGreat

/- BatM -/
namespace Go.Proofs.YtmabjghjkgicgaaGreat
open Go.RowKit
set_option linter.unusedVariables false
set_option linter.unusedSimpArgs false

theorem QV.chg {W W' : World} {base : Nat} {v : Ow} {a : Option Addr} {c : Nat} {V : List Ow} (h : QV W base v) (ho : OwnO W base a c V) (hC : Chg (ob a) W W') : QV W' base v :=
  ⟨owns_chg h.pt hC (fun k hk hm => owns_ne h.pt ho (by decide) k hk hm), owns_chg h.ds hC (fun k hk hm => owns_ne h.ds ho (by decide) k hk hm), h.ok, h.may⟩
theorem QV.put {W : World} {base qp : Nat} {v : Ow} (h : QV W base v) (hq : qp < base) (x : Value) : QV (W.setCell ⟨qp, 0, none⟩ x) base v :=
  ⟨owns_chg h.pt (Chg.setCell W ⟨qp, 0, none⟩ x) (fun k hk hm => by have := (owns_lt h.pt k hk).1; simp at hm; omega), owns_chg h.ds (Chg.setCell W ⟨qp, 0, none⟩ x) (fun k hk hm => by have := (owns_lt h.ds k hk).1; simp at hm; omega), h.ok, h.may⟩
def WaitTo (w : World) (t : TypeId) (base qp : Nat) (V : List Ow) (o : Opn) (e : Ending) (w' : World) : Prop := e = .returned (.tuple #[]) ∧ ∃ a' c' u, u.o = o ∧ Qu w' t base qp a' c' (V ++ [u]) ∧ Below qp w w'
/-- behind the append -/
theorem Qu.wait {w w1 w2 : World} {t : TypeId} {base qp : Nat} {a a' : Option Addr} {c c' : Nat} {V V' : List Ow} {u : Ow} {o : Opn} (hQ : Qu w1 t base qp a c V) (hu : QV w1 base u) (huo : u.o = o) (hb : Below w.heap.size w w1) (hbw : base ≤ w.heap.size)
    (hV : V' = V ++ [u]) (hO : OwnO w2 base a' c' V') (hC : Chg (ob a) w1 w2) : WaitTo w t base qp V o (.returned (.tuple #[])) (w2.setCell ⟨qp, 0, none⟩ (.slice a' V'.length c')) := by
  have hn : qp ∉ ob a := fun h => by have := (owns_lt hQ.own qp h).1; have := hQ.lo; omega
  have hB2 : Below qp w1 w2 := hC.below (by have := hb.size; have := hQ.lo; omega) (fun k hk => by have := (owns_lt hQ.own k hk).1; have := hQ.lo; omega)
  refine ⟨rfl, a', c', u, huo, ?_, ?_⟩
  · rw [← hV]
    refine ⟨heap_setCell1 (heap_chg hQ.blk hC hn), hQ.lo, owns_chg hO (Chg.setCell w2 ⟨qp, 0, none⟩ _) (fun k hk hm => by have := (owns_lt hO k hk).1; have := hQ.lo; simp at hm; omega), fun v hv => ?_⟩
    rw [hV, List.mem_append, List.mem_singleton] at hv
    rcases hv with hv | rfl
    · exact ((hQ.each v hv).chg hQ.own hC).put hQ.lo _
    · exact (hu.chg hQ.own hC).put hQ.lo _
  · exact ((hb.mono (by have := hQ.lo; omega)).trans hB2).setCell (Nat.le_refl _) _
set_option maxRecDepth 100000 in
set_option maxHeartbeats 4000000 in
theorem wait_any (t : TypeId) (base qp : Nat) (a : Option Addr) (c : Nat) (V : List Ow) (o : Ow) (w : World) (hQ : Qu w t base qp a c V) (hbw : base ≤ w.heap.size) (hn : V.length ≤ 1000000) (ho : OwAt w o) (hmo : MayO o.o) :
    Calls Tryz.prog 26 #[.pointer (some ⟨qp, 0, none⟩), .agg #[.int .u8 o.o.k, .slice o.pa o.o.p.length o.pc, .int .i64 o.o.n, .string o.o.x, .slice o.da o.o.ds.length o.dc]] w (WaitTo w t base qp V o.o) := by
  have HQ := Lib.hid hQ
  have Ho := Lib.hid ho
  have Hmo := Lib.hid hmo
  have d0 := cells_at hQ.blk
  have hl0 := heap_lt hQ.blk
  clear hQ ho hmo
  go_enter Tryz.func26, Tryz.ntmps26
  go_wp2_with fail
  refine region_text [([0, 1, 2, 3, 4, 5], false), ([6], true), ([7, 8, 9, 10, 11], false)] mixed (by kernel_rfl) ?_
  simp only [wpSegs, List.map_cons, List.map_nil, List.getD_cons_succ, List.getD_cons_zero]
  go_wp2_with fail
  refine (own_any o _ (Ho.out.below ?h1) (op_len Hmo.out).1 (op_len Hmo.out).2).mono ?_
  case h1 => exact ((Below.refl _ _).alloc (Nat.le_refl _) _).drew
  intro e w1 hto
  obtain ⟨⟨uo, ua, uc, da, dc⟩, rfl, huo, hus, hud, hb1⟩ := hto
  dsimp only at huo hus hud
  subst huo
  obtain ⟨_, hz1, hB1⟩ := new1 (((Below.refl _ _).drew).trans hb1)
  have Hu := Lib.hid (show QV w1 base ⟨o.o, ua, uc, da, dc⟩ from ⟨OwnS.base hus (by simp; omega), OwnD.base hud (by simp; omega), Ho.out.ok, Hmo.out⟩)
  have HB1 := Lib.hid hB1
  have Q1 := Lib.hid (HQ.out.below hB1)
  have d1 := cells_at Q1.out.blk
  have f1 := free_at Q1.out.blk
  have hl1 := heap_lt Q1.out.blk
  go_wp2_with fail
  refine And.intro (Agree.of_below hb1) ?_
  clear hus hud hb1 hB1 d0
  go_wp2_with (at_builtin; go_must (refine wpList_appO rfl _ _ rfl base a c V rfl ?o1 (some ⟨w1.heap.size, 0, none⟩) 1 [⟨o.o, ua, uc, da, dc⟩] rfl ?s1 ?n1 ?b1 ?_))
  case o1 => exact Q1.out.own.below ((Below.refl _ _).alloc (Nat.le_refl _) _)
  case s1 => exact Sl.blk (C := owcells ⟨o.o, ua, uc, da, dc⟩) (heap_new w1 _) rfl (by simp [maxLen])
  case n1 => simp; omega
  case b1 => simp; omega
  intro v' a' c' w2 hv' ho2 hb2 hC2
  have hb0 : Below w1.heap.size w1 (w1.alloc (.cells (owcells ⟨o.o, ua, uc, da, dc⟩) 59 (0, 0))) := (Below.refl _ _).alloc (Nat.le_refl _) _
  have hC := (Chg.of_below (F := ob a) hb0).trans hC2 (fun x hx _ => hx)
  have q2 := heap_chg Q1.out.blk hC (fun h => by have := (owns_lt Q1.out.own qp h).1; have := Q1.out.lo; omega)
  have d2 := cells_at q2
  have f2 := free_at q2
  have Hv' := Lib.hid hv'
  have Ho2 := Lib.hid ho2
  have HC := Lib.hid hC
  clear hv' ho2 hb2 hC2 hb0 hC d1 f1
  go_wp2_with fail
  refine And.intro (by kernel_rfl) ?_
  go_wp2_with fail
  go_end0
  exact Q1.out.wait Hu.out rfl HB1.out hbw Hv'.out Ho2.out HC.out
end Go.Proofs.YtmabjghjkgicgaaGreat

/- BatN -/
namespace Go.Proofs.YtmabjghjkgicgaaGreat
open Go.RowKit
set_option linter.unusedVariables false
set_option linter.unusedSimpArgs false

def QTo (w : World) (t : TypeId) (base qp : Nat) (P : List Opn → Prop) (e : Ending) (w' : World) : Prop := e = .returned (.tuple #[]) ∧ ∃ a' c' V', P (V'.map (·.o)) ∧ Qu w' t base qp a' c' V' ∧ Below qp w w'
def PutM (o x : Opn) : Prop := x.k = o.k ∧ x.p = o.p ∧ PutIs o x
def PutL (L : List Opn) (o : Opn) (L' : List Opn) : Prop := ((∃ x ∈ L, PutM o x) ∧ L' = L) ∨ ((∀ x ∈ L, ¬ PutM o x) ∧ L' = L ++ [o])
set_option maxRecDepth 100000 in
set_option maxHeartbeats 4000000 in
theorem put_any (t : TypeId) (base qp : Nat) (a : Option Addr) (c : Nat) (V : List Ow) (o : Ow) (w : World) (hQ : Qu w t base qp a c V) (hbw : base ≤ w.heap.size) (hn : V.length ≤ 1000000) (ho : OwAt w o) (hmo : MayO o.o) :
    Calls Tryz.prog 24 #[.pointer (some ⟨qp, 0, none⟩), .agg #[.int .u8 o.o.k, .slice o.pa o.o.p.length o.pc, .int .i64 o.o.n, .string o.o.x, .slice o.da o.o.ds.length o.dc]] w (QTo w t base qp (PutL (V.map (·.o)) o.o)) := by
  have HQ := Lib.hid hQ
  have Ho := Lib.hid ho
  have Hmo := Lib.hid hmo
  have hlq := hQ.lo
  clear hQ ho hmo
  go_enter Tryz.func24, Tryz.ntmps24
  go_wp2_with fail
  have hb0 : Below w.heap.size w (w.alloc (.cells (owcells o) 59 (0, 0))) := (Below.refl _ _).alloc (Nat.le_refl _) _
  refine (likePut_any qp t a c V o w.heap.size _ (HQ.out.below hb0).blk (HQ.out.below hb0).ops hn (fun v hv => (HQ.out.each v hv).may) (heap_new w _) (Ho.out.below hb0) Hmo.out).mono ?_
  intro e w1 hto
  obtain ⟨k, rfl, hk, hb⟩ := hto
  obtain ⟨x0, hz1, hB1⟩ := new1 hb
  have HB1 := Lib.hid hB1
  have X0 := Lib.hid x0
  have x1 := cells_at x0
  simp only [owcells, ocells] at x1
  clear hb hB1 x0 hb0
  rcases hk with ⟨rfl, hno⟩ | ⟨q, v, rfl, hv, hm, _⟩
  · have Hno := Lib.hid hno
    clear hno
    go_wp2_with fail
    refine (wait_any t base qp a c V o _ (HQ.out.below HB1.out) (by omega) hn (Ho.out.below HB1.out) Hmo.out).mono ?_
    intro e w2 hto
    obtain ⟨rfl, a', c', u, hu, hq2, hb2⟩ := hto
    have Hu := Lib.hid hu
    have H2 := Lib.hid hq2
    have HB2 := Lib.hid hb2
    clear hu hq2 hb2 x1
    go_wp2_with fail
    go_end0
    refine ⟨rfl, a', c', V ++ [u], .inr ⟨fun x hx => ?_, by rw [List.map_append, List.map_cons, List.map_nil, Hu.out]⟩, H2.out, (HB1.out.mono (by have := heap_lt HQ.out.blk; omega)).trans HB2.out⟩
    obtain ⟨v, hv, rfl⟩ := List.mem_map.1 hx
    exact Hno.out v hv
  · have Hm := Lib.hid (show ∃ x ∈ V.map (·.o), PutM o.o x from ⟨v.o, List.mem_map_of_mem (List.mem_of_getElem? hv), hm⟩)
    have hk0 : decide ((q : Int) < 0) = false := by simp
    clear hv hm
    go_wp2_with fail
    all_goals (go_end0; exact ⟨rfl, a, c, V, .inl ⟨Hm.out, rfl⟩, HQ.out.below HB1.out, HB1.out.mono (by have := heap_lt HQ.out.blk; omega)⟩)
end Go.Proofs.YtmabjghjkgicgaaGreat

/- BatO -/
namespace Go.Proofs.YtmabjghjkgicgaaGreat
open Go.RowKit
set_option linter.unusedVariables false
set_option linter.unusedSimpArgs false

theorem opcells_set {V : List Ow} {q j : Nat} {v v' : Ow} {x : Value} (hv : V[q]? = some v) (hj : j < 5) (h : (owcells v').toList = (owcells v).toList.set j x) : (opcells V).set (q * 5 + j) x = opcells (V.set q v') := by
  induction V generalizing q with
  | nil => simp at hv
  | cons u V ih =>
    cases q with
    | zero =>
      simp at hv
      subst hv
      have hl : j < (owcells u).toList.length := by simpa [owcells, ocells] using hj
      simp only [opcells, List.flatMap_cons, List.set_cons_zero, Nat.zero_mul, Nat.zero_add, h]
      rw [List.set_append_left _ _ hl]
    | succ q =>
      have := ih (q := q) (by simpa using hv)
      have hl : (owcells u).toList.length = 5 := by simp [owcells, ocells]
      simp only [opcells, List.flatMap_cons, List.set_cons_succ] at this ⊢
      rw [List.set_append_right _ _ (by omega), hl, show (q + 1) * 5 + j - 5 = q * 5 + j by omega, this]
theorem OwnO.put {W : World} {base g c q j : Nat} {V : List Ow} {v v' : Ow} {x : Value} (h : OwnO W base (some ⟨g, 0, none⟩) c V) (hv : V[q]? = some v) (hj : j < 5) (he : (owcells v').toList = (owcells v).toList.set j x) : OwnO (W.setCell ⟨g, q * 5 + j, none⟩ x) base (some ⟨g, 0, none⟩) c (V.set q v') := by
  have h1 := (World.ownsRow.stored h (q * 5 + j) x).1
  rw [opcells_set hv hj he] at h1
  unfold OwnO
  rw [List.length_set]
  exact h1
theorem OwnO.free {W : World} {base g c : Nat} {V : List Ow} (h : OwnO W base (some ⟨g, 0, none⟩) c V) (j : Nat) : W.frozen? ⟨g, j, none⟩ = false := World.ownsRow.frozenAt h j
end Go.Proofs.YtmabjghjkgicgaaGreat
