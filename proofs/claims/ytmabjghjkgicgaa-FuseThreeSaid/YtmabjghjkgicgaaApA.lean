/- What is known in varveref05.Apply. Printed by genapply.py. -/
import Derived.Test.YtmabjghjkgicgaaLawD
import Derived.Test.YtmabjghjkgicgaaEvA
namespace Go.Proofs.Ytmabjghjkgicgaa
open Go.RowKit
set_option linter.unusedVariables false
set_option linter.unusedSimpArgs false

/-- what Apply tells -/
def AppTo (w : World) (L : Lv) (v : Ew) (e : Ending) (w' : World) : Prop :=
  ((∃ code : Int, code ≠ 0 ∧ e = .returned (.tuple #[.agg #[.int .u8 0, .int .i64 0, .int .u64 0, .int .u8 0, .int .u32 0, .int .u64 0, .string ⟨#[]⟩, .slice none 0 0, .slice none 0 0], .int .i64 code])) ∨
   (∃ M : Lv, e = .returned (.tuple #[.agg #[.int .u8 M.l.k, .int .i64 M.l.n, .int .u64 M.l.t, .int .u8 M.l.d.1.1, .int .u32 M.l.d.1.2, .int .u64 M.l.d.2, .string M.l.x, .slice M.ia M.l.items.length M.ic, .slice M.ta M.l.tombs.length M.tc], .int .i64 0]) ∧ M.l = applyP L.l v.e ∧ MayEv v.e ∧ typeOf v.e.k = L.l.k ∧ LvAt w' M ∧ (∀ k ∈ ob M.ta, k < w'.heap.size) ∧ (∀ k ∈ ob M.ia, k ∈ ob L.ia ∨ w.heap.size ≤ k) ∧ (∀ k ∈ ob M.ta, k ∈ ob L.ta ∨ w.heap.size ≤ k))) ∧ Below w.heap.size w w'
structure ApE (w W : World) (L : Lv) (v : Ew) : Prop where
  b0 : LvBlk W w.heap.size L
  b1 : EvBlk W (w.heap.size + 1) v
  b2 : Zc W (w.heap.size + 2)
  al : LvAt W L
  ev : EwAt W v
  sz : w.heap.size + 3 ≤ W.heap.size
  bel : Below w.heap.size w W
theorem ApE.of {w W : World} {L : Lv} {v : Ew} (hl : LvAt w L) (hv : EwAt w v) (hb : Below (((w.alloc (.cells (lcells L.l L.ia L.ic L.ta L.tc) 40)).alloc (.cells (ecells v) 37)).alloc (.cells #[.int .u8 0, .int .i64 0, .int .u64 0, .int .u8 0, .int .u32 0, .int .u64 0, .string ⟨#[]⟩, .slice none 0 0, .slice none 0 0] 40)).heap.size (((w.alloc (.cells (lcells L.l L.ia L.ic L.ta L.tc) 40)).alloc (.cells (ecells v) 37)).alloc (.cells #[.int .u8 0, .int .i64 0, .int .u64 0, .int .u8 0, .int .u32 0, .int .u64 0, .string ⟨#[]⟩, .slice none 0 0, .slice none 0 0] 40)) W) : ApE w W L v := by
  obtain ⟨h0, h1, h2, h3, h4⟩ := new3 hb
  exact ⟨h0, h1, h2, hl.below h4, hv.below h4, h3, h4⟩
theorem ApE.step {w W W' : World} {L : Lv} {v : Ew} (h : ApE w W L v) (hb : Below W.heap.size W W') : ApE w W' L v :=
  ⟨h.b0.below hb, h.b1.below hb, h.b2.below hb, h.al.below hb, h.ev.below hb, by have := h.sz; have := hb.size; omega, below2 h.bel hb h.bel.size⟩
theorem fin9 {b : Nat} {w W : World} (h : Below b w W) {p : Nat} (hp : b ≤ p) (x0 x1 x2 x3 x4 x5 x6 x7 x8 : Value) : Below b w (((((((((W.setCell ⟨p, 0, none⟩ x0).setCell ⟨p, 1, none⟩ x1).setCell ⟨p, 2, none⟩ x2).setCell ⟨p, 3, none⟩ x3).setCell ⟨p, 4, none⟩ x4).setCell ⟨p, 5, none⟩ x5).setCell ⟨p, 6, none⟩ x6).setCell ⟨p, 7, none⟩ x7).setCell ⟨p, 8, none⟩ x8) :=
  ((((((((h.setCell hp _).setCell hp _).setCell hp _).setCell hp _).setCell hp _).setCell hp _).setCell hp _).setCell hp _).setCell hp _
theorem nine_size (W : World) (p : Nat) (x0 x1 x2 x3 x4 x5 x6 x7 x8 : Value) : ((((((((((W.setCell ⟨p, 0, none⟩ x0).setCell ⟨p, 1, none⟩ x1).setCell ⟨p, 2, none⟩ x2).setCell ⟨p, 3, none⟩ x3).setCell ⟨p, 4, none⟩ x4).setCell ⟨p, 5, none⟩ x5).setCell ⟨p, 6, none⟩ x6).setCell ⟨p, 7, none⟩ x7).setCell ⟨p, 8, none⟩ x8)).heap.size = W.heap.size := by simp
theorem Vec.lt {w : World} {a : Option Addr} {c : Nat} {v : List Dt} (h : Vec w a c v) (hv : v ≠ []) : ∀ k ∈ ob a, k < w.heap.size := by
  intro k hk
  cases v with
  | nil => exact absurd rfl hv
  | cons d v =>
    obtain ⟨ad, rfl, _, _, _, hl⟩ := h.at (k := 0) (d := d) rfl
    simp [ob] at hk
    omega
theorem buryP_ne (l : List Dt) (d : Dt) : buryP l d ≠ [] := fun h => by
  have := (mem_buryP (l := l) (x := d) (y := d)).2 (.inr rfl)
  rw [h] at this
  cases this
/-- the tombs so far lie apart from the call's own blocks -/
def Apart (s : Nat) (a0 a : Option Addr) : Prop := ∀ k ∈ ob a, (k ∈ ob a0 ∧ k < s) ∨ s + 3 ≤ k
/-- the tombs so far, in the leaf's own block -/
structure DrE (w W : World) (L : Lv) (v : Ew) (va : Option Addr) (vc : Nat) (u : List Dt) : Prop where
  b0 : LvBlk W w.heap.size ⟨{ L.l with tombs := u }, L.ia, L.ic, va, vc⟩
  b1 : EvBlk W (w.heap.size + 1) v
  b2 : Zc W (w.heap.size + 2)
  tm : Vec W va vc u
  ap : Apart w.heap.size L.ta va
  lt : ∀ k ∈ ob va, k < W.heap.size
  sz : w.heap.size + 3 ≤ W.heap.size
  bel : Below w.heap.size w W
theorem DrE.of {w W : World} {L : Lv} {v : Ew} (h : ApE w W L v) (hta : ∀ k ∈ ob L.ta, k < w.heap.size) : DrE w W L v L.ta L.tc L.l.tombs :=
  ⟨h.b0, h.b1, h.b2, h.al.tms, fun k hk => .inl ⟨hk, hta k hk⟩, fun k hk => Nat.lt_of_lt_of_le (hta k hk) h.bel.size, h.sz, h.bel⟩
theorem DrE.step {w W W' : World} {L : Lv} {v : Ew} {va : Option Addr} {vc : Nat} {u : List Dt} (h : DrE w W L v va vc u) (hb : Below W.heap.size W W') : DrE w W' L v va vc u :=
  ⟨h.b0.below hb, h.b1.below hb, h.b2.below hb, h.tm.below hb, h.ap, fun k hk => Nat.lt_of_lt_of_le (h.lt k hk) hb.size, by have := h.sz; have := hb.size; omega, below2 h.bel hb h.bel.size⟩
theorem DrE.put {w W : World} {L : Lv} {v : Ew} {va a5 : Option Addr} {vc c5 : Nat} {u v5 : List Dt} (h : DrE w W L v va vc u) (hv : Vec W a5 c5 v5) (hne : v5 ≠ []) (hap : Apart w.heap.size L.ta a5) : DrE w (W.setCell ⟨w.heap.size, 8, none⟩ (.slice a5 v5.length c5)) L v a5 c5 v5 := by
  have hC := Chg.setCell W ⟨w.heap.size, 8, none⟩ (.slice a5 v5.length c5)
  have h0 := h.b0
  unfold LvBlk lcells at h0
  have h1 := heap_set h0 8 (.slice a5 v5.length c5)
  simp only [List.setIfInBounds_toArray, List.set_cons_zero, List.set_cons_succ] at h1
  refine ⟨h1, heap_chg h.b1 hC (by simp), heap_chg h.b2 hC (by simp), Sl.chg hv hC (fun k hk hm => by have := hap k hk; simp at hm; omega), hap, fun k hk => by simpa using Vec.lt hv hne k hk, by simpa using h.sz, h.bel.setCell (Nat.le_refl _) _⟩
def JDr (w : World) (L : Lv) (v : Ew) (j : Value) (wr : World) : Prop := ∃ (q : Nat) (va : Option Addr) (vc : Nat) (u : List Dt), q ≤ v.e.ds.length ∧ j = .int .i64 q ∧ u = buryAll L.l.tombs (v.e.ds.take q) ∧ DrE w wr L v va vc u
theorem LvAt.form {w : World} {l m : Lf} {ia ta : Option Addr} {ic tc : Nat} (h : LvAt w ⟨l, ia, ic, ta, tc⟩) (h1 : m.items = l.items) (h2 : m.tombs = l.tombs) : LvAt w ⟨m, ia, ic, ta, tc⟩ :=
  ⟨by show Its w ia ic m.items; rw [h1]; exact h.its, by show Vec w ta tc m.tombs; rw [h2]; exact h.tms, by show m.items.length ≤ _; rw [h1]; exact h.li, by show m.tombs.length ≤ _; rw [h2]; exact h.lt⟩
theorem app_same {w W : World} {L : Lv} {v : Ew} {e : Ending} (l' : Lf) (hl : LvAt w L) (hta : ∀ k ∈ ob L.ta, k < w.heap.size) (hm : MayEv v.e) (ht : typeOf v.e.k = L.l.k) (hB : Below w.heap.size w W) (hi : l'.items = L.l.items) (h2 : l'.tombs = L.l.tombs) (heq : l' = applyP L.l v.e)
    (he : e = .returned (.tuple #[.agg #[.int .u8 l'.k, .int .i64 l'.n, .int .u64 l'.t, .int .u8 l'.d.1.1, .int .u32 l'.d.1.2, .int .u64 l'.d.2, .string l'.x, .slice L.ia l'.items.length L.ic, .slice L.ta l'.tombs.length L.tc], .int .i64 0])) : AppTo w L v e W :=
  ⟨.inr ⟨⟨l', L.ia, L.ic, L.ta, L.tc⟩, he, heq, hm, ht, LvAt.form (hl.below hB) hi h2, fun k hk => Nat.lt_of_lt_of_le (hta k hk) hB.size, fun k hk => .inl hk, fun k hk => .inl hk⟩, hB⟩
theorem app_items {w W : World} {L : Lv} {v : Ew} {e : Ending} (l' : Lf) (a5 : Option Addr) (c5 : Nat) (hl : LvAt w L) (hta : ∀ k ∈ ob L.ta, k < w.heap.size) (hm : MayEv v.e) (ht : typeOf v.e.k = L.l.k) (hB : Below w.heap.size w W) (hi : Its W a5 c5 l'.items) (hl5 : l'.items.length ≤ 1000000) (hia : ∀ k ∈ ob a5, w.heap.size ≤ k) (h2 : l'.tombs = L.l.tombs) (heq : l' = applyP L.l v.e)
    (he : e = .returned (.tuple #[.agg #[.int .u8 l'.k, .int .i64 l'.n, .int .u64 l'.t, .int .u8 l'.d.1.1, .int .u32 l'.d.1.2, .int .u64 l'.d.2, .string l'.x, .slice a5 l'.items.length c5, .slice L.ta l'.tombs.length L.tc], .int .i64 0])) : AppTo w L v e W :=
  ⟨.inr ⟨⟨l', a5, c5, L.ta, L.tc⟩, he, heq, hm, ht, ⟨hi, by show Vec W L.ta L.tc l'.tombs; rw [h2]; exact hl.tms.below hB, hl5, by show l'.tombs.length ≤ _; rw [h2]; exact hl.lt⟩, fun k hk => Nat.lt_of_lt_of_le (hta k hk) hB.size, fun k hk => .inr (hia k hk), fun k hk => .inl hk⟩, hB⟩
theorem app_both {w W : World} {L : Lv} {v : Ew} {e : Ending} (l' : Lf) (a5 b5 : Option Addr) (c5 d5 : Nat) (hm : MayEv v.e) (ht : typeOf v.e.k = L.l.k) (hB : Below w.heap.size w W) (hi : Its W a5 c5 l'.items) (hl5 : l'.items.length ≤ 1000000) (hv : Vec W b5 d5 l'.tombs) (hl6 : l'.tombs.length ≤ 1000000) (hlt : ∀ k ∈ ob b5, k < W.heap.size) (hia : ∀ k ∈ ob a5, w.heap.size ≤ k) (hib : ∀ k ∈ ob b5, k ∈ ob L.ta ∨ w.heap.size ≤ k) (heq : l' = applyP L.l v.e)
    (he : e = .returned (.tuple #[.agg #[.int .u8 l'.k, .int .i64 l'.n, .int .u64 l'.t, .int .u8 l'.d.1.1, .int .u32 l'.d.1.2, .int .u64 l'.d.2, .string l'.x, .slice a5 l'.items.length c5, .slice b5 l'.tombs.length d5], .int .i64 0])) : AppTo w L v e W :=
  ⟨.inr ⟨⟨l', a5, c5, b5, d5⟩, he, heq, hm, ht, ⟨hi, hv, hl5, hl6⟩, hlt, fun k hk => .inr (hia k hk), hib⟩, hB⟩
theorem mayEvent_k (v : Ew) (w : World) (h : EwAt w v) {k : Int} (hk : v.e.k = k) :
    Calls Try.prog 46 #[.agg #[.int .u8 v.e.d.1.1, .int .u32 v.e.d.1.2, .int .u64 v.e.d.2, .int .u64 v.e.t, .int .u8 k, .slice v.pa v.pl.length v.pc, .int .i64 v.e.n, .string v.e.x, .slice v.da v.e.ds.length v.dc]] w (BoolTo w (MayEv v.e)) := by
  subst hk
  exact mayEvent_any v w h
end Go.Proofs.Ytmabjghjkgicgaa
