/- The reference's with (varveref39): contract. -/
import Derived.Test.YtmabjghjkgicgaaROpA
import Derived.Test.YtmabjghjkgicgaaBatC
namespace Go.Proofs.Ytmabjghjkgicgaa
open Go.RowKit
set_option linter.unusedVariables false
set_option linter.unusedSimpArgs false

/-- may an operation be put together with one that waits? -/
structure LikeM (o x : Opn) : Prop where
  k : x.k = o.k
  p : x.p = o.p
  say : o.k ≠ 5
  add : o.k = 1 → AddIs o x
  put : o.k = 3 → PutIs o x
  drop : o.k = 4 → DropIs o x
/-- what comes of it -/
def WithR (w w' : World) (x o r : Ow) : Prop :=
  (o.o.k = 1 ∧ r = { x with o := { x.o with n := x.o.n + o.o.n } }) ∨ (o.o.k = 2 ∧ r = o) ∨ (o.o.k = 3 ∧ r = x) ∨
  (o.o.k = 4 ∧ ∃ y a' c', r = { x with o := { x.o with ds := y }, da := a', dc := c' } ∧ TombsOf x.o.ds o.o.ds y ∧ OwnD w' w.heap.size a' c' y)
def WithTo (w : World) (x o : Ow) (e : Ending) (w' : World) : Prop :=
  ∃ (r : Ow) (z : Bool), e = .returned (.tuple #[.agg #[.int .u8 r.o.k, .slice r.pa r.o.p.length r.pc, .int .i64 r.o.n, .string r.o.x, .slice r.da r.o.ds.length r.dc], .bool z]) ∧ (z = true ↔ LikeM o.o x.o) ∧ (z = true → WithR w w' x o r) ∧ Below w.heap.size w w'
structure WX (w : World) (A B C : Array Value) (W : World) : Prop where
  b0 : W.heap[w.heap.size]? = some (.cells A 35 (0, 0))
  b1 : W.heap[w.heap.size + 1]? = some (.cells B 35 (0, 0))
  b2 : W.heap[w.heap.size + 2]? = some (.cells C 35 (0, 0))
  sz : w.heap.size + 3 ≤ W.heap.size
  bel : Below w.heap.size w W
theorem WX.of {w W : World} {A B C : Array Value} (hb : Below (((w.alloc (.cells A 35)).alloc (.cells B 35)).alloc (.cells C 35)).heap.size (((w.alloc (.cells A 35)).alloc (.cells B 35)).alloc (.cells C 35)) W) : WX w A B C W := by
  obtain ⟨h0, h1, h2, h3, h4⟩ := new3 hb
  exact ⟨h0, h1, h2, h3, h4⟩
theorem WX.step {w W W' : World} {A B C : Array Value} (h : WX w A B C W) (hb : Below W.heap.size W W') : WX w A B C W' :=
  ⟨(hb.block _ (heap_lt h.b0)).trans h.b0, (hb.block _ (heap_lt h.b1)).trans h.b1, (hb.block _ (heap_lt h.b2)).trans h.b2, by have := h.sz; have := hb.size; omega, below2 h.bel hb h.bel.size⟩
theorem kind_op0 {o : Opn} (h : MayO o) : o.k = 1 ∨ o.k = 2 ∨ o.k = 3 ∨ o.k = 4 ∨ o.k = 5 := by
  have := h.kind
  unfold typeOf at this
  grind
theorem below_five {B : Nat} {w w1 : World} (h : Below B w w1) (b : Nat) (hb : B ≤ b) (x0 x1 x2 x3 x4 : Value) : Below B w (((((w1.setCell ⟨b, 0, none⟩ x0).setCell ⟨b, 1, none⟩ x1).setCell ⟨b, 2, none⟩ x2).setCell ⟨b, 3, none⟩ x3).setCell ⟨b, 4, none⟩ x4) :=
  ((((h.setCell hb x0).setCell hb x1).setCell hb x2).setCell hb x3).setCell hb x4
theorem chg_dd {F : List Nat} {a b : World} (h : Chg F a b) : Chg F a.drew b.drew := ⟨h.os, h.tape, h.output, h.size, h.block⟩
theorem held_five {W : World} {p q : Nat} {C D : Array Value} (hp : W.heap[p]? = some (.cells C 35 (0, 0))) (hq : W.heap[q]? = some (.cells D 35 (0, 0))) (b : Nat) (hb : b ≠ p) (hc : b ≠ q) (x0 x1 x2 x3 x4 : Value) :
    Held (fun k => k = p ∨ k = q) W.drew (((((W.setCell ⟨b, 0, none⟩ x0).setCell ⟨b, 1, none⟩ x1).setCell ⟨b, 2, none⟩ x2).setCell ⟨b, 3, none⟩ x3).setCell ⟨b, 4, none⟩ x4).drew :=
  held_two (F := [b]) (w := W.drew) (w' := (((((W.setCell ⟨b, 0, none⟩ x0).setCell ⟨b, 1, none⟩ x1).setCell ⟨b, 2, none⟩ x2).setCell ⟨b, 3, none⟩ x3).setCell ⟨b, 4, none⟩ x4).drew) hp hq (chg_dd (((((Chg.setCell W ⟨b, 0, none⟩ x0).put _ x1 (by simp)).put _ x2 (by simp)).put _ x3 (by simp)).put _ x4 (by simp))) (by simp; omega) (by simp; omega)
theorem ownD_five {W : World} {base c : Nat} {a : Option Addr} {y : List Dt} (h : OwnD W base a c y) (b : Nat) (hb : b < base) (x0 x1 x2 x3 x4 : Value) : OwnD (((((W.setCell ⟨b, 0, none⟩ x0).setCell ⟨b, 1, none⟩ x1).setCell ⟨b, 2, none⟩ x2).setCell ⟨b, 3, none⟩ x3).setCell ⟨b, 4, none⟩ x4).drew base a c y :=
  owns_chg (F := [b]) h ((((((Chg.setCell W ⟨b, 0, none⟩ x0).put _ x1 (by simp)).put _ x2 (by simp)).put _ x3 (by simp)).put _ x4 (by simp)).trans (Chg.drew [] _) (by simp)) (fun k hk hm => by have := (owns_lt h k hk).1; simp at hm; omega)
theorem ownD_one {W : World} {base c : Nat} {a : Option Addr} {y : List Dt} (h : OwnD W base a c y) (p : Addr) (hb : p.block < base) (x : Value) : OwnD (W.setCell p x) base a c y :=
  owns_chg h (Chg.setCell W p x) (fun k hk hm => by have := (owns_lt h k hk).1; simp at hm; omega)
def ozero : Array Value := #[.int .u8 0, .slice none 0 0, .int .i64 0, .string ⟨#[]⟩, .slice none 0 0]
set_option maxRecDepth 100000 in
set_option maxHeartbeats 1000000 in
theorem with_any (x o : Ow) (w : World) (hx : OwAt w x) (ho : OwAt w o) (hmx : MayO x.o) (hmo : MayO o.o) :
    Calls Try.prog 38 #[.agg #[.int .u8 x.o.k, .slice x.pa x.o.p.length x.pc, .int .i64 x.o.n, .string x.o.x, .slice x.da x.o.ds.length x.dc], .agg #[.int .u8 o.o.k, .slice o.pa o.o.p.length o.pc, .int .i64 o.o.n, .string o.o.x, .slice o.da o.o.ds.length o.dc]] w (WithTo w x o) := by
  have hlx := op_len hmx
  have hlo := op_len hmo
  have Hx := Lib.hid hx
  have Ho := Lib.hid ho
  have Hmx := Lib.hid hmx
  have Hmo := Lib.hid hmo
  clear hx ho hmx hmo
  obtain ⟨⟨k, n, t, p, ds⟩, pa, pc, da, dc⟩ := x
  obtain ⟨⟨k', n', t', p', ds'⟩, pa', pc', da', dc'⟩ := o
  dsimp only at hlx hlo ⊢
  cases h0 : (k == k') with
  | false =>
    have He := Lib.hid (show ¬ (k = k') from by simpa using h0)
    have g0 : (k != k') = true := by rw [bne, h0]; rfl
    go_enter Try.func38, Try.ntmps38
    go_wp2_with fail
    refine bodyPost_ret (v := .tuple #[.agg #[.int .u8 k, .slice pa p.length pc, .int .i64 n, .string t, .slice da ds.length dc], .bool false]) (by simp [results, Try.results38, go_sem]; try rfl) rfl ⟨⟨⟨k, n, t, p, ds⟩, pa, pc, da, dc⟩, false, rfl, ⟨fun h => (by cases h), fun h => absurd h.k He.out⟩, fun h => (by cases h), ?_⟩
    exact (((Below.refl _ _).alloc (Nat.le_refl _) _).alloc (by simp) _).alloc (by simp <;> omega) _
  | true =>
    have g0 : (k != k') = false := by rw [bne, h0]; rfl
    obtain rfl : k = k' := by simpa using h0
    clear h0
    go_enter Try.func38, Try.ntmps38
    go_wp2_with fail
    refine (samePath_any pa pa' pc pc' p p' _ (Hx.out.pt.below ?h1) (Ho.out.pt.below ?h2) hlx.1 hlo.1).mono ?_
    case h1 => exact (((Below.refl _ _).alloc (Nat.le_refl _) _).alloc (by simp) _).alloc (by simp <;> omega) _
    case h2 => exact (((Below.refl _ _).alloc (Nat.le_refl _) _).alloc (by simp) _).alloc (by simp <;> omega) _
    intro e w1 hto
    obtain ⟨z, rfl, hz, hb⟩ := hto
    have E : Hid (WX w (ocells k n t pa p.length pc da ds.length dc) (ocells k n' t' pa' p'.length pc' da' ds'.length dc') ozero w1) := Lib.hid (WX.of hb)
    clear hb
    have Hz := Lib.hid hz
    clear hz
    have d0 := cells_at E.out.b0
    have d1 := cells_at E.out.b1
    have d2 := cells_at E.out.b2
    have f0 := free_at E.out.b0
    have f2 := free_at E.out.b2
    have hl0 := heap_lt E.out.b0
    have hl1 := heap_lt E.out.b1
    have hl2 := heap_lt E.out.b2
    have hq1 : w.heap.size + 1 + 1 < w1.heap.size := hl2
    simp only [ocells, ozero] at d0 d1 d2
    have d2' : ∀ i, w1.cell? ⟨w.heap.size + 1 + 1, i, none⟩ = _ := d2
    cases z with
    | false =>
      have He := Lib.hid (show ¬ p = p' from fun h => by have := Hz.out.2 h; cases this)
      go_wp2_with fail
      refine bodyPost_ret (v := .tuple #[.agg #[.int .u8 k, .slice pa p.length pc, .int .i64 n, .string t, .slice da ds.length dc], .bool false]) (by simp [results, Try.results38, go_sem, d2, d2']; try first | rfl | omega) rfl ⟨⟨⟨k, n, t, p, ds⟩, pa, pc, da, dc⟩, false, rfl, ⟨fun h => (by cases h), fun h => absurd h.p He.out⟩, fun h => (by cases h), below_five E.out.bel _ (by omega) _ _ _ _ _⟩
    | true =>
      obtain rfl : p = p' := Hz.out.1 rfl
      clear Hz
      rcases kind_op0 Hmo.out with hk | hk | hk | hk | hk
      · dsimp only at hk
        subst hk
        have hba := Hmx.out.add rfl
        have hbb := Hmo.out.add rfl
        dsimp only at hba hbb
        have hr1 : -2000000 ≤ n + n' := by omega
        have hr2 : n + n' ≤ 2000000 := by omega
        have HB0 := Lib.hid (Go.heap_setCell_same w1 w.heap.size 2 _ _ (.int .i64 (n + n')) E.out.b0)
        have HB1 := Lib.hid (heap_chg E.out.b1 (Chg.setCell w1 ⟨w.heap.size, 2, none⟩ (.int .i64 (n + n'))) (by simp))
        clear hba hbb
        by_cases h1 : n + n' ≤ 1000000
        · by_cases h2 : -1000000 ≤ n + n'
          · have Hw := Lib.hid (show LikeM ⟨1, n', t', p, ds'⟩ ⟨1, n, t, p, ds⟩ from ⟨rfl, rfl, (by simp), fun _ => ⟨h2, h1⟩, fun h => (by cases h), fun h => (by cases h)⟩)
            go_wp2_with fail
            refine region_tree_at (fun q => q = w.heap.size ∨ q = w.heap.size + 1) (sgOf [([0, 1, 2, 3, 4, 5, 6, 7, 8], false), ([9], true), ([10], false)]) mixed (by kernel_rfl) ?_
            simp only [sgOf, wpSgB, List.map_cons, List.map_nil, List.getD_cons_succ, List.getD_cons_zero]
            go_wp2_with fail
            refine And.intro (held_five HB0.out HB1.out _ (by omega) (by omega) _ _ _ _ _) ?_
            go_wp2_with fail
            refine And.intro (And.intro (by kernel_rfl) (reads_of ?rds)) ?_
            case rds => repeat' first | exact trivial | exact Or.inl rfl | exact Or.inr rfl | refine And.intro ?_ ?_
            go_wp2_with fail
            refine bodyPost_ret (v := .tuple #[.agg #[.int .u8 1, .slice pa p.length pc, .int .i64 (n + n'), .string t, .slice da ds.length dc], .bool true]) (by simp [results, Try.results38, go_sem, d2, d2']; try first | rfl | omega) rfl ⟨⟨⟨1, n + n', t, p, ds⟩, pa, pc, da, dc⟩, true, rfl, ⟨fun _ => Hw.out, fun _ => rfl⟩, fun _ => .inl ⟨rfl, rfl⟩, (below_five (E.out.bel.setCell (Nat.le_refl _) _) _ (by omega) _ _ _ _ _).drew⟩
          · have Hw := Lib.hid (show ¬ LikeM ⟨1, n', t', p, ds'⟩ ⟨1, n, t, p, ds⟩ from fun h => h2 (h.add rfl).1)
            go_wp2_with fail
            refine region_tree_at (fun q => q = w.heap.size ∨ q = w.heap.size + 1) (sgOf [([0, 1, 2, 3, 4, 5, 6, 7, 8], false), ([9], true), ([10], false)]) mixed (by kernel_rfl) ?_
            simp only [sgOf, wpSgB, List.map_cons, List.map_nil, List.getD_cons_succ, List.getD_cons_zero]
            go_wp2_with fail
            refine And.intro (held_five HB0.out HB1.out _ (by omega) (by omega) _ _ _ _ _) ?_
            go_wp2_with fail
            refine And.intro (And.intro (by kernel_rfl) (reads_of ?rds)) ?_
            case rds => repeat' first | exact trivial | exact Or.inl rfl | exact Or.inr rfl | refine And.intro ?_ ?_
            go_wp2_with fail
            refine bodyPost_ret (v := .tuple #[.agg #[.int .u8 1, .slice pa p.length pc, .int .i64 (n + n'), .string t, .slice da ds.length dc], .bool false]) (by simp [results, Try.results38, go_sem, d2, d2']; try first | rfl | omega) rfl ⟨⟨⟨1, n + n', t, p, ds⟩, pa, pc, da, dc⟩, false, rfl, ⟨fun h => (by cases h), fun h => absurd h Hw.out⟩, fun h => (by cases h), (below_five (E.out.bel.setCell (Nat.le_refl _) _) _ (by omega) _ _ _ _ _).drew⟩
        · have Hw := Lib.hid (show ¬ LikeM ⟨1, n', t', p, ds'⟩ ⟨1, n, t, p, ds⟩ from fun h => h1 (h.add rfl).2)
          go_wp2_with fail
          refine region_tree_at (fun q => q = w.heap.size ∨ q = w.heap.size + 1) (sgOf [([0, 1, 2, 3, 4, 5, 6, 7, 8], false), ([9], true), ([10], false)]) mixed (by kernel_rfl) ?_
          simp only [sgOf, wpSgB, List.map_cons, List.map_nil, List.getD_cons_succ, List.getD_cons_zero]
          go_wp2_with fail
          refine And.intro (held_five HB0.out HB1.out _ (by omega) (by omega) _ _ _ _ _) ?_
          go_wp2_with fail
          refine And.intro (And.intro (by kernel_rfl) (reads_of ?rds)) ?_
          case rds => repeat' first | exact trivial | exact Or.inl rfl | exact Or.inr rfl | refine And.intro ?_ ?_
          go_wp2_with fail
          refine bodyPost_ret (v := .tuple #[.agg #[.int .u8 1, .slice pa p.length pc, .int .i64 (n + n'), .string t, .slice da ds.length dc], .bool false]) (by simp [results, Try.results38, go_sem, d2, d2']; try first | rfl | omega) rfl ⟨⟨⟨1, n + n', t, p, ds⟩, pa, pc, da, dc⟩, false, rfl, ⟨fun h => (by cases h), fun h => absurd h Hw.out⟩, fun h => (by cases h), (below_five (E.out.bel.setCell (Nat.le_refl _) _) _ (by omega) _ _ _ _ _).drew⟩
      · dsimp only at hk
        subst hk
        have Hw := Lib.hid (show LikeM ⟨2, n', t', p, ds'⟩ ⟨2, n, t, p, ds⟩ from ⟨rfl, rfl, (by simp), fun h => (by cases h), fun h => (by cases h), fun h => (by cases h)⟩)
        go_wp2_with fail
        refine bodyPost_ret (v := .tuple #[.agg #[.int .u8 2, .slice pa' p.length pc', .int .i64 n', .string t', .slice da' ds'.length dc'], .bool true]) (by simp [results, Try.results38, go_sem, d2, d2']; try first | rfl | omega) rfl ⟨⟨⟨2, n', t', p, ds'⟩, pa', pc', da', dc'⟩, true, rfl, ⟨fun _ => Hw.out, fun _ => rfl⟩, fun _ => .inr (.inl ⟨rfl, rfl⟩), below_five E.out.bel _ (by omega) _ _ _ _ _⟩
      · dsimp only at hk
        subst hk
        have HB0 := Lib.hid E.out.b0
        have HB1 := Lib.hid E.out.b1
        cases h1 : (t.toList == t'.toList) with
        | true =>
          obtain rfl : t = t' := by rw [beq_bytes] at h1; simpa using h1
          clear h1
          have Hw := Lib.hid (show LikeM ⟨3, n', t, p, ds'⟩ ⟨3, n, t, p, ds⟩ from ⟨rfl, rfl, (by simp), fun h => (by cases h), fun _ => rfl, fun h => (by cases h)⟩)
          go_wp2_with fail
          refine region_tree_at (fun q => q = w.heap.size ∨ q = w.heap.size + 1) (sgOf [([0, 1, 2, 3, 4, 5], false), ([6], true), ([7], false)]) mixed (by kernel_rfl) ?_
          simp only [sgOf, wpSgB, List.map_cons, List.map_nil, List.getD_cons_succ, List.getD_cons_zero]
          go_wp2_with fail
          refine And.intro (held_five HB0.out HB1.out _ (by omega) (by omega) _ _ _ _ _) ?_
          go_wp2_with fail
          refine And.intro (And.intro (by kernel_rfl) (reads_of ?rds)) ?_
          case rds => repeat' first | exact trivial | exact Or.inl rfl | exact Or.inr rfl | refine And.intro ?_ ?_
          go_wp2_with fail
          refine bodyPost_ret (v := .tuple #[.agg #[.int .u8 3, .slice pa p.length pc, .int .i64 n, .string t, .slice da ds.length dc], .bool true]) (by simp [results, Try.results38, go_sem, d2, d2']; try first | rfl | omega) rfl ⟨⟨⟨3, n, t, p, ds⟩, pa, pc, da, dc⟩, true, rfl, ⟨fun _ => Hw.out, fun _ => rfl⟩, fun _ => .inr (.inr (.inl ⟨rfl, rfl⟩)), (below_five E.out.bel _ (by omega) _ _ _ _ _).drew⟩
        | false =>
          have Hw := Lib.hid (show ¬ LikeM ⟨3, n', t', p, ds'⟩ ⟨3, n, t, p, ds⟩ from fun h => by have e : t = t' := h.put rfl; subst e; simp at h1)
          go_wp2_with fail
          refine region_tree_at (fun q => q = w.heap.size ∨ q = w.heap.size + 1) (sgOf [([0, 1, 2, 3, 4, 5], false), ([6], true), ([7], false)]) mixed (by kernel_rfl) ?_
          simp only [sgOf, wpSgB, List.map_cons, List.map_nil, List.getD_cons_succ, List.getD_cons_zero]
          go_wp2_with fail
          refine And.intro (held_five HB0.out HB1.out _ (by omega) (by omega) _ _ _ _ _) ?_
          go_wp2_with fail
          refine And.intro (And.intro (by kernel_rfl) (reads_of ?rds)) ?_
          case rds => repeat' first | exact trivial | exact Or.inl rfl | exact Or.inr rfl | refine And.intro ?_ ?_
          go_wp2_with fail
          refine bodyPost_ret (v := .tuple #[.agg #[.int .u8 3, .slice pa p.length pc, .int .i64 n, .string t, .slice da ds.length dc], .bool false]) (by simp [results, Try.results38, go_sem, d2, d2']; try first | rfl | omega) rfl ⟨⟨⟨3, n, t, p, ds⟩, pa, pc, da, dc⟩, false, rfl, ⟨fun h => (by cases h), fun h => absurd h Hw.out⟩, fun h => (by cases h), (below_five E.out.bel _ (by omega) _ _ _ _ _).drew⟩
      · dsimp only at hk
        subst hk
        go_wp2_with fail
        refine (rboth39_any da da' dc dc' ds ds' w1 (Hx.out.ds.below E.out.bel) (Ho.out.ds.below E.out.bel) hlx.2 hlo.2).mono ?_
        intro e w2 hto
        obtain ⟨a', c', y, rfl, hy, how, hb⟩ := hto
        have hs12 := hb.size
        have hsz := E.out.sz
        have Hy := Lib.hid hy
        have How := Lib.hid how
        replace E := Lib.hid (E.out.step hb)
        clear hy how hb d0 d1 d2 d2' f0 f2 hl0 hl1 hl2 hq1
        have d0 := cells_at E.out.b0
        have d1 := cells_at E.out.b1
        have d2 := cells_at E.out.b2
        have f0 := free_at E.out.b0
        have f2 := free_at E.out.b2
        have hl0 := heap_lt E.out.b0
        have hl1 := heap_lt E.out.b1
        have hl2 := heap_lt E.out.b2
        have hq1 : w.heap.size + 1 + 1 < w2.heap.size := hl2
        simp only [ocells, ozero] at d0 d1 d2
        have d2' : ∀ i, w2.cell? ⟨w.heap.size + 1 + 1, i, none⟩ = _ := d2
        have HB0 := Lib.hid (Go.heap_setCell_same w2 w.heap.size 4 _ _ (.slice a' y.length c') E.out.b0)
        have HB1 := Lib.hid (heap_chg E.out.b1 (Chg.setCell w2 ⟨w.heap.size, 4, none⟩ (.slice a' y.length c')) (by simp))
        cases h1 : (t.toList == t'.toList) with
        | true =>
          obtain rfl : t = t' := by rw [beq_bytes] at h1; simpa using h1
          clear h1
          by_cases h2 : y.length ≤ 64
          · have Hw := Lib.hid (show LikeM ⟨4, n', t, p, ds'⟩ ⟨4, n, t, p, ds⟩ from ⟨rfl, rfl, (by simp), fun h => (by cases h), fun h => (by cases h), fun _ => ⟨rfl, fun z hz => by rw [hz.uniq Hy.out]; exact h2⟩⟩)
            go_wp2_with fail
            go_region
            all_goals go_wp2_with fail
            all_goals refine bodyPost_ret (v := .tuple #[.agg #[.int .u8 4, .slice pa p.length pc, .int .i64 n, .string t, .slice a' y.length c'], .bool true]) (by simp [results, Try.results38, go_sem, d2, d2']; try first | rfl | omega) rfl ⟨⟨⟨4, n, t, p, y⟩, pa, pc, a', c'⟩, true, rfl, ⟨fun _ => Hw.out, fun _ => rfl⟩, fun _ => .inr (.inr (.inr ⟨rfl, y, a', c', rfl, Hy.out, by first | exact (ownD_five (ownD_one How.out ⟨w.heap.size, 4, none⟩ (by simp; omega) _) _ (by omega) _ _ _ _ _).base (by omega)⟩)), by first | exact (below_five (E.out.bel.setCell (Nat.le_refl _) _) _ (by omega) _ _ _ _ _).drew | exact below_five (E.out.bel.setCell (Nat.le_refl _) _) _ (by omega) _ _ _ _ _⟩
          · have Hw := Lib.hid (show ¬ LikeM ⟨4, n', t, p, ds'⟩ ⟨4, n, t, p, ds⟩ from fun h => h2 ((h.drop rfl).2 y Hy.out))
            go_wp2_with fail
            go_region
            all_goals go_wp2_with fail
            all_goals refine bodyPost_ret (v := .tuple #[.agg #[.int .u8 4, .slice pa p.length pc, .int .i64 n, .string t, .slice a' y.length c'], .bool false]) (by simp [results, Try.results38, go_sem, d2, d2']; try first | rfl | omega) rfl ⟨⟨⟨4, n, t, p, y⟩, pa, pc, a', c'⟩, false, rfl, ⟨fun h => (by cases h), fun h => absurd h Hw.out⟩, fun h => (by cases h), by first | exact (below_five (E.out.bel.setCell (Nat.le_refl _) _) _ (by omega) _ _ _ _ _).drew | exact below_five (E.out.bel.setCell (Nat.le_refl _) _) _ (by omega) _ _ _ _ _⟩
        | false =>
          have Hw := Lib.hid (show ¬ LikeM ⟨4, n', t', p, ds'⟩ ⟨4, n, t, p, ds⟩ from fun h => by have e : t = t' := (h.drop rfl).1; subst e; simp at h1)
          go_wp2_with fail
          go_region
          all_goals go_wp2_with fail
          all_goals refine bodyPost_ret (v := .tuple #[.agg #[.int .u8 4, .slice pa p.length pc, .int .i64 n, .string t, .slice a' y.length c'], .bool false]) (by simp [results, Try.results38, go_sem, d2, d2']; try first | rfl | omega) rfl ⟨⟨⟨4, n, t, p, y⟩, pa, pc, a', c'⟩, false, rfl, ⟨fun h => (by cases h), fun h => absurd h Hw.out⟩, fun h => (by cases h), by first | exact (below_five (E.out.bel.setCell (Nat.le_refl _) _) _ (by omega) _ _ _ _ _).drew | exact below_five (E.out.bel.setCell (Nat.le_refl _) _) _ (by omega) _ _ _ _ _⟩
      · dsimp only at hk
        subst hk
        go_wp2_with fail
        refine bodyPost_ret (v := .tuple #[.agg #[.int .u8 5, .slice pa p.length pc, .int .i64 n, .string t, .slice da ds.length dc], .bool false]) (by simp [results, Try.results38, go_sem, d2, d2']; try first | rfl | omega) rfl ⟨⟨⟨5, n, t, p, ds⟩, pa, pc, da, dc⟩, false, rfl, ⟨fun h => (by cases h), fun h => absurd rfl h.say⟩, fun h => (by cases h), below_five E.out.bel _ (by omega) _ _ _ _ _⟩
end Go.Proofs.Ytmabjghjkgicgaa
