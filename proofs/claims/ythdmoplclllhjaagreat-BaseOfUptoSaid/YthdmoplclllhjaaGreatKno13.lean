/- varvelaw13.known  -/
import Derived.Test.YthdmoplclllhjaaGreatOfA
import Derived.Test.YthdmoplclllhjaaGreatGraQ
import Derived.Test.YthdmoplclllhjaaGreatRegO
import Derived.Test.YthdmoplclllhjaaGreatWitA
namespace Go.Proofs.YthdmoplclllhjaaGreat
open Go.RowKit
set_option linter.unusedVariables false
set_option linter.unusedSimpArgs false
set_option maxRecDepth 100000
@[go_sem] theorem index4_0 (a0 a1 a2 a3 a4 a5 a6 a7 a8 a9 a10 b0 b1 b2 b3 b4 b5 b6 b7 b8 b9 b10 c0 c1 c2 c3 c4 c5 c6 c7 c8 c9 c10 d0 d1 d2 d3 d4 d5 d6 d7 d8 d9 d10 : Value) (w : World) : (Instr.index 130 (.agg #[a0, a1, a2, a3, a4, a5, a6, a7, a8, a9, a10, b0, b1, b2, b3, b4, b5, b6, b7, b8, b9, b10, c0, c1, c2, c3, c4, c5, c6, c7, c8, c9, c10, d0, d1, d2, d3, d4, d5, d6, d7, d8, d9, d10]) (.int .i64 0)).run Tryz.prog w = .ok (.agg #[a0, a1, a2, a3, a4, a5, a6, a7, a8, a9, a10]) w := by kernel_rfl
@[go_sem] theorem index4_1 (a0 a1 a2 a3 a4 a5 a6 a7 a8 a9 a10 b0 b1 b2 b3 b4 b5 b6 b7 b8 b9 b10 c0 c1 c2 c3 c4 c5 c6 c7 c8 c9 c10 d0 d1 d2 d3 d4 d5 d6 d7 d8 d9 d10 : Value) (w : World) : (Instr.index 130 (.agg #[a0, a1, a2, a3, a4, a5, a6, a7, a8, a9, a10, b0, b1, b2, b3, b4, b5, b6, b7, b8, b9, b10, c0, c1, c2, c3, c4, c5, c6, c7, c8, c9, c10, d0, d1, d2, d3, d4, d5, d6, d7, d8, d9, d10]) (.int .i64 1)).run Tryz.prog w = .ok (.agg #[b0, b1, b2, b3, b4, b5, b6, b7, b8, b9, b10]) w := by kernel_rfl
@[go_sem] theorem index4_2 (a0 a1 a2 a3 a4 a5 a6 a7 a8 a9 a10 b0 b1 b2 b3 b4 b5 b6 b7 b8 b9 b10 c0 c1 c2 c3 c4 c5 c6 c7 c8 c9 c10 d0 d1 d2 d3 d4 d5 d6 d7 d8 d9 d10 : Value) (w : World) : (Instr.index 130 (.agg #[a0, a1, a2, a3, a4, a5, a6, a7, a8, a9, a10, b0, b1, b2, b3, b4, b5, b6, b7, b8, b9, b10, c0, c1, c2, c3, c4, c5, c6, c7, c8, c9, c10, d0, d1, d2, d3, d4, d5, d6, d7, d8, d9, d10]) (.int .i64 2)).run Tryz.prog w = .ok (.agg #[c0, c1, c2, c3, c4, c5, c6, c7, c8, c9, c10]) w := by kernel_rfl
@[go_sem] theorem index4_3 (a0 a1 a2 a3 a4 a5 a6 a7 a8 a9 a10 b0 b1 b2 b3 b4 b5 b6 b7 b8 b9 b10 c0 c1 c2 c3 c4 c5 c6 c7 c8 c9 c10 d0 d1 d2 d3 d4 d5 d6 d7 d8 d9 d10 : Value) (w : World) : (Instr.index 130 (.agg #[a0, a1, a2, a3, a4, a5, a6, a7, a8, a9, a10, b0, b1, b2, b3, b4, b5, b6, b7, b8, b9, b10, c0, c1, c2, c3, c4, c5, c6, c7, c8, c9, c10, d0, d1, d2, d3, d4, d5, d6, d7, d8, d9, d10]) (.int .i64 3)).run Tryz.prog w = .ok (.agg #[d0, d1, d2, d3, d4, d5, d6, d7, d8, d9, d10]) w := by kernel_rfl
theorem of13_any (rep : Int) (w : World) : Calls Tryz.prog 96 #[.int .u8 rep] w fun e w' => e = .returned (.agg #[.int .u8 rep, .int .u32 1, .int .u64 1]) ∧ Below w.heap.size w w' := by
  go_enter Tryz.func96, Tryz.ntmps96
  go_wp2_with fail
  exact bodyPost_ret (v := .agg #[.int .u8 rep, .int .u32 1, .int .u64 1]) (by simp [results, Tryz.results96, go_sem]) rfl ⟨rfl, (Below.refl _ _).alloc (Nat.le_refl _) _⟩
/-- the blocks of the page's example: c's rows and c -/
structure K13A (s : Nat) (w : World) : Prop where
  v : w.heap[s]? = some (.cells #[.int .u8 0, .int .u32 1, .int .u64 1] 41 (0, 0))
  p : w.heap[s + 1]? = some (.cells #[.string ⟨#[97]⟩] 9 (0, 0))
  c : w.heap[s + 2]? = some (.cells (ccells 0 1 1 none 0 0 (some ⟨s, 0, none⟩) 1 1 1 1 (some ⟨s + 1, 0, none⟩) 1 1 5 ⟨#[]⟩ none 0 0) 46 (0, 0))
theorem K13A.chg {s : Nat} {w w' : World} {F : List Nat} (h : K13A s w) (hc : Chg F w w') (hF : ∀ k ∈ F, k < s ∨ s + 3 ≤ k) : K13A s w' := by
  have hn : ∀ j, j < 3 → s + j ∉ F := fun j hj hm => by have := hF _ hm; omega
  exact ⟨heap_chg h.v hc (hn 0 (by omega)), heap_chg h.p hc (hn 1 (by omega)), heap_chg h.c hc (hn 2 (by omega))⟩
theorem K13A.below {s : Nat} {w w' : World} (h : K13A s w) (hb : Below w.heap.size w w') : K13A s w' := h.chg (F := []) (Chg.of_below hb) (fun k hk => by cases hk)
theorem K13A.made (w3 : World) : K13A w3.heap.size (((w3.alloc (.cells #[.int .u8 0, .int .u32 1, .int .u64 1] 41)).alloc (.cells #[.string ⟨#[97]⟩] 9)).alloc (.cells (ccells 0 1 1 none 0 0 (some ⟨w3.heap.size, 0, none⟩) 1 1 1 1 (some ⟨w3.heap.size + 1, 0, none⟩) 1 1 5 ⟨#[]⟩ none 0 0) 46)) :=
  ⟨(heap_old _ _ (by simp <;> omega)).trans ((heap_old _ _ (by simp <;> omega)).trans (heap_new _ _)), (heap_old _ _ (by simp <;> omega)).trans (heap_new2 _ _ _), by
    have h := heap_new ((w3.alloc (.cells #[.int .u8 0, .int .u32 1, .int .u64 1] 41)).alloc (.cells #[.string ⟨#[97]⟩] 9)) (.cells (ccells 0 1 1 none 0 0 (some ⟨w3.heap.size, 0, none⟩) 1 1 1 1 (some ⟨w3.heap.size + 1, 0, none⟩) 1 1 5 ⟨#[]⟩ none 0 0) 46)
    simpa using h⟩
theorem heap_six {W : World} {b : Nat} {a0 a1 a2 a3 a4 a5 a6 a7 a8 a9 a10 : Value} {t : TypeId} (h : W.heap[b]? = some (.cells #[a0, a1, a2, a3, a4, a5, a6, a7, a8, a9, a10] t (0, 0))) (x0 x1 x2 x3 x4 x5 : Value) :
    ((((((W.setCell ⟨b, 0, none⟩ x0).setCell ⟨b, 1, none⟩ x1).setCell ⟨b, 2, none⟩ x2).setCell ⟨b, 4, none⟩ x4).setCell ⟨b, 3, none⟩ x3).setCell ⟨b, 5, none⟩ x5).heap[b]? = some (.cells #[x0, x1, x2, x3, x4, x5, a6, a7, a8, a9, a10] t (0, 0)) := by
  have h6 := Go.heap_setCell_same _ b 5 _ t x5 (Go.heap_setCell_same _ b 3 _ t x3 (Go.heap_setCell_same _ b 4 _ t x4 (Go.heap_setCell_same _ b 2 _ t x2 (Go.heap_setCell_same _ b 1 _ t x1 (Go.heap_setCell_same W b 0 _ t x0 h)))))
  simp only [List.setIfInBounds_toArray, List.set_cons_zero, List.set_cons_succ] at h6
  exact h6
theorem heap_four {W : World} {b : Nat} {a0 a1 a2 a3 a4 a5 a6 a7 a8 a9 a10 : Value} {t : TypeId} (h : W.heap[b]? = some (.cells #[a0, a1, a2, a3, a4, a5, a6, a7, a8, a9, a10] t (0, 0))) (x0 x1 x2 x4 : Value) :
    ((((W.setCell ⟨b, 0, none⟩ x0).setCell ⟨b, 1, none⟩ x1).setCell ⟨b, 2, none⟩ x2).setCell ⟨b, 4, none⟩ x4).heap[b]? = some (.cells #[x0, x1, x2, a3, x4, a5, a6, a7, a8, a9, a10] t (0, 0)) := by
  have h6 := Go.heap_setCell_same _ b 4 _ t x4 (Go.heap_setCell_same _ b 2 _ t x2 (Go.heap_setCell_same _ b 1 _ t x1 (Go.heap_setCell_same W b 0 _ t x0 h)))
  simp only [List.setIfInBounds_toArray, List.set_cons_zero, List.set_cons_succ] at h6
  exact h6
/-- a commit that was turned, and its rows -/
structure K13X (s b qa va : Nat) (rep : Int) (w : World) : Prop where
  x : w.heap[b]? = some (.cells (ccells rep 1 1 (some ⟨qa, 0, none⟩) 1 1 (some ⟨va, 0, none⟩) 2 2 2 1 (some ⟨s + 1, 0, none⟩) 1 1 5 ⟨#[]⟩ none 0 0) 46 (0, 0))
  q : w.heap[qa]? = some (.cells #[.int .u8 0, .int .u32 1, .int .u64 1] 41 (0, 0))
  v : w.heap[va]? = some (.cells #[.int .u8 0, .int .u32 1, .int .u64 1, .int .u8 rep, .int .u32 1, .int .u64 1] 41 (0, 0))
theorem K13X.chg {s b qa va : Nat} {rep : Int} {w w' : World} {F : List Nat} (h : K13X s b qa va rep w) (hc : Chg F w w') (h1 : b ∉ F) (h2 : qa ∉ F) (h3 : va ∉ F) : K13X s b qa va rep w' := ⟨heap_chg h.x hc h1, heap_chg h.q hc h2, heap_chg h.v hc h3⟩
theorem K13X.below {s b qa va : Nat} {rep : Int} {w w' : World} (h : K13X s b qa va rep w) (hb : Below w.heap.size w w') : K13X s b qa va rep w' := h.chg (F := []) (Chg.of_below hb) (by simp) (by simp) (by simp)
theorem K13X.made {s b : Nat} {rep : Int} {w9 w10 : World} (hV : w10.heap[w9.heap.size]? = some (.cells #[.int .u8 0, .int .u32 1, .int .u64 1, .int .u8 rep, .int .u32 1, .int .u64 1] 41 (0, 0))) (hY : w10.heap[b]? = some (.cells (ccells 0 1 1 none 0 0 (some ⟨s, 0, none⟩) 1 1 1 1 (some ⟨s + 1, 0, none⟩) 1 1 5 ⟨#[]⟩ none 0 0) 46 (0, 0))) (hb : b < w9.heap.size) :
    K13X s b w10.heap.size w9.heap.size rep (((((((w10.setCell ⟨b, 0, none⟩ (.int .u8 rep)).setCell ⟨b, 1, none⟩ (.int .u32 1)).setCell ⟨b, 2, none⟩ (.int .u64 1)).setCell ⟨b, 4, none⟩ (.slice (some ⟨w9.heap.size, 0, none⟩) 2 2)).setCell ⟨b, 3, none⟩ (.slice (some ⟨w10.heap.size, 0, none⟩) 1 1)).setCell ⟨b, 5, none⟩ (.int .u64 2)).alloc (.cells #[.int .u8 0, .int .u32 1, .int .u64 1] 41)) ∧ Chg [b] w10 (((((((w10.setCell ⟨b, 0, none⟩ (.int .u8 rep)).setCell ⟨b, 1, none⟩ (.int .u32 1)).setCell ⟨b, 2, none⟩ (.int .u64 1)).setCell ⟨b, 4, none⟩ (.slice (some ⟨w9.heap.size, 0, none⟩) 2 2)).setCell ⟨b, 3, none⟩ (.slice (some ⟨w10.heap.size, 0, none⟩) 1 1)).setCell ⟨b, 5, none⟩ (.int .u64 2)).alloc (.cells #[.int .u8 0, .int .u32 1, .int .u64 1] 41)) := by
  have hC : Chg [b] w10 ((((((w10.setCell ⟨b, 0, none⟩ (.int .u8 rep)).setCell ⟨b, 1, none⟩ (.int .u32 1)).setCell ⟨b, 2, none⟩ (.int .u64 1)).setCell ⟨b, 4, none⟩ (.slice (some ⟨w9.heap.size, 0, none⟩) 2 2)).setCell ⟨b, 3, none⟩ (.slice (some ⟨w10.heap.size, 0, none⟩) 1 1)).setCell ⟨b, 5, none⟩ (.int .u64 2)) :=
    ((((((Chg.refl _ _).put _ _ (by simp)).put _ _ (by simp)).put _ _ (by simp)).put _ _ (by simp)).put _ _ (by simp)).put _ _ (by simp)
  have h6 := heap_six hY (.int .u8 rep) (.int .u32 1) (.int .u64 1) (.slice (some ⟨w10.heap.size, 0, none⟩) 1 1) (.slice (some ⟨w9.heap.size, 0, none⟩) 2 2) (.int .u64 2)
  have hv6 := heap_chg hV hC (by simp; omega)
  generalize hW : ((((((w10.setCell ⟨b, 0, none⟩ (.int .u8 rep)).setCell ⟨b, 1, none⟩ (.int .u32 1)).setCell ⟨b, 2, none⟩ (.int .u64 1)).setCell ⟨b, 4, none⟩ (.slice (some ⟨w9.heap.size, 0, none⟩) 2 2)).setCell ⟨b, 3, none⟩ (.slice (some ⟨w10.heap.size, 0, none⟩) 1 1)).setCell ⟨b, 5, none⟩ (.int .u64 2)) = W at *
  have hs : W.heap.size = w10.heap.size := by rw [← hW]; simp
  have hA : Below W.heap.size W (W.alloc (.cells #[.int .u8 0, .int .u32 1, .int .u64 1] 41)) := (Below.refl _ _).alloc (Nat.le_refl _) _
  have hn := heap_new W (.cells #[.int .u8 0, .int .u32 1, .int .u64 1] 41)
  rw [hs] at hn
  exact ⟨⟨(hA.block _ (heap_lt h6)).trans h6, hn, (hA.block _ (heap_lt hv6)).trans hv6⟩, hC.trans (Chg.of_below (F := [b]) hA) (fun x hx _ => hx)⟩
/-- z and its row -/
structure K13Z (s b va : Nat) (w : World) : Prop where
  x : w.heap[b]? = some (.cells (ccells 3 1 1 none 0 0 (some ⟨va, 0, none⟩) 1 1 1 1 (some ⟨s + 1, 0, none⟩) 1 1 5 ⟨#[]⟩ none 0 0) 46 (0, 0))
  v : w.heap[va]? = some (.cells #[.int .u8 3, .int .u32 1, .int .u64 1] 41 (0, 0))
theorem K13Z.made {s b : Nat} {rep : Int} {w10 : World} (hr : rep = 3) (hY : w10.heap[b]? = some (.cells (ccells 0 1 1 none 0 0 (some ⟨s, 0, none⟩) 1 1 1 1 (some ⟨s + 1, 0, none⟩) 1 1 5 ⟨#[]⟩ none 0 0) 46 (0, 0))) :
    K13Z s b w10.heap.size (((((w10.setCell ⟨b, 0, none⟩ (.int .u8 rep)).setCell ⟨b, 1, none⟩ (.int .u32 1)).setCell ⟨b, 2, none⟩ (.int .u64 1)).setCell ⟨b, 4, none⟩ (.slice (some ⟨w10.heap.size, 0, none⟩) 1 1)).alloc (.cells #[.int .u8 rep, .int .u32 1, .int .u64 1] 41)) ∧ Chg [b] w10 (((((w10.setCell ⟨b, 0, none⟩ (.int .u8 rep)).setCell ⟨b, 1, none⟩ (.int .u32 1)).setCell ⟨b, 2, none⟩ (.int .u64 1)).setCell ⟨b, 4, none⟩ (.slice (some ⟨w10.heap.size, 0, none⟩) 1 1)).alloc (.cells #[.int .u8 rep, .int .u32 1, .int .u64 1] 41)) := by
  subst hr
  have hC : Chg [b] w10 ((((w10.setCell ⟨b, 0, none⟩ (.int .u8 3)).setCell ⟨b, 1, none⟩ (.int .u32 1)).setCell ⟨b, 2, none⟩ (.int .u64 1)).setCell ⟨b, 4, none⟩ (.slice (some ⟨w10.heap.size, 0, none⟩) 1 1)) :=
    ((((Chg.refl _ _).put _ _ (by simp)).put _ _ (by simp)).put _ _ (by simp)).put _ _ (by simp)
  have h6 := heap_four hY (.int .u8 3) (.int .u32 1) (.int .u64 1) (.slice (some ⟨w10.heap.size, 0, none⟩) 1 1)
  generalize hW : ((((w10.setCell ⟨b, 0, none⟩ (.int .u8 3)).setCell ⟨b, 1, none⟩ (.int .u32 1)).setCell ⟨b, 2, none⟩ (.int .u64 1)).setCell ⟨b, 4, none⟩ (.slice (some ⟨w10.heap.size, 0, none⟩) 1 1)) = W at *
  have hs : W.heap.size = w10.heap.size := by rw [← hW]; simp
  have hA : Below W.heap.size W (W.alloc (.cells #[.int .u8 3, .int .u32 1, .int .u64 1] 41)) := (Below.refl _ _).alloc (Nat.le_refl _) _
  have hn := heap_new W (.cells #[.int .u8 3, .int .u32 1, .int .u64 1] 41)
  rw [hs] at hn
  exact ⟨⟨(hA.block _ (heap_lt h6)).trans h6, hn⟩, hC.trans (Chg.of_below (F := [b]) hA) (fun x hx _ => hx)⟩
/-- all of the example's blocks -/
structure K13E (lo s b5 b6 b7 qa5 va5 qa6 va6 va7 : Nat) (w : World) : Prop where
  k : K13A s w
  x : K13X s b5 qa5 va5 1 w
  y : K13X s b6 qa6 va6 2 w
  z : K13Z s b7 va7 w
  lo : lo ≤ s ∧ lo ≤ b5 ∧ lo ≤ b6 ∧ lo ≤ b7 ∧ lo ≤ qa5 ∧ lo ≤ va5 ∧ lo ≤ qa6 ∧ lo ≤ va6 ∧ lo ≤ va7
theorem K13E.chg {lo s b5 b6 b7 qa5 va5 qa6 va6 va7 : Nat} {w w' : World} {F : List Nat} (h : K13E lo s b5 b6 b7 qa5 va5 qa6 va6 va7 w) (hc : Chg F w w') (hF : ∀ k ∈ F, k < lo) : K13E lo s b5 b6 b7 qa5 va5 qa6 va6 va7 w' := by
  have hn : ∀ j, lo ≤ j → j ∉ F := fun j hj hm => by have := hF _ hm; omega
  obtain ⟨l1, l2, l3, l4, l5, l6, l7, l8, l9⟩ := h.lo
  exact ⟨h.k.chg hc (fun k hk => .inl (by have := hF k hk; omega)), h.x.chg hc (hn _ l2) (hn _ l5) (hn _ l6), h.y.chg hc (hn _ l3) (hn _ l7) (hn _ l8), ⟨heap_chg h.z.x hc (hn _ l4), heap_chg h.z.v hc (hn _ l9)⟩, h.lo⟩
theorem K13E.below {lo s b5 b6 b7 qa5 va5 qa6 va6 va7 : Nat} {w w' : World} (h : K13E lo s b5 b6 b7 qa5 va5 qa6 va6 va7 w) (hb : Below w.heap.size w w') : K13E lo s b5 b6 b7 qa5 va5 qa6 va6 va7 w' := h.chg (F := []) (Chg.of_below hb) (fun k hk => by cases hk)
def c13 (s : Nat) : Cw := ⟨kC, none, 0, some ⟨s, 0, none⟩, 1, some ⟨s + 1, 0, none⟩, 1, none, 0⟩
def x13 (s qa va : Nat) (c : Cm) : Cw := ⟨c, some ⟨qa, 0, none⟩, 1, some ⟨va, 0, none⟩, 2, some ⟨s + 1, 0, none⟩, 1, none, 0⟩
def z13 (s va : Nat) : Cw := ⟨kZ, none, 0, some ⟨va, 0, none⟩, 1, some ⟨s + 1, 0, none⟩, 1, none, 0⟩
theorem okD_k2 : okD kD2 := ⟨⟨by decide, by decide, by decide⟩, by decide, by decide⟩
theorem okD_k3 : okD kD3 := ⟨⟨by decide, by decide, by decide⟩, by decide, by decide⟩
theorem K13E.cC {lo s b5 b6 b7 qa5 va5 qa6 va6 va7 : Nat} {w : World} (h : K13E lo s b5 b6 b7 qa5 va5 qa6 va6 va7 w) : CwAt w (c13 s) :=
  ⟨Sl.nil _ _, Sl.blk (n := 1) (size := 3) h.k.v rfl (by decide), Sl.blk (n := 1) (size := 1) h.k.p rfl (by decide), Sl.nil _ _, okD_k, fun d hd => (by cases hd), fun d hd => (by simp [c13, kC] at hd; subst hd; exact okD_k), ⟨by show (0 : Int) ≤ 1; decide, by show (1 : Int) ≤ 18446744073709551615; decide⟩, fun d hd => (by cases hd)⟩
theorem K13E.cX {lo s b5 b6 b7 qa5 va5 qa6 va6 va7 : Nat} {w : World} (h : K13E lo s b5 b6 b7 qa5 va5 qa6 va6 va7 w) : CwAt w (x13 s qa5 va5 kL) :=
  ⟨Sl.blk (n := 1) (size := 3) h.x.q rfl (by decide), Sl.blk (n := 2) (size := 3) h.x.v rfl (by decide), Sl.blk (n := 1) (size := 1) h.k.p rfl (by decide), Sl.nil _ _, okD_k1, fun d hd => (by simp [x13, kL] at hd; subst hd; exact okD_k), fun d hd => (by simp [x13, kL] at hd; rcases hd with rfl | rfl; exact okD_k; exact okD_k1), ⟨by show (0 : Int) ≤ 2; decide, by show (2 : Int) ≤ 18446744073709551615; decide⟩, fun d hd => (by cases hd)⟩
theorem K13E.cY {lo s b5 b6 b7 qa5 va5 qa6 va6 va7 : Nat} {w : World} (h : K13E lo s b5 b6 b7 qa5 va5 qa6 va6 va7 w) : CwAt w (x13 s qa6 va6 kY) :=
  ⟨Sl.blk (n := 1) (size := 3) h.y.q rfl (by decide), Sl.blk (n := 2) (size := 3) h.y.v rfl (by decide), Sl.blk (n := 1) (size := 1) h.k.p rfl (by decide), Sl.nil _ _, okD_k2, fun d hd => (by simp [x13, kY] at hd; subst hd; exact okD_k), fun d hd => (by simp [x13, kY] at hd; rcases hd with rfl | rfl; exact okD_k; exact okD_k2), ⟨by show (0 : Int) ≤ 2; decide, by show (2 : Int) ≤ 18446744073709551615; decide⟩, fun d hd => (by cases hd)⟩
theorem K13E.cZ {lo s b5 b6 b7 qa5 va5 qa6 va6 va7 : Nat} {w : World} (h : K13E lo s b5 b6 b7 qa5 va5 qa6 va6 va7 w) : CwAt w (z13 s va7) :=
  ⟨Sl.nil _ _, Sl.blk (n := 1) (size := 3) h.z.v rfl (by decide), Sl.blk (n := 1) (size := 1) h.k.p rfl (by decide), Sl.nil _ _, okD_k3, fun d hd => (by cases hd), fun d hd => (by simp [z13, kZ] at hd; subst hd; exact okD_k3), ⟨by show (0 : Int) ≤ 1; decide, by show (1 : Int) ≤ 18446744073709551615; decide⟩, fun d hd => (by cases hd)⟩
/-- the graph while the example's commits go in -/
structure K13G (w1 wr : World) (pg mb : Nat) (w0 : World) (b : Bw) (L : List Cw) (va : Option Addr) (vc : Nat) (vv : List Dt) (q : Nat) : Prop where
  gr : GrAt wr pg mb w0 0 b L va vc vv
  hist : HistP [] (cms L) vv
  ins : HistI [] (cms L)
  cm : cms L = k4.take q
  bel : Below w1.heap.size w1 wr
theorem K13G.below {w1 wr w' : World} {pg mb : Nat} {w0 : World} {b : Bw} {L : List Cw} {va : Option Addr} {vc : Nat} {vv : List Dt} {q : Nat} (h : K13G w1 wr pg mb w0 b L va vc vv q) (hb : Below wr.heap.size wr w') : K13G w1 w' pg mb w0 b L va vc vv q :=
  ⟨h.gr.below hb, h.hist, h.ins, h.cm, below2 h.bel hb h.bel.size⟩
/-- one goes in -/
theorem K13G.step {w wr w' : World} {pg mb : Nat} {w0 : World} {b : Bw} {L : List Cw} {va : Option Addr} {vc : Nat} {vv : List Dt} {q : Nat} {c : Cm} {e : Ending} (hb : b.b.f = []) (hp : w.heap.size ≤ pg ∧ w.heap.size ≤ mb) (h : K13G w wr pg mb w0 b L va vc vv q) (hc : k4[q]? = some c) (okc : okV c.vv) (hi : InsTo wr pg mb w0 0 b L vv c e w') :
    ∃ (L' : List Cw) (va' : Option Addr) (vc' : Nat) (vv' : List Dt), e = .returned (.int .i64 0) ∧ Chg [pg, mb] wr w' ∧ K13G w w' pg mb w0 b L' va' vc' vv' (q + 1) := by
  have hq : q ≤ 4 := by have h1 := (List.getElem?_eq_some_iff.1 hc).1; simp [k4] at h1; omega
  have hl : L.length = q := by
    have h1 : (cms L).length = (k4.take q).length := by rw [h.cm]
    simp [cms, k4] at h1
    omega
  have h0 : insE b.b.f (findC (cms L)) L.length c = 0 := by rw [hb, h.cm, hl]; exact k4_ok hc
  obtain ⟨rfl, ⟨hz, _⟩ | ⟨_, u, va', vc', hu, hG, hC⟩⟩ := hi
  · exact absurd h0 hz
  have h1 : cms (L ++ [u]) = cms L ++ [c] := by simp [cms, hu]
  rw [hb] at h0
  refine ⟨L ++ [u], va', vc', joinV vv c.vv, by rw [hb]; rw [h0], hC, hG, ?_, ?_, ?_, h.bel.trans (hC.below h.bel.size (fun k hk => by simp at hk; rcases hk with rfl | rfl <;> omega))⟩
  · rw [h1]; exact h.hist.step h.gr.okv okc h0
  · rw [h1]; exact h.ins.step h0
  · rw [h1, h.cm, take_snoc' hc]
theorem three_new (w : World) (o : Obj) : (((w.alloc o).alloc o).alloc o).drew.heap[w.heap.size]? = some o ∧ (((w.alloc o).alloc o).alloc o).drew.heap[w.heap.size + 1]? = some o ∧ (((w.alloc o).alloc o).alloc o).drew.heap[w.heap.size + 1 + 1]? = some o := by
  refine ⟨(heap_old _ _ (by simp <;> omega)).trans ((heap_old _ _ (by simp <;> omega)).trans (heap_new _ _)), (heap_old _ _ (by simp <;> omega)).trans (heap_new2 _ _ _), ?_⟩
  have h := heap_new ((w.alloc o).alloc o) o
  have e : ((w.alloc o).alloc o).heap.size = w.heap.size + 1 + 1 := by simp
  rw [e] at h
  exact h
theorem three_bel (w : World) (a b c : Obj) : Below w.heap.size w (((w.alloc a).alloc b).alloc c).drew := ((((Below.refl _ _).alloc (Nat.le_refl _) _).alloc (by simp) _).alloc (by simp <;> omega) _).drew
/-- two worlds that grew out of one -/
theorem held_2w {w wa wb : World} {q : Nat} (hq : q < w.heap.size) (ha : Below w.heap.size w wa) (hb : Below w.heap.size w wb) {C : Array Value} {t : TypeId} (h : w.heap[q]? = some (.cells C t (0, 0))) : Held (fun k => k = q) wa wb := held_new ((ha.block q hq).trans h) ((hb.block q hq).trans h)
set_option maxRecDepth 100000 in
set_option maxHeartbeats 16000000 in
theorem known13_any (w : World) : Calls Tryz.prog 25 #[] w fun e w' => e = .returned (.bool true) ∧ Below w.heap.size w w' := by
  go_enter Tryz.func25, Tryz.ntmps25
  go_wp2_with fail
  refine (newE_any w).mono ?_
  intro e w1 hto
  obtain ⟨pg, mb, w0, b, va, vc, rfl, hbb, hG, hB, hz⟩ := hto
  have HG := Lib.hid hG
  have HB := Lib.hid hB
  have Hbb := Lib.hid hbb
  have Hbf := Lib.hid (show b.b.f = [] by rw [hbb])
  have Hpl := Lib.hid (show w.heap.size ≤ pg ∧ w.heap.size ≤ mb from ⟨Nat.le_trans hz hG.old.1, Nat.le_trans hz hG.old.2⟩)
  have Hpl2 := Lib.hid (show pg < w1.heap.size ∧ mb < w1.heap.size from ⟨heap_lt hG.blk, hG.map.lt⟩)
  clear hG hB hbb
  go_wp2_with fail
  refine (of13_any 0 _).mono ?_
  rintro e w2 ⟨rfl, hb2⟩
  have HB2 := Lib.hid hb2
  clear hb2
  go_wp2_with fail
  refine (of13_any 0 _).mono ?_
  rintro e w3 ⟨rfl, hb3⟩
  have HB3 := Lib.hid (below2 HB2.out hb3 HB2.out.size)
  clear hb3 HB2
  go_upto_region 6 with (fail)
  have K0 := Lib.hid (K13A.made w3)
  have HB4 : Hid (Below w1.heap.size w1 (((w3.alloc (.cells #[.int .u8 0, .int .u32 1, .int .u64 1] 41)).alloc (.cells #[.string ⟨#[97]⟩] 9)).alloc (.cells (ccells 0 1 1 none 0 0 (some ⟨w3.heap.size, 0, none⟩) 1 1 1 1 (some ⟨w3.heap.size + 1, 0, none⟩) 1 1 5 ⟨#[]⟩ none 0 0) 46))) := Lib.hid (((HB3.out.alloc HB3.out.size _).alloc (by have := HB3.out.size; simp; omega) _).alloc (by have := HB3.out.size; simp; omega) _)
  simp only [ccells] at K0 HB4
  generalize (((w3.alloc (.cells #[.int .u8 0, .int .u32 1, .int .u64 1] 41)).alloc (.cells #[.string ⟨#[97]⟩] 9)).alloc (.cells #[.int .u8 0, .int .u32 1, .int .u64 1, .slice none 0 0, .slice (some ⟨w3.heap.size, 0, none⟩) 1 1, .int .u64 1, .int .u8 1, .slice (some ⟨w3.heap.size + 1, 0, none⟩) 1 1, .int .i64 5, .string ⟨#[]⟩, .slice none 0 0] 46)) = w4 at K0 HB4 ⊢
  have hs1 : w1.heap.size ≤ w3.heap.size := HB3.out.size
  generalize w3.heap.size = s at K0 hs1 ⊢
  clear HB3
  have d0 := cells_at K0.out.c
  simp only [ccells] at d0
  have z0 := heap_lt K0.out.c
  go_cut [5, 6, 7] (fun x5 x6 x7 wx => ∃ b5 b6 b7 : Nat, x5 = .pointer (some ⟨b5, 0, none⟩) ∧ x6 = .pointer (some ⟨b6, 0, none⟩) ∧ x7 = .pointer (some ⟨b7, 0, none⟩) ∧ b5 ≠ b6 ∧ b5 ≠ b7 ∧ b6 ≠ b7 ∧ w4.heap.size ≤ b5 ∧ w4.heap.size ≤ b6 ∧ w4.heap.size ≤ b7 ∧ Hid (Below w4.heap.size w4 wx) ∧
    Hid (wx.heap[b5]? = some (.cells (ccells 0 1 1 none 0 0 (some ⟨s, 0, none⟩) 1 1 1 1 (some ⟨s + 1, 0, none⟩) 1 1 5 ⟨#[]⟩ none 0 0) 46 (0, 0))) ∧ Hid (wx.heap[b6]? = some (.cells (ccells 0 1 1 none 0 0 (some ⟨s, 0, none⟩) 1 1 1 1 (some ⟨s + 1, 0, none⟩) 1 1 5 ⟨#[]⟩ none 0 0) 46 (0, 0))) ∧ Hid (wx.heap[b7]? = some (.cells (ccells 0 1 1 none 0 0 (some ⟨s, 0, none⟩) 1 1 1 1 (some ⟨s + 1, 0, none⟩) 1 1 5 ⟨#[]⟩ none 0 0) 46 (0, 0))))
  case first =>
    refine region_many_at (fun k => k = s + 2) (.seg [0, 1, 2] false (.fork (.seg [3] false (.fork (.seg [4, 5] false (.seg [6] true (.seg [7] true (.seg [8] false .done)))) (.seg [5, 4] false (.seg [6] true (.seg [7] true (.seg [8] false .done)))))) (.fork (.seg [4] false (.fork (.seg [3, 5] false (.seg [6] true (.seg [7] true (.seg [8] false .done)))) (.seg [5, 3] false (.seg [6] true (.seg [7] true (.seg [8] false .done)))))) (.seg [5] false (.fork (.seg [3, 4] false (.seg [6] true (.seg [7] true (.seg [8] false .done)))) (.seg [4, 3] false (.seg [6] true (.seg [7] true (.seg [8] false .done))))))))) mixed (by kernel_rfl) ?_
    simp only [wpSgB, List.map_cons, List.map_nil, List.getD_cons_succ, List.getD_cons_zero]
    go_wp2_with fail
    have hbel := three_bel w4 (.cells (ccells 0 1 1 none 0 0 (some ⟨s, 0, none⟩) 1 1 1 1 (some ⟨s + 1, 0, none⟩) 1 1 5 ⟨#[]⟩ none 0 0) 46) (.cells (ccells 0 1 1 none 0 0 (some ⟨s, 0, none⟩) 1 1 1 1 (some ⟨s + 1, 0, none⟩) 1 1 5 ⟨#[]⟩ none 0 0) 46) (.cells (ccells 0 1 1 none 0 0 (some ⟨s, 0, none⟩) 1 1 1 1 (some ⟨s + 1, 0, none⟩) 1 1 5 ⟨#[]⟩ none 0 0) 46)
    obtain ⟨t0, t1, t2⟩ := three_new w4 (.cells (ccells 0 1 1 none 0 0 (some ⟨s, 0, none⟩) 1 1 1 1 (some ⟨s + 1, 0, none⟩) 1 1 5 ⟨#[]⟩ none 0 0) 46)
    have HT := Lib.hid (And.intro t0 (And.intro t1 t2))
    have HBl := Lib.hid hbel
    clear t0 t1 t2 hbel
    refine And.intro ?_ (And.intro ?_ ?_)
    all_goals
      go_wp2_with fail
      refine And.intro ?_ ?_
    all_goals
      go_wp2_with fail
      refine And.intro (held_2w z0 (three_bel _ _ _ _) (three_bel _ _ _ _) K0.out.c) ?_
      go_wp2_with fail
      refine And.intro (held_2w z0 (three_bel _ _ _ _) (three_bel _ _ _ _) K0.out.c) ?_
      go_wp2_with fail
      refine And.intro (And.intro (by kernel_rfl) (reads_of ?rds)) ?_
      case rds => exact ⟨rfl, rfl, rfl, trivial, trivial, trivial, trivial, trivial, trivial, trivial⟩
      go_wp2_with fail
      go_meet
      exact ⟨_, _, _, rfl, rfl, rfl, by omega, by omega, by omega, by omega, by omega, by omega, HBl, by first | exact Lib.hid HT.out.1 | exact Lib.hid HT.out.2.1 | exact Lib.hid HT.out.2.2, by first | exact Lib.hid HT.out.1 | exact Lib.hid HT.out.2.1 | exact Lib.hid HT.out.2.2, by first | exact Lib.hid HT.out.1 | exact Lib.hid HT.out.2.1 | exact Lib.hid HT.out.2.2⟩
  case rest =>
    obtain ⟨b5, b6, b7, rfl, rfl, rfl, n1, n2, n3, l5, l6, l7, HB5, X5, X6, X7⟩ := hcut
    obtain ⟨w6, hw6⟩ : ∃ w6, w6 = wc := ⟨_, rfl⟩
    subst hw6
    have K6 := Lib.hid (K0.out.below HB5.out)
    have hb6w : b6 < w6.heap.size := heap_lt X6.out
    have hb7w : b7 < w6.heap.size := heap_lt X7.out
    have hsw : s + 3 ≤ w4.heap.size := heap_lt K0.out.c
    have K0c := Lib.hid K0.out.c
    clear d0 z0 K0
    go_wp2_with fail
    refine (of13_any 1 _).mono ?_
    rintro e w7 ⟨rfl, hb⟩
    have H7 := Lib.hid hb
    clear hb
    go_wp2_with fail
    refine (of13_any 0 _).mono ?_
    rintro e w8 ⟨rfl, hb⟩
    have H8 := Lib.hid (below2 H7.out hb H7.out.size)
    clear hb H7
    go_wp2_with fail
    refine (of13_any 1 _).mono ?_
    rintro e w9 ⟨rfl, hb⟩
    have H9 := Lib.hid (below2 H8.out hb H8.out.size)
    clear hb H8
    go_wp2_with fail
    refine (of13_any 0 _).mono ?_
    rintro e w10 ⟨rfl, hb⟩
    have A9 : Hid (Below w9.heap.size w9 w10) := Lib.hid (((Below.refl _ _).alloc (Nat.le_refl _) _).trans (hb.mono (by simp)))
    have V9 := Lib.hid ((hb.block _ (by simp)).trans (heap_new w9 (.cells #[.int .u8 0, .int .u32 1, .int .u64 1, .int .u8 1, .int .u32 1, .int .u64 1] 41)))
    have H10 := Lib.hid (below2 H9.out A9.out H9.out.size)
    have Y5 := Lib.hid ((H10.out.block _ (heap_lt X5.out)).trans X5.out)
    clear hb
    have d5 := cells_at Y5.out
    have f5 := free_at Y5.out
    simp only [ccells] at d5
    have z5 := heap_lt Y5.out
    go_upto_region 8 with (fail)
    obtain ⟨M7, C7⟩ := K13X.made (s := s) (b := b5) (rep := 1) V9.out Y5.out (by have h1 := H9.out.size; have h2 := heap_lt X5.out; omega)
    have hb5w : b5 < w6.heap.size := heap_lt X5.out
    have C7w := (Chg.of_below (F := [b5]) H10.out).trans C7 (fun x hx _ => hx)
    have X6' := Lib.hid (heap_chg X6.out C7w (by simp; omega))
    have X7' := Lib.hid (heap_chg X7.out C7w (by simp; omega))
    have hK7 : K13A s (((((((w10.setCell ⟨b5, 0, none⟩ (.int .u8 1)).setCell ⟨b5, 1, none⟩ (.int .u32 1)).setCell ⟨b5, 2, none⟩ (.int .u64 1)).setCell ⟨b5, 4, none⟩ (.slice (some ⟨w9.heap.size, 0, none⟩) 2 2)).setCell ⟨b5, 3, none⟩ (.slice (some ⟨w10.heap.size, 0, none⟩) 1 1)).setCell ⟨b5, 5, none⟩ (.int .u64 2)).alloc (.cells #[.int .u8 0, .int .u32 1, .int .u64 1] 41)) := K6.out.chg C7w (fun k hk => by simp at hk; subst hk; have h1 := heap_lt K0c.out; omega)
    have hBl7 : Below w4.heap.size w4 (((((((w10.setCell ⟨b5, 0, none⟩ (.int .u8 1)).setCell ⟨b5, 1, none⟩ (.int .u32 1)).setCell ⟨b5, 2, none⟩ (.int .u64 1)).setCell ⟨b5, 4, none⟩ (.slice (some ⟨w9.heap.size, 0, none⟩) 2 2)).setCell ⟨b5, 3, none⟩ (.slice (some ⟨w10.heap.size, 0, none⟩) 1 1)).setCell ⟨b5, 5, none⟩ (.int .u64 2)).alloc (.cells #[.int .u8 0, .int .u32 1, .int .u64 1] 41)) := HB5.out.trans (C7w.below HB5.out.size (by simpa using l5))
    have hq7 : w6.heap.size ≤ w10.heap.size ∧ w6.heap.size ≤ w9.heap.size := ⟨H10.out.size, H9.out.size⟩
    generalize ((((((w10.setCell ⟨b5, 0, none⟩ (.int .u8 1)).setCell ⟨b5, 1, none⟩ (.int .u32 1)).setCell ⟨b5, 2, none⟩ (.int .u64 1)).setCell ⟨b5, 4, none⟩ (.slice (some ⟨w9.heap.size, 0, none⟩) 2 2)).setCell ⟨b5, 3, none⟩ (.slice (some ⟨w10.heap.size, 0, none⟩) 1 1)).setCell ⟨b5, 5, none⟩ (.int .u64 2)).alloc (.cells #[.int .u8 0, .int .u32 1, .int .u64 1] 41) = w11 at M7 C7 C7w X6' X7' hK7 hBl7 ⊢
    generalize w10.heap.size = qa5 at M7 hq7 ⊢
    generalize w9.heap.size = va5 at M7 hq7 ⊢
    have hlo4 : w1.heap.size ≤ w4.heap.size := HB4.out.size
    have hlo5 : w1.heap.size ≤ qa5 ∧ w1.heap.size ≤ va5 := by have h2 := HB5.out.size; omega
    have M5 := Lib.hid M7
    have K11 := Lib.hid hK7
    have HB11 := Lib.hid hBl7
    clear M7 C7 C7w hK7 hBl7 V9 Y5 A9 H9 H10 X5 X6 X7 K6 HB5 d5 f5 z5
    have hw46 : w4.heap.size ≤ w11.heap.size := HB11.out.size
    go_wp2_with fail
    refine (of13_any 2 _).mono ?_
    rintro e w12 ⟨rfl, hb⟩
    have H7 := Lib.hid hb
    clear hb
    go_wp2_with fail
    refine (of13_any 0 _).mono ?_
    rintro e w13 ⟨rfl, hb⟩
    have H8 := Lib.hid (below2 H7.out hb H7.out.size)
    clear hb H7
    go_wp2_with fail
    refine (of13_any 2 _).mono ?_
    rintro e w14 ⟨rfl, hb⟩
    have H9 := Lib.hid (below2 H8.out hb H8.out.size)
    clear hb H8
    go_wp2_with fail
    refine (of13_any 0 _).mono ?_
    rintro e w15 ⟨rfl, hb⟩
    have A9 : Hid (Below w14.heap.size w14 w15) := Lib.hid (((Below.refl _ _).alloc (Nat.le_refl _) _).trans (hb.mono (by simp)))
    have V9 := Lib.hid ((hb.block _ (by simp)).trans (heap_new w14 (.cells #[.int .u8 0, .int .u32 1, .int .u64 1, .int .u8 2, .int .u32 1, .int .u64 1] 41)))
    have H10 := Lib.hid (below2 H9.out A9.out H9.out.size)
    have Y5 := Lib.hid ((H10.out.block _ (heap_lt X6'.out)).trans X6'.out)
    clear hb
    have d5 := cells_at Y5.out
    have f5 := free_at Y5.out
    simp only [ccells] at d5
    have z5 := heap_lt Y5.out
    go_upto_region 9 with (fail)
    have hqa := heap_lt M5.out.q
    have hva := heap_lt M5.out.v
    obtain ⟨M7, C7⟩ := K13X.made (s := s) (b := b6) (rep := 2) V9.out Y5.out (by have h1 := H9.out.size; have h2 := heap_lt X6'.out; omega)
    have C7w := (Chg.of_below (F := [b6]) H10.out).trans C7 (fun x hx _ => hx)
    have X7'' := Lib.hid (heap_chg X7'.out C7w (by simp; omega))
    have hM5 := M5.out.chg C7w (by simp; omega) (by simp; omega) (by simp; omega)
    have hK7 := K11.out.chg C7w (fun k hk => by simp at hk; subst hk; omega)
    have hBl7 := HB11.out.trans (C7w.below HB11.out.size (by simpa using l6))
    have hq8 : w11.heap.size ≤ w15.heap.size ∧ w11.heap.size ≤ w14.heap.size := ⟨H10.out.size, H9.out.size⟩
    generalize (((((((w15.setCell ⟨b6, 0, none⟩ (.int .u8 2)).setCell ⟨b6, 1, none⟩ (.int .u32 1)).setCell ⟨b6, 2, none⟩ (.int .u64 1)).setCell ⟨b6, 4, none⟩ (.slice (some ⟨w14.heap.size, 0, none⟩) 2 2)).setCell ⟨b6, 3, none⟩ (.slice (some ⟨w15.heap.size, 0, none⟩) 1 1)).setCell ⟨b6, 5, none⟩ (.int .u64 2)).alloc (.cells #[.int .u8 0, .int .u32 1, .int .u64 1] 41)) = w16 at M7 C7 C7w X7'' hM5 hK7 hBl7 ⊢
    generalize w15.heap.size = qa6 at M7 hq8 ⊢
    generalize w14.heap.size = va6 at M7 hq8 ⊢
    have hlo6 : w1.heap.size ≤ qa6 ∧ w1.heap.size ≤ va6 := by omega
    have M6 := Lib.hid M7
    have M5' := Lib.hid hM5
    have K16 := Lib.hid hK7
    have HB16 := Lib.hid hBl7
    have hb7q : b7 < qa5 ∧ b7 < va5 ∧ b7 < qa6 ∧ b7 < va6 := by have h1 := heap_lt X7'.out; omega
    clear M7 C7 C7w hM5 hK7 hBl7 V9 Y5 A9 H9 H10 X6' X7' K11 HB11 M5 d5 f5 z5 hqa hva hq7 hq8 hw46
    go_wp2_with fail
    refine (of13_any 3 _).mono ?_
    rintro e w12' ⟨rfl, hb⟩
    have H7 := Lib.hid hb
    clear hb
    go_wp2_with fail
    refine (of13_any 3 _).mono ?_
    rintro e w17 ⟨rfl, hb⟩
    have H8 := Lib.hid (below2 H7.out hb H7.out.size)
    have Y5 := Lib.hid ((H8.out.block _ (heap_lt X7''.out)).trans X7''.out)
    clear hb H7
    have d5 := cells_at Y5.out
    have f5 := free_at Y5.out
    simp only [ccells] at d5
    have z5 := heap_lt Y5.out
    go_upto_region 10 with (fail)
    obtain ⟨M7, C7⟩ := K13Z.made (s := s) (b := b7) (rep := 3) rfl Y5.out
    have C7w := (Chg.of_below (F := [b7]) H8.out).trans C7 (fun x hx _ => hx)
    have hM5 := M5'.out.chg C7w (by simp; omega) (by simp; omega) (by simp; omega)
    have hM6 := M6.out.chg C7w (by simp; omega) (by simp; omega) (by simp; omega)
    have hK7 := K16.out.chg C7w (fun k hk => by simp at hk; subst hk; omega)
    have hBl7 := HB16.out.trans (C7w.below HB16.out.size (by simpa using l7))
    generalize (((((w17.setCell ⟨b7, 0, none⟩ (.int .u8 3)).setCell ⟨b7, 1, none⟩ (.int .u32 1)).setCell ⟨b7, 2, none⟩ (.int .u64 1)).setCell ⟨b7, 4, none⟩ (.slice (some ⟨w17.heap.size, 0, none⟩) 1 1)).alloc (.cells #[.int .u8 3, .int .u32 1, .int .u64 1] 41)) = w18 at M7 C7 C7w hM5 hM6 hK7 hBl7 ⊢
    have hlo7 : w1.heap.size ≤ w17.heap.size := by have h2 := HB16.out.size; have h3 := H8.out.size; omega
    generalize w17.heap.size = va7 at M7 hlo7 ⊢
    have MX := Lib.hid hM5
    have MY := Lib.hid hM6
    have MZ := Lib.hid M7
    have MK := Lib.hid hK7
    have HB18 := Lib.hid (below2 HB4.out hBl7 HB4.out.size)
    clear M7 C7 C7w hM5 hM6 hK7 hBl7 Y5 H8 X7'' K16 HB16 M5' M6 d5 f5 z5
    have d1 := cells_at MK.out.c
    have d2 := cells_at MX.out.x
    have d3 := cells_at MY.out.x
    have d4 := cells_at MZ.out.x
    simp only [ccells] at d1 d2 d3 d4
    have y1 := heap_lt MK.out.c
    have y2 := heap_lt MX.out.x
    have y3 := heap_lt MY.out.x
    have y4 := heap_lt MZ.out.x
    have KE0 : Hid (K13E w1.heap.size s b5 b6 b7 qa5 va5 qa6 va6 va7 w18) := Lib.hid ⟨MK.out, MX.out, MY.out, MZ.out, by omega⟩
    have G18 : Hid (K13G w w18 pg mb w0 b [] va vc [] 0) := Lib.hid ⟨HG.out.below HB18.out, HistP.start (fun d hd => by cases hd) rfl, HistI.start _, rfl, below2 HB.out HB18.out HB.out.size⟩
    go_wp2_with fail
    go_loopw [73] (fun j wr => ∃ (q : Nat) (L : List Cw) (va' : Option Addr) (vc' : Nat) (vv : List Dt), q ≤ 4 ∧ j = .int .i64 q ∧ Hid (K13G w wr pg mb w0 b L va' vc' vv q) ∧ Hid (K13E w1.heap.size s b5 b6 b7 qa5 va5 qa6 va6 va7 wr)) (fun j _ => 4 - (intOf j).toNat)
    case atStart => exact ⟨0, [], va, vc, [], by omega, rfl, G18, KE0⟩
    case round =>
      obtain ⟨q, L, va', vc', vv, hq, rfl, G, K⟩ := hrel
      clear G18 KE0 d1 d2 d3 d4
      by_cases hlt : q < 4
      · obtain rfl | rfl | rfl | rfl : q = 0 ∨ q = 1 ∨ q = 2 ∨ q = 3 := by omega
        · have HA : Hid (Below wr.heap.size wr (wr.alloc (.cells (ccells 0 1 1 none 0 0 (some ⟨s, 0, none⟩) 1 1 1 1 (some ⟨s + 1, 0, none⟩) 1 1 5 ⟨#[]⟩ none 0 0) 46))) := Lib.hid ((Below.refl _ _).alloc (Nat.le_refl _) _)
          have GA := Lib.hid (G.out.below HA.out)
          have KA := Lib.hid (K.out.below HA.out)
          go_wp2_with fail
          refine (insert_G pg mb w0 0 b L va' vc' vv (c13 s) _ GA.out.gr KA.out.cC (by simp [c13, x13, z13, kC, kL, kY, kZ])).mono ?_
          intro e w9 hto
          obtain ⟨L', va2, vc2, vv2, rfl, hC, hG⟩ := K13G.step (q := 0) Hbf.out Hpl.out GA.out rfl KA.out.cC.ok.vv hto
          have G9 := Lib.hid hG
          have K9 := Lib.hid (KA.out.chg hC (fun k hk => by have h1 := Hpl2.out; simp at hk; rcases hk with rfl | rfl <;> omega))
          clear hto hC hG HA GA KA
          go_wp2_with fail
          go_roundw
          case rel => exact ⟨0 + 1, L', va2, vc2, vv2, by omega, by go_num, G9, K9⟩
          case measure => simp [intOf]
        · have HA : Hid (Below wr.heap.size wr (wr.alloc (.cells (ccells 1 1 1 (some ⟨qa5, 0, none⟩) 1 1 (some ⟨va5, 0, none⟩) 2 2 2 1 (some ⟨s + 1, 0, none⟩) 1 1 5 ⟨#[]⟩ none 0 0) 46))) := Lib.hid ((Below.refl _ _).alloc (Nat.le_refl _) _)
          have GA := Lib.hid (G.out.below HA.out)
          have KA := Lib.hid (K.out.below HA.out)
          go_wp2_with fail
          refine (insert_G pg mb w0 0 b L va' vc' vv (x13 s qa5 va5 kL) _ GA.out.gr KA.out.cX (by simp [c13, x13, z13, kC, kL, kY, kZ])).mono ?_
          intro e w9 hto
          obtain ⟨L', va2, vc2, vv2, rfl, hC, hG⟩ := K13G.step (q := 1) Hbf.out Hpl.out GA.out rfl KA.out.cX.ok.vv hto
          have G9 := Lib.hid hG
          have K9 := Lib.hid (KA.out.chg hC (fun k hk => by have h1 := Hpl2.out; simp at hk; rcases hk with rfl | rfl <;> omega))
          clear hto hC hG HA GA KA
          go_wp2_with fail
          go_roundw
          case rel => exact ⟨1 + 1, L', va2, vc2, vv2, by omega, by go_num, G9, K9⟩
          case measure => simp [intOf]
        · have HA : Hid (Below wr.heap.size wr (wr.alloc (.cells (ccells 2 1 1 (some ⟨qa6, 0, none⟩) 1 1 (some ⟨va6, 0, none⟩) 2 2 2 1 (some ⟨s + 1, 0, none⟩) 1 1 5 ⟨#[]⟩ none 0 0) 46))) := Lib.hid ((Below.refl _ _).alloc (Nat.le_refl _) _)
          have GA := Lib.hid (G.out.below HA.out)
          have KA := Lib.hid (K.out.below HA.out)
          go_wp2_with fail
          refine (insert_G pg mb w0 0 b L va' vc' vv (x13 s qa6 va6 kY) _ GA.out.gr KA.out.cY (by simp [c13, x13, z13, kC, kL, kY, kZ])).mono ?_
          intro e w9 hto
          obtain ⟨L', va2, vc2, vv2, rfl, hC, hG⟩ := K13G.step (q := 2) Hbf.out Hpl.out GA.out rfl KA.out.cY.ok.vv hto
          have G9 := Lib.hid hG
          have K9 := Lib.hid (KA.out.chg hC (fun k hk => by have h1 := Hpl2.out; simp at hk; rcases hk with rfl | rfl <;> omega))
          clear hto hC hG HA GA KA
          go_wp2_with fail
          go_roundw
          case rel => exact ⟨2 + 1, L', va2, vc2, vv2, by omega, by go_num, G9, K9⟩
          case measure => simp [intOf]
        · have HA : Hid (Below wr.heap.size wr (wr.alloc (.cells (ccells 3 1 1 none 0 0 (some ⟨va7, 0, none⟩) 1 1 1 1 (some ⟨s + 1, 0, none⟩) 1 1 5 ⟨#[]⟩ none 0 0) 46))) := Lib.hid ((Below.refl _ _).alloc (Nat.le_refl _) _)
          have GA := Lib.hid (G.out.below HA.out)
          have KA := Lib.hid (K.out.below HA.out)
          go_wp2_with fail
          refine (insert_G pg mb w0 0 b L va' vc' vv (z13 s va7) _ GA.out.gr KA.out.cZ (by simp [c13, x13, z13, kC, kL, kY, kZ])).mono ?_
          intro e w9 hto
          obtain ⟨L', va2, vc2, vv2, rfl, hC, hG⟩ := K13G.step (q := 3) Hbf.out Hpl.out GA.out rfl KA.out.cZ.ok.vv hto
          have G9 := Lib.hid hG
          have K9 := Lib.hid (KA.out.chg hC (fun k hk => by have h1 := Hpl2.out; simp at hk; rcases hk with rfl | rfl <;> omega))
          clear hto hC hG HA GA KA
          go_wp2_with fail
          go_roundw
          case rel => exact ⟨3 + 1, L', va2, vc2, vv2, by omega, by go_num, G9, K9⟩
          case measure => simp [intOf]
      · have hq4 : q = 4 := by omega
        have Hcm := Lib.hid (show cms L = k4 from by have h1 := G.out.cm; rw [hq4] at h1; exact h1)
        clear hq4
        have HD := Lib.hid (DagP.of G.out.ins G.out.hist (List.Perm.refl _))
        have Htr3 : Hid (TrRd w0 3 b.ra b.rc b.b.tr) := Lib.hid (by
          have h1 := G.out.gr.base.tr
          have h2 : b.b.tr = [] := by rw [Hbb.out]
          rw [h2] at h1 ⊢
          exact ⟨h1.2, fun x hx => by cases hx⟩)
        have Hbd : Hid (BdA 1100000 3 b.b.tr) := Lib.hid (by
          have h2 : b.b.tr = [] := by rw [Hbb.out]
          rw [h2]
          exact ⟨by simp, fun x hx => by cases hx⟩)
        have GR := Lib.hid G.out.gr
        have GB := Lib.hid G.out.bel
        clear G K Hbb MK MX MY MZ y1 y2 y3 y4
        go_wp2_with fail
        refine (of13_any 1 _).mono ?_
        rintro e w20 ⟨rfl, hb⟩
        have H20 := Lib.hid hb
        clear hb
        go_wp2_with fail
        refine (of13_any 2 _).mono ?_
        rintro e w21 ⟨rfl, hb⟩
        have V21 := Lib.hid (show Vec w21 (some ⟨w20.heap.size, 0, none⟩) 1 [kD1] from (vec_one (r := 1) (i := 1) (s := 1) (heap_new _ _)).below hb)
        have H21 := Lib.hid (below2 H20.out (((Below.refl _ _).alloc (Nat.le_refl _) _).trans (hb.mono (by simp))) H20.out.size)
        clear hb H20
        go_wp2_with fail
        refine (baseOf_any pg mb w0 0 b L va' vc' vv (some ⟨w20.heap.size, 0, none⟩) 1 [kD1] 2 1 1 _ (GR.out.below H21.out) HD.out V21.out (fun d hd => by simp at hd; subst hd; exact okD_k1) (by simp) okD_k2).mono ?_
        rintro e w22 ⟨fa, fc, v, rfl, hv, hok, hvl, ho, hb⟩
        rw [Hcm.out] at hv
        have ev := bof_fork hv
        subst ev
        have O22 := Lib.hid ho
        have H22 := Lib.hid (below2 H21.out hb H21.out.size)
        clear hv hok hvl ho hb V21 H21
        obtain ⟨g, hg, _, hgl⟩ := OwnD.form O22.out (by simp)
        subst hg
        obtain ⟨c0, c1, c2⟩ := OwnD.at O22.out (k := 0) (d := kD) rfl
        have c0 : w22.cell? ⟨g, 0, none⟩ = some (.int .u8 0) := c0
        have c1 : w22.cell? ⟨g, 1, none⟩ = some (.int .u32 1) := c1
        have c2 : w22.cell? ⟨g, 2, none⟩ = some (.int .u64 1) := c2
        go_wp2_with fail
        refine region_tree (.seg [0, 1, 2, 3, 4, 5, 6, 7] false (.seg [8] true (.seg [9, 10, 11, 12, 13, 16, 14] false (.fork (.seg [15, 17, 18, 19, 20, 21, 22, 23, 24, 26, 25, 27, 28, 29, 30, 31, 32, 33] false .done) (.seg [17, 15, 18, 19, 20, 21, 22, 23, 24, 26, 25, 27, 28, 29, 30, 31, 32, 33] false .done))))) mixed (by kernel_rfl) ?_
        simp only [wpSg, List.map_cons, List.map_nil, List.getD_cons_succ, List.getD_cons_zero]
        go_wp2_with fail
        refine (of13_any 0 _).mono ?_
        rintro e w23 ⟨rfl, hb⟩
        have Hb23 := Lib.hid hb
        have H23 := Lib.hid (below2 H22.out (((Below.refl _ _).drew).trans hb) H22.out.size)
        clear hb c0 c1 c2 hgl
        go_wp2_with fail
        refine And.intro (Agree.of_below Hb23.out) ?_
        go_wp2_with fail
        refine (of13_any 1 _).mono ?_
        rintro e w24 ⟨rfl, hb⟩
        have H24 := Lib.hid (below2 H23.out hb H23.out.size)
        clear hb Hb23
        go_wp2_with fail
        refine And.intro ?_ ?_
        · go_wp2_with fail
          refine (of13_any 3 _).mono ?_
          rintro e w25 ⟨rfl, hb⟩
          have V25 := Lib.hid (show Vec w25 (some ⟨w24.heap.size, 0, none⟩) 1 [kD1] from (vec_one (r := 1) (i := 1) (s := 1) (heap_new _ _)).below hb)
          have H25 := Lib.hid (below2 H24.out (((Below.refl _ _).alloc (Nat.le_refl _) _).trans (hb.mono (by simp))) H24.out.size)
          clear hb
          go_wp2_with fail
          refine (baseOf_any pg mb w0 0 b L va' vc' vv (some ⟨w24.heap.size, 0, none⟩) 1 [kD1] 3 1 1 _ (GR.out.below H25.out) HD.out V25.out (fun d hd => by simp at hd; subst hd; exact okD_k1) (by simp) okD_k3).mono ?_
          rintro e w26 ⟨fa2, fc2, v2, rfl, hv, hok, hvl, ho, hb⟩
          rw [Hcm.out] at hv
          have ev := bof_none hv
          subst ev
          have H26 := Lib.hid (below2 H25.out hb H25.out.size)
          clear hv hok hvl ho hb V25 H25 H24
          go_wp2_with fail
          refine (of13_any 0 _).mono ?_
          rintro e w27 ⟨rfl, hb⟩
          have H27 := Lib.hid (below2 H26.out hb H26.out.size)
          clear hb H26
          go_wp2_with fail
          refine (of13_any 3 _).mono ?_
          rintro e w28 ⟨rfl, hb⟩
          have H28 := Lib.hid (below2 H27.out hb H27.out.size)
          clear hb H27
          have A28 : Hid (Below w28.heap.size w28 (w28.alloc (.cells #[.int .u8 0, .int .u32 1, .int .u64 1, .int .u8 3, .int .u32 1, .int .u64 1] 41))) := Lib.hid ((Below.refl _ _).alloc (Nat.le_refl _) _)
          have V28 : Hid (Vec (w28.alloc (.cells #[.int .u8 0, .int .u32 1, .int .u64 1, .int .u8 3, .int .u32 1, .int .u64 1] 41)) (some ⟨w28.heap.size, 0, none⟩) 2 [kD, kD3]) := Lib.hid (Sl.blk (n := 2) (size := 3) (heap_new _ _) rfl (by decide))
          have H29 := Lib.hid (below2 H28.out A28.out H28.out.size)
          clear A28 H28
          go_wp2_with fail
          refine (within_G pg mb w0 0 b L va' vc' vv (some ⟨w28.heap.size, 0, none⟩) 2 [kD, kD3] _ (GR.out.below H29.out) Htr3.out Hbd.out V28.out (fun d hd => by simp at hd; rcases hd with rfl | rfl; exact okD_k; exact okD_k3) (by simp)).mono ?_
          rintro e w30 ⟨fa3, fc3, v3, rfl, hv, hok, hvl, ho, hb⟩
          have h3 : v3.length = 2 := by
            obtain ⟨B, hB, hv⟩ := hv
            rw [Hcm.out, Hbf.out] at hB
            exact within_two (fun c => by
              rw [hB c]
              constructor
              · rintro ⟨h1, h2⟩
                rcases k4_mem h1 with rfl | rfl | rfl | rfl
                · exact .inl rfl
                · exact absurd h2 (by decide +kernel)
                · exact absurd h2 (by decide +kernel)
                · exact .inr rfl
              · rintro (rfl | rfl)
                · exact ⟨by simp [k4], by decide +kernel⟩
                · exact ⟨by simp [k4], by decide +kernel⟩) hv
          have HE := Lib.hid (below2 GB.out (below2 H29.out hb H29.out.size) GB.out.size)
          clear hv hok hvl ho hb V28 H29
          rw [h3]
          clear h3
          go_wp2_with fail
          refine And.intro (by kernel_rfl) ?_
          go_wp2_with fail
          go_ret
          exact ⟨rfl, HE.out⟩
        · go_wp2_with fail
          refine (of13_any 3 _).mono ?_
          rintro e w25 ⟨rfl, hb⟩
          have A25 : Hid (Below w25.heap.size w25 (w25.alloc (.cells #[.int .u8 1, .int .u32 1, .int .u64 1] 41))) := Lib.hid ((Below.refl _ _).alloc (Nat.le_refl _) _)
          have V25 : Hid (Vec (w25.alloc (.cells #[.int .u8 1, .int .u32 1, .int .u64 1] 41)) (some ⟨w25.heap.size, 0, none⟩) 1 [kD1]) := Lib.hid (vec_one (r := 1) (i := 1) (s := 1) (heap_new _ _))
          have H25 := Lib.hid (below2 H24.out ((hb).trans (A25.out.mono hb.size)) H24.out.size)
          clear hb A25
          go_wp2_with fail
          refine (baseOf_any pg mb w0 0 b L va' vc' vv (some ⟨w25.heap.size, 0, none⟩) 1 [kD1] 3 1 1 _ (GR.out.below H25.out) HD.out V25.out (fun d hd => by simp at hd; subst hd; exact okD_k1) (by simp) okD_k3).mono ?_
          rintro e w26 ⟨fa2, fc2, v2, rfl, hv, hok, hvl, ho, hb⟩
          rw [Hcm.out] at hv
          have ev := bof_none hv
          subst ev
          have H26 := Lib.hid (below2 H25.out hb H25.out.size)
          clear hv hok hvl ho hb V25 H25 H24
          go_wp2_with fail
          refine (of13_any 0 _).mono ?_
          rintro e w27 ⟨rfl, hb⟩
          have H27 := Lib.hid (below2 H26.out hb H26.out.size)
          clear hb H26
          go_wp2_with fail
          refine (of13_any 3 _).mono ?_
          rintro e w28 ⟨rfl, hb⟩
          have H28 := Lib.hid (below2 H27.out hb H27.out.size)
          clear hb H27
          have A28 : Hid (Below w28.heap.size w28 (w28.alloc (.cells #[.int .u8 0, .int .u32 1, .int .u64 1, .int .u8 3, .int .u32 1, .int .u64 1] 41))) := Lib.hid ((Below.refl _ _).alloc (Nat.le_refl _) _)
          have V28 : Hid (Vec (w28.alloc (.cells #[.int .u8 0, .int .u32 1, .int .u64 1, .int .u8 3, .int .u32 1, .int .u64 1] 41)) (some ⟨w28.heap.size, 0, none⟩) 2 [kD, kD3]) := Lib.hid (Sl.blk (n := 2) (size := 3) (heap_new _ _) rfl (by decide))
          have H29 := Lib.hid (below2 H28.out A28.out H28.out.size)
          clear A28 H28
          go_wp2_with fail
          refine (within_G pg mb w0 0 b L va' vc' vv (some ⟨w28.heap.size, 0, none⟩) 2 [kD, kD3] _ (GR.out.below H29.out) Htr3.out Hbd.out V28.out (fun d hd => by simp at hd; rcases hd with rfl | rfl; exact okD_k; exact okD_k3) (by simp)).mono ?_
          rintro e w30 ⟨fa3, fc3, v3, rfl, hv, hok, hvl, ho, hb⟩
          have h3 : v3.length = 2 := by
            obtain ⟨B, hB, hv⟩ := hv
            rw [Hcm.out, Hbf.out] at hB
            exact within_two (fun c => by
              rw [hB c]
              constructor
              · rintro ⟨h1, h2⟩
                rcases k4_mem h1 with rfl | rfl | rfl | rfl
                · exact .inl rfl
                · exact absurd h2 (by decide +kernel)
                · exact absurd h2 (by decide +kernel)
                · exact .inr rfl
              · rintro (rfl | rfl)
                · exact ⟨by simp [k4], by decide +kernel⟩
                · exact ⟨by simp [k4], by decide +kernel⟩) hv
          have HE := Lib.hid (below2 GB.out (below2 H29.out hb H29.out.size) GB.out.size)
          clear hv hok hvl ho hb V28 H29
          rw [h3]
          clear h3
          go_wp2_with fail
          refine And.intro (by kernel_rfl) ?_
          go_wp2_with fail
          go_ret
          exact ⟨rfl, HE.out⟩
end Go.Proofs.YthdmoplclllhjaaGreat
