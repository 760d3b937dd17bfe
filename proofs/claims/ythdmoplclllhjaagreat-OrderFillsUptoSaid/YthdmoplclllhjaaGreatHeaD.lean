/- container/heap over a queue of commits: calls through the interface. | Heaps of commits, plainly. No program in sight. | order.Ahead; the queue's Len, Less, Swap: the contracts. | container/heap's down over the queue: the contract. | The queue's Pop; container/heap's Init and Pop over the queue: the contracts. -/
import Derived.Test.YthdmoplclllhjaaGreatGraV
import Derived.Test.YthdmoplclllhjaaGreatRgA
import Derived.Test.YthdmoplclllhjaaGreatGraQ
import Derived.ChangeKeysEq
import Derived.Test.YthdmoplclllhjaaGreatFuseA
import Derived.Test.YthdmoplclllhjaaGreatWidB
import Derived.Test.YthdmoplclllhjaaGreatWitA
/- HeaA -/
namespace Go.Proofs.YthdmoplclllhjaaGreat
open Go.RowKit
set_option linter.unusedVariables false
set_option linter.unusedSimpArgs false

theorem load_q (qp : Nat) (v : Value) (w : World) (h : w.cell? ⟨qp, 0, none⟩ = some v) : (loadVar 140 ⟨qp, 0, none⟩).run Tryz.prog w = .ok v w := by
  simp [loadVar, go_sem, h]
theorem Tryz.queue_ptr : Tryz.prog.underlying 142 = some (.pointer 140) := by kernel_rfl
theorem wrapchk (ts : Array TypeId) (t : TypeId) (a : Addr) (s1 s2 : String) (P : Program) (w : World) : (Builtin.ssaWrapNilChk_ ts t #[.pointer (some a), strVal s1, strVal s2]).run P w = .ok (.pointer (some a)) w := rfl
/-- a method of the queue's, through its pointer -/
theorem meth_q (name : String) (f : FuncId) (hm : ((Tryz.prog.info? 142).bind fun i => (i.methods.find? (·.name == name)).map fun m => (m.path.toList, m.func)) = some ([], some (f, false)))
    (qp : Nat) (v : Value) (w : World) (h : w.cell? ⟨qp, 0, none⟩ = some v) : (Go.method (Tryz.prog.types.size + Made.depth) 142 (.pointer (some ⟨qp, 0, none⟩)) name).run Tryz.prog w = .ok (f, v) w := by
  have h1 : 1 ≤ Made.depth := by decide
  obtain ⟨k, hk⟩ : ∃ k, Tryz.prog.types.size + Made.depth = k + 1 := ⟨Tryz.prog.types.size + Made.depth - 1, by omega⟩
  rw [hk]
  cases hi : Tryz.prog.info? 142 with
  | none => rw [hi] at hm; cases hm
  | some ti =>
    rw [hi] at hm
    simp only [Option.bind_some] at hm
    cases hfd : ti.methods.find? (·.name == name) with
    | none => rw [hfd] at hm; cases hm
    | some mr =>
      rw [hfd] at hm
      simp only [Option.map_some, Option.some.injEq, Prod.mk.injEq] at hm
      obtain ⟨hpa, hfu⟩ := hm
      unfold Go.method
      have hti : (typeInfo 142).run Tryz.prog w = .ok ti w := run_typeInfo w hi
      simp only [Sem.run_bind, hti, Result.andThen_ok, hfd, hpa, hfu, follow]
      simp only [receiverAt, Sem.run_bind, run_underlying Tryz.queue_ptr, Place.get, Result.andThen_ok]
      cases mr.path.isEmpty <;> simp [go_sem, wrapchk, asAddr, h]
end Go.Proofs.YthdmoplclllhjaaGreat

/- HeaP -/
namespace Go.Proofs.YthdmoplclllhjaaGreat
open Go.RowKit
set_option linter.unusedVariables false
set_option linter.unusedSimpArgs false

/-- not behind -/
def leC (x y : Cm) : Prop := ltCb y x = false
theorem ltCb_or (a b : Cm) : ltCb a b = true ↔ a.t < b.t ∨ a.t = b.t ∧ lessD a.d b.d = true := by
  unfold ltCb
  simp
theorem ltCb_trans {a b c : Cm} (h : ltCb a b = true) (k : ltCb b c = true) : ltCb a c = true := by
  rw [ltCb_or] at *
  rcases h with h | ⟨h, h'⟩ <;> rcases k with k | ⟨k, k'⟩
  · left; omega
  · left; omega
  · left; omega
  · exact .inr ⟨by omega, lessD_trans h' k'⟩
theorem ltCb_irrefl (a : Cm) : ltCb a a = false := by
  rw [← Bool.not_eq_true, ltCb_or]
  rintro (h | ⟨_, h⟩)
  · omega
  · rw [lessD_irrefl] at h; cases h
theorem leC_of_lt {a b : Cm} (h : ltCb a b = true) : leC a b := by
  unfold leC
  rw [← Bool.not_eq_true]
  intro h2
  have h3 := ltCb_trans h h2
  rw [ltCb_irrefl] at h3; cases h3
theorem leC_refl (a : Cm) : leC a a := ltCb_irrefl a
theorem leC_trans {a b c : Cm} (h : leC a b) (k : leC b c) : leC a c := by
  unfold leC at *
  rw [← Bool.not_eq_true] at *
  intro h2
  rw [ltCb_or] at h k h2
  simp only [not_or, not_and] at h k
  rcases h2 with h2 | ⟨h2, h3⟩
  · omega
  · have e1 : b.t = a.t := by omega
    have e2 : c.t = b.t := by omega
    have k1 := h.2 e1
    have k2 := k.2 e2
    rw [Bool.not_eq_true, ← Bool.not_eq_true, lessD_iff] at k1 k2
    rw [lessD_iff] at h3
    omega
/-- children are not ahead of their parents, from lo on, among the first n -/
def HeapB (l : List Cm) (lo n : Nat) : Prop := ∀ p k x y, lo ≤ p → (k = 2 * p + 1 ∨ k = 2 * p + 2) → k < n → l[p]? = some x → l[k]? = some y → leC x y
/-- so but for the children of i -/
structure DownP (l : List Cm) (lo n i : Nat) : Prop where
  h1 : ∀ p k x y, lo ≤ p → p ≠ i → (k = 2 * p + 1 ∨ k = 2 * p + 2) → k < n → l[p]? = some x → l[k]? = some y → leC x y
  h2 : ∀ p k x y, lo ≤ p → (i = 2 * p + 1 ∨ i = 2 * p + 2) → (k = 2 * i + 1 ∨ k = 2 * i + 2) → k < n → l[p]? = some x → l[k]? = some y → leC x y
  lo : lo ≤ i
theorem DownP.start {l : List Cm} {lo n : Nat} (h : HeapB l (lo + 1) n) : DownP l lo n lo :=
  ⟨fun p k x y h1 h2 => h p k x y (by omega), fun p k x y h1 h2 => by omega, Nat.le_refl _⟩
theorem DownP.leaf {l : List Cm} {lo n i : Nat} (h : DownP l lo n i) (hn : n ≤ 2 * i + 1) : HeapB l lo n := fun p k x y h1 h2 h3 hx hy => by
  by_cases e : p = i
  · subst e; omega
  · exact h.h1 p k x y h1 e h2 h3 hx hy
/-- j is the lesser child of i -/
structure MinJ (l : List Cm) (n i j : Nat) : Prop where
  kid : j = 2 * i + 1 ∨ j = 2 * i + 2
  lt : j < n
  le : ∀ k x y, (k = 2 * i + 1 ∨ k = 2 * i + 2) → k < n → l[j]? = some x → l[k]? = some y → leC x y
theorem DownP.stop {l : List Cm} {lo n i j : Nat} {x y : Cm} (h : DownP l lo n i) (hj : MinJ l n i j) (hx : l[i]? = some x) (hy : l[j]? = some y) (hle : ltCb y x = false) : HeapB l lo n := fun p k u v h1 h2 h3 hu hv => by
  by_cases e : p = i
  · subst e
    rw [hx] at hu
    cases hu
    exact leC_trans hle (hj.le k y v h2 h3 hy hv)
  · exact h.h1 p k u v h1 e h2 h3 hu hv
def swapL {α : Type} (l : List α) (i j : Nat) (x y : α) : List α := (l.set i y).set j x
theorem swap_at {α : Type} {l : List α} {i j : Nat} {x y : α} (hx : l[i]? = some x) (hy : l[j]? = some y) (k : Nat) : (swapL l i j x y)[k]? = if k = j then some x else if k = i then some y else l[k]? := by
  have h1 := (List.getElem?_eq_some_iff.1 hx).1
  have h2 := (List.getElem?_eq_some_iff.1 hy).1
  unfold swapL
  by_cases e : k = j
  · subst e
    rw [if_pos rfl, List.getElem?_set_self (by simpa using h2)]
  · rw [if_neg e, List.getElem?_set_ne (fun e2 => e e2.symm)]
    by_cases e2 : k = i
    · subst e2
      rw [if_pos rfl, List.getElem?_set_self h1]
    · rw [if_neg e2, List.getElem?_set_ne (fun e3 => e2 e3.symm)]
theorem DownP.swap {l : List Cm} {lo n i j : Nat} {x y : Cm} (h : DownP l lo n i) (hj : MinJ l n i j) (hx : l[i]? = some x) (hy : l[j]? = some y) (hlt : ltCb y x = true) : DownP (swapL l i j x y) lo n j := by
  have hkid := hj.kid
  have hlo := h.lo
  refine ⟨fun p k u v h1 h2 h3 h4 hu hv => ?_, fun p k u v h1 h2 h3 h4 hu hv => ?_, by omega⟩
  · rw [swap_at hx hy] at hu hv
    rw [if_neg h2] at hu
    by_cases ep : p = i
    · subst ep
      rw [if_pos rfl] at hu
      cases hu
      by_cases ek : k = j
      · subst ek
        rw [if_pos rfl] at hv
        cases hv
        exact leC_of_lt hlt
      · rw [if_neg ek, if_neg (by omega)] at hv
        exact hj.le k y v h3 h4 hy hv
    · rw [if_neg ep] at hu
      have ek : k ≠ j := by omega
      rw [if_neg ek] at hv
      by_cases ei : k = i
      · subst ei
        rw [if_pos rfl] at hv
        cases hv
        exact h.h2 p j u y h1 h3 hkid hj.lt hu hy
      · rw [if_neg ei] at hv
        exact h.h1 p k u v h1 ep h3 h4 hu hv
  · have ep : p = i := by omega
    subst ep
    rw [swap_at hx hy] at hu hv
    rw [if_neg (by omega), if_pos rfl] at hu
    cases hu
    rw [if_neg (by omega), if_neg (by omega)] at hv
    exact h.h1 j k y v (by omega) (by omega) h3 h4 hy hv
theorem swap_perm {α : Type} {l : List α} {i j : Nat} {x y : α} (hx : l[i]? = some x) (hy : l[j]? = some y) : (swapL l i j x y).Perm l := by
  obtain ⟨h1, rfl⟩ := List.getElem?_eq_some_iff.1 hx
  obtain ⟨h2, rfl⟩ := List.getElem?_eq_some_iff.1 hy
  have h3 := Array.swap_perm (xs := l.toArray) (i := i) (j := j) (by simpa using h1) (by simpa using h2)
  have h4 := h3.toList
  have e : (l.toArray.swap i j (by simpa using h1) (by simpa using h2)).toList = swapL l i j l[i] l[j] := by
    unfold swapL
    simp [Array.swap]
  rw [e] at h4
  exact h4
/-- the first one is not behind another one -/
theorem HeapB.top {l : List Cm} {n : Nat} (h : HeapB l 0 n) {x : Cm} (hx : l[0]? = some x) : ∀ (b k : Nat) (y : Cm), k ≤ b → k < n → l[k]? = some y → leC x y := by
  intro b
  induction b with
  | zero =>
    intro k y hk _ hy
    have : k = 0 := by omega
    subst this
    rw [hx] at hy; cases hy
    exact leC_refl _
  | succ b ih =>
    intro k y hk hn hy
    by_cases e : k = 0
    · subst e
      rw [hx] at hy; cases hy
      exact leC_refl _
    · obtain ⟨p, hp⟩ : ∃ p, k = 2 * p + 1 ∨ k = 2 * p + 2 := ⟨(k - 1) / 2, by omega⟩
      have hkl := (List.getElem?_eq_some_iff.1 hy).1
      have e2 : l[p]? = some (l[p]'(by omega)) := List.getElem?_eq_getElem (by omega)
      exact leC_trans (ih p _ (by omega) (by omega) e2) (h p k _ y (Nat.zero_le _) hp hn e2 hy)
end Go.Proofs.YthdmoplclllhjaaGreat

/- HeaB -/
namespace Go.Proofs.YthdmoplclllhjaaGreat
open Go.RowKit
set_option linter.unusedVariables false
set_option linter.unusedSimpArgs false

theorem cmpDD_lt (a b : Dt) : decide (cmpDD a b < 0) = lessD a b := ltD_of a b
set_option maxRecDepth 100000 in
set_option maxHeartbeats 8000000 in
theorem ahead15_any (u v : Cw) (w : World) :
    Calls Tryz.prog 53 #[.agg (cwcells u), .agg (cwcells v)] w fun e w' => e = .returned (.bool (ltCb u.c v.c)) ∧ Below w.heap.size w w' := by
  obtain ⟨⟨⟨⟨r, i⟩, s⟩, ps, uu, t, ⟨k, n, x, p, ds⟩⟩, qa, qc, ua, uc, pa, pc, da, dc⟩ := u
  obtain ⟨⟨⟨⟨r', i'⟩, s'⟩, ps', uu', t', ⟨k', n', x', p', ds'⟩⟩, qa', qc', ua', uc', pa', pc', da', dc'⟩ := v
  have E : Hid (Below w.heap.size w ((w.alloc (.cells (ccells r i s qa ps.length qc ua uu.length uc t k pa p.length pc n x da ds.length dc) 46)).alloc (.cells (ccells r' i' s' qa' ps'.length qc' ua' uu'.length uc' t' k' pa' p'.length pc' n' x' da' ds'.length dc') 46)) ∧ ((w.alloc (.cells (ccells r i s qa ps.length qc ua uu.length uc t k pa p.length pc n x da ds.length dc) 46)).alloc (.cells (ccells r' i' s' qa' ps'.length qc' ua' uu'.length uc' t' k' pa' p'.length pc' n' x' da' ds'.length dc') 46)).heap[w.heap.size]? = some (.cells (ccells r i s qa ps.length qc ua uu.length uc t k pa p.length pc n x da ds.length dc) 46 (0, 0)) ∧ ((w.alloc (.cells (ccells r i s qa ps.length qc ua uu.length uc t k pa p.length pc n x da ds.length dc) 46)).alloc (.cells (ccells r' i' s' qa' ps'.length qc' ua' uu'.length uc' t' k' pa' p'.length pc' n' x' da' ds'.length dc') 46)).heap[w.heap.size + 1]? = some (.cells (ccells r' i' s' qa' ps'.length qc' ua' uu'.length uc' t' k' pa' p'.length pc' n' x' da' ds'.length dc') 46 (0, 0))) :=
    Lib.hid ⟨((Below.refl _ _).alloc (Nat.le_refl _) _).alloc (by simp) _, (heap_old _ _ (by simp)).trans (heap_new _ _), heap_new2 _ _ _⟩
  have d0 := cells_at E.out.2.1
  have d1 := cells_at E.out.2.2
  have z0 := heap_lt E.out.2.1
  have z1 := heap_lt E.out.2.2
  simp only [ccells] at d0 d1
  simp only [cwcells]
  go_enter Tryz.func53, Tryz.ntmps53
  by_cases ht : t = t'
  · have x1 : (t != t') = false := by rw [bne_eq_false_iff_eq]; exact ht
    have Ht := Lib.hid ht
    clear ht
    go_wp2_with fail
    refine (compareD_any r i s r' i' s' _).mono ?_
    rintro e w1 ⟨rfl, hg⟩
    have HB := Lib.hid (below2 E.out.1 hg.below E.out.1.size)
    have hl := cmpDD_lt ((r, i), s) ((r', i'), s')
    have Hr := Lib.hid (show ltCb ⟨((r, i), s), ps, uu, t, ⟨k, n, x, p, ds⟩⟩ ⟨((r', i'), s'), ps', uu', t', ⟨k', n', x', p', ds'⟩⟩ = lessD ((r, i), s) ((r', i'), s') by
      unfold ltCb
      rw [decide_eq_false (show ¬ t < t' by have := Ht.out; omega), decide_eq_true (show t = t' from Ht.out)]; simp)
    clear hg
    go_wp2_with fail
    go_ret
    exact ⟨by rw [Hr.out]; rfl, HB.out⟩
  · have x1 : (t != t') = true := by rw [bne_iff_ne]; exact ht
    have Hr := Lib.hid (show ltCb ⟨((r, i), s), ps, uu, t, ⟨k, n, x, p, ds⟩⟩ ⟨((r', i'), s'), ps', uu', t', ⟨k', n', x', p', ds'⟩⟩ = decide (t < t') by
      unfold ltCb
      rw [decide_eq_false (show ¬ t = t' from ht)]; simp)
    go_wp2_with fail
    go_ret
    exact ⟨by rw [Hr.out]; rfl, E.out.1⟩
theorem lenQ_any (a : Option Addr) (c : Nat) (n : Nat) (w : World) : Calls Tryz.prog 117 #[.slice a n c] w fun e w' => e = .returned (.int .i64 (n : Int)) ∧ w' = w := by
  go_enter Tryz.func117, Tryz.ntmps117
  go_wp2_with fail
  go_ret
  exact ⟨rfl, rfl⟩
set_option maxRecDepth 100000 in
set_option maxHeartbeats 16000000 in
theorem swapQ_any (g c base : Nat) (l : List Cw) (i j : Nat) (x y : Cw) (w : World) (h : OwnC w base (some ⟨g, 0, none⟩) c l) (hx : l[i]? = some x) (hy : l[j]? = some y) (hl : l.length ≤ 1000) :
    Calls Tryz.prog 280 #[.slice (some ⟨g, 0, none⟩) l.length c, .int .i64 (i : Int), .int .i64 (j : Int)] w fun e w' => e = .returned (.tuple #[]) ∧ OwnC w' base (some ⟨g, 0, none⟩) c (swapL l i j x y) ∧ Chg [g] w w' := by
  have hi := (List.getElem?_eq_some_iff.1 hx).1
  have hj := (List.getElem?_eq_some_iff.1 hy).1
  have O1 := Lib.hid (OwnC.put (q := i) y h hi)
  have O2 := Lib.hid (OwnC.put (q := j) x O1.out.1 (by rw [List.length_set]; exact hj))
  have HO := Lib.hid (show OwnC _ base (some ⟨g, 0, none⟩) c (swapL l i j x y) from OwnC.below O2.out.1 ((Below.refl _ _).drew))
  have HC := Lib.hid (chg_drew (O1.out.2.trans O2.out.2 (fun _ h _ => h)))
  have hf := OwnC.free h
  obtain ⟨⟨⟨⟨r, i1⟩, s⟩, ps, uu, t, ⟨k, n, x1, p, ds⟩⟩, qa, qc, ua, uc, pa, pc, da, dc⟩ := x
  by_cases hij : i = j
  · subst hij
    rw [hx] at hy
    cases hy
    have c0 : w.cell? ⟨g, i * 11, none⟩ = some (.int .u8 r) := by have h9 := OwnC.range h hx 0 _ rfl; simpa using h9
    have c1 : w.cell? ⟨g, i * 11 + 1, none⟩ = some (.int .u32 i1) := OwnC.range h hx 1 _ rfl
    have c2 : w.cell? ⟨g, i * 11 + 2, none⟩ = some (.int .u64 s) := OwnC.range h hx 2 _ rfl
    have c3 : w.cell? ⟨g, i * 11 + 3, none⟩ = some (.slice qa ps.length qc) := OwnC.range h hx 3 _ rfl
    have c4 : w.cell? ⟨g, i * 11 + 4, none⟩ = some (.slice ua uu.length uc) := OwnC.range h hx 4 _ rfl
    have c5 : w.cell? ⟨g, i * 11 + 5, none⟩ = some (.int .u64 t) := OwnC.range h hx 5 _ rfl
    have c6 : w.cell? ⟨g, i * 11 + 6, none⟩ = some (.int .u8 k) := OwnC.range h hx 6 _ rfl
    have c7 : w.cell? ⟨g, i * 11 + 7, none⟩ = some (.slice pa p.length pc) := OwnC.range h hx 7 _ rfl
    have c8 : w.cell? ⟨g, i * 11 + 8, none⟩ = some (.int .i64 n) := OwnC.range h hx 8 _ rfl
    have c9 : w.cell? ⟨g, i * 11 + 9, none⟩ = some (.string x1) := OwnC.range h hx 9 _ rfl
    have c10 : w.cell? ⟨g, i * 11 + 10, none⟩ = some (.slice da ds.length dc) := OwnC.range h hx 10 _ rfl
    clear h hx O1 O2
    go_enter Tryz.func280, Tryz.ntmps280
    go_wp2_with fail
    refine region_text [([0, 1, 2, 3, 4, 5, 6, 7, 8, 9, 10, 11, 12, 13, 14, 15], false)] mixed (by kernel_rfl) ?_
    simp only [wpSegs, List.map_cons, List.map_nil, List.getD_cons_succ, List.getD_cons_zero]
    go_wp2_with fail
    refine And.intro (by kernel_rfl) ?_
    go_wp2_with fail
    go_end0
    exact ⟨rfl, HO.out, HC.out⟩
  · obtain ⟨⟨⟨⟨r', i1'⟩, s'⟩, ps', uu', t', ⟨k', n', x1', p', ds'⟩⟩, qa', qc', ua', uc', pa', pc', da', dc'⟩ := y
    have c0 : w.cell? ⟨g, i * 11, none⟩ = some (.int .u8 r) := by have h9 := OwnC.range h hx 0 _ rfl; simpa using h9
    have c1 : w.cell? ⟨g, i * 11 + 1, none⟩ = some (.int .u32 i1) := OwnC.range h hx 1 _ rfl
    have c2 : w.cell? ⟨g, i * 11 + 2, none⟩ = some (.int .u64 s) := OwnC.range h hx 2 _ rfl
    have c3 : w.cell? ⟨g, i * 11 + 3, none⟩ = some (.slice qa ps.length qc) := OwnC.range h hx 3 _ rfl
    have c4 : w.cell? ⟨g, i * 11 + 4, none⟩ = some (.slice ua uu.length uc) := OwnC.range h hx 4 _ rfl
    have c5 : w.cell? ⟨g, i * 11 + 5, none⟩ = some (.int .u64 t) := OwnC.range h hx 5 _ rfl
    have c6 : w.cell? ⟨g, i * 11 + 6, none⟩ = some (.int .u8 k) := OwnC.range h hx 6 _ rfl
    have c7 : w.cell? ⟨g, i * 11 + 7, none⟩ = some (.slice pa p.length pc) := OwnC.range h hx 7 _ rfl
    have c8 : w.cell? ⟨g, i * 11 + 8, none⟩ = some (.int .i64 n) := OwnC.range h hx 8 _ rfl
    have c9 : w.cell? ⟨g, i * 11 + 9, none⟩ = some (.string x1) := OwnC.range h hx 9 _ rfl
    have c10 : w.cell? ⟨g, i * 11 + 10, none⟩ = some (.slice da ds.length dc) := OwnC.range h hx 10 _ rfl
    have e0 : w.cell? ⟨g, j * 11, none⟩ = some (.int .u8 r') := by have h9 := OwnC.range h hy 0 _ rfl; simpa using h9
    have e1 : w.cell? ⟨g, j * 11 + 1, none⟩ = some (.int .u32 i1') := OwnC.range h hy 1 _ rfl
    have e2 : w.cell? ⟨g, j * 11 + 2, none⟩ = some (.int .u64 s') := OwnC.range h hy 2 _ rfl
    have e3 : w.cell? ⟨g, j * 11 + 3, none⟩ = some (.slice qa' ps'.length qc') := OwnC.range h hy 3 _ rfl
    have e4 : w.cell? ⟨g, j * 11 + 4, none⟩ = some (.slice ua' uu'.length uc') := OwnC.range h hy 4 _ rfl
    have e5 : w.cell? ⟨g, j * 11 + 5, none⟩ = some (.int .u64 t') := OwnC.range h hy 5 _ rfl
    have e6 : w.cell? ⟨g, j * 11 + 6, none⟩ = some (.int .u8 k') := OwnC.range h hy 6 _ rfl
    have e7 : w.cell? ⟨g, j * 11 + 7, none⟩ = some (.slice pa' p'.length pc') := OwnC.range h hy 7 _ rfl
    have e8 : w.cell? ⟨g, j * 11 + 8, none⟩ = some (.int .i64 n') := OwnC.range h hy 8 _ rfl
    have e9 : w.cell? ⟨g, j * 11 + 9, none⟩ = some (.string x1') := OwnC.range h hy 9 _ rfl
    have e10 : w.cell? ⟨g, j * 11 + 10, none⟩ = some (.slice da' ds'.length dc') := OwnC.range h hy 10 _ rfl
    have n0 : ¬ i = j := by omega
    have n1 : ¬ i * 11 = j * 11 := by omega
    have n2 : ¬ i * 11 = j * 11 + 1 := by omega
    have n3 : ¬ i * 11 + 1 = j * 11 := by omega
    have n4 : ¬ i * 11 = j * 11 + 2 := by omega
    have n5 : ¬ i * 11 + 2 = j * 11 := by omega
    have n6 : ¬ i * 11 = j * 11 + 3 := by omega
    have n7 : ¬ i * 11 + 3 = j * 11 := by omega
    have n8 : ¬ i * 11 = j * 11 + 4 := by omega
    have n9 : ¬ i * 11 + 4 = j * 11 := by omega
    have n10 : ¬ i * 11 = j * 11 + 5 := by omega
    have n11 : ¬ i * 11 + 5 = j * 11 := by omega
    have n12 : ¬ i * 11 = j * 11 + 6 := by omega
    have n13 : ¬ i * 11 + 6 = j * 11 := by omega
    have n14 : ¬ i * 11 = j * 11 + 7 := by omega
    have n15 : ¬ i * 11 + 7 = j * 11 := by omega
    have n16 : ¬ i * 11 = j * 11 + 8 := by omega
    have n17 : ¬ i * 11 + 8 = j * 11 := by omega
    have n18 : ¬ i * 11 = j * 11 + 9 := by omega
    have n19 : ¬ i * 11 + 9 = j * 11 := by omega
    have n20 : ¬ i * 11 = j * 11 + 10 := by omega
    have n21 : ¬ i * 11 + 10 = j * 11 := by omega
    have n22 : ¬ j = i := by omega
    have n23 : ¬ j * 11 = i * 11 := by omega
    have n24 : ¬ j * 11 = i * 11 + 1 := by omega
    have n25 : ¬ j * 11 + 1 = i * 11 := by omega
    have n26 : ¬ j * 11 = i * 11 + 2 := by omega
    have n27 : ¬ j * 11 + 2 = i * 11 := by omega
    have n28 : ¬ j * 11 = i * 11 + 3 := by omega
    have n29 : ¬ j * 11 + 3 = i * 11 := by omega
    have n30 : ¬ j * 11 = i * 11 + 4 := by omega
    have n31 : ¬ j * 11 + 4 = i * 11 := by omega
    have n32 : ¬ j * 11 = i * 11 + 5 := by omega
    have n33 : ¬ j * 11 + 5 = i * 11 := by omega
    have n34 : ¬ j * 11 = i * 11 + 6 := by omega
    have n35 : ¬ j * 11 + 6 = i * 11 := by omega
    have n36 : ¬ j * 11 = i * 11 + 7 := by omega
    have n37 : ¬ j * 11 + 7 = i * 11 := by omega
    have n38 : ¬ j * 11 = i * 11 + 8 := by omega
    have n39 : ¬ j * 11 + 8 = i * 11 := by omega
    have n40 : ¬ j * 11 = i * 11 + 9 := by omega
    have n41 : ¬ j * 11 + 9 = i * 11 := by omega
    have n42 : ¬ j * 11 = i * 11 + 10 := by omega
    have n43 : ¬ j * 11 + 10 = i * 11 := by omega
    clear h hx hy O1 O2 hij
    go_enter Tryz.func280, Tryz.ntmps280
    go_wp2_with fail
    refine region_text [([0, 1, 2, 3, 4, 5, 6, 7, 8, 9, 10, 11, 12, 13, 14, 15], false)] mixed (by kernel_rfl) ?_
    simp only [wpSegs, List.map_cons, List.map_nil, List.getD_cons_succ, List.getD_cons_zero]
    go_wp2_with fail
    refine And.intro (by kernel_rfl) ?_
    go_wp2_with fail
    go_end0
    exact ⟨rfl, HO.out, HC.out⟩
end Go.Proofs.YthdmoplclllhjaaGreat

/- HeaC -/
namespace Go.Proofs.YthdmoplclllhjaaGreat
open Go.RowKit
set_option linter.unusedVariables false
set_option linter.unusedSimpArgs false

theorem sl_at {w : World} {a : Option Addr} {c : Nat} {l : List Cw} (h : Sl w 11 a l.length c (ccs l)) {i : Nat} {v : Cw} (hv : l[i]? = some v) : ∃ ad, a = some ad ∧ CwC w (ad.add (i * 11)) v ∧ ad.block < w.heap.size := by
  have hi := (List.getElem?_eq_some_iff.1 hv).1
  rcases h.2.2.2 with ⟨_, h5, _⟩ | ⟨ad, rfl, hc⟩
  · omega
  · have g : ∀ j, j < 11 → w.cell? (ad.add (i * 11 + j)) = (ccel v)[j]? := fun j hj => by
      have e := ccs_at hv j hj
      have e2 : (ccel v)[j]? = some ((ccel v)[j]'(by rw [ccel_len]; exact hj)) := by simp
      rw [e2]
      exact hc _ _ (by rw [e, e2])
    have g0 := g 0 (by omega)
    have g1 := g 1 (by omega)
    have g2 := g 2 (by omega)
    have g3 := g 3 (by omega)
    have g4 := g 4 (by omega)
    have g5 := g 5 (by omega)
    have g6 := g 6 (by omega)
    have g7 := g 7 (by omega)
    have g8 := g 8 (by omega)
    have g9 := g 9 (by omega)
    have g10 := g 10 (by omega)
    rw [Nat.add_zero] at g0
    rw [← Go.Deep.add_add] at g1 g2 g3 g4 g5 g6 g7 g8 g9 g10
    refine ⟨ad, rfl, ⟨g0, g1, g2, g3, g4, g5, g6, g7, g8, g9, g10⟩, ?_⟩
    have := World.block_lt_of_cell? w _ g0
    rwa [add_block] at this
set_option maxRecDepth 100000 in
set_option maxHeartbeats 8000000 in
theorem lessO_any (a : Option Addr) (c : Nat) (l : List Cw) (i j : Nat) (x y : Cw) (w : World) (h : Sl w 11 a l.length c (ccs l)) (hx : l[i]? = some x) (hy : l[j]? = some y) (hl : l.length ≤ 1000) :
    Calls Tryz.prog 279 #[.slice a l.length c, .int .i64 (i : Int), .int .i64 (j : Int)] w fun e w' => e = .returned (.bool (ltCb x.c y.c)) ∧ Below w.heap.size w w' := by
  have hi := (List.getElem?_eq_some_iff.1 hx).1
  have hj := (List.getElem?_eq_some_iff.1 hy).1
  obtain ⟨ad, had, ⟨c0, c1, c2, c3, c4, c5, c6, c7, c8, c9, c10⟩, hlb⟩ := sl_at h hx
  obtain ⟨ae, hae, ⟨e0, e1, e2, e3, e4, e5, e6, e7, e8, e9, e10⟩, hlb2⟩ := sl_at h hy
  subst had
  obtain rfl : ad = ae := Option.some.inj hae
  have B0 : Hid (Below w.heap.size w w.drew) := Lib.hid ((Below.refl _ _).drew)
  clear h hx hy hae
  obtain ⟨⟨⟨⟨r, i1⟩, s⟩, ps, uu, t, ⟨k, n, x1, p, ds⟩⟩, qa, qc, ua, uc, pa, pc, da, dc⟩ := x
  obtain ⟨⟨⟨⟨r', i'⟩, s'⟩, ps', uu', t', ⟨k', n', x', p', ds'⟩⟩, qa', qc', ua', uc', pa', pc', da', dc'⟩ := y
  dsimp only at c0 c1 c2 c3 c4 c5 c6 c7 c8 c9 c10 e0 e1 e2 e3 e4 e5 e6 e7 e8 e9 e10
  go_enter Tryz.func279, Tryz.ntmps279
  go_wp2_with fail
  refine region_text [([0, 1, 2, 3, 4, 5, 6, 7, 8, 9], false)] mixed (by kernel_rfl) ?_
  simp only [wpSegs, List.map_cons, List.map_nil, List.getD_cons_succ, List.getD_cons_zero]
  go_wp2_with fail
  refine (ahead15_any ⟨⟨((r, i1), s), ps, uu, t, ⟨k, n, x1, p, ds⟩⟩, qa, qc, ua, uc, pa, pc, da, dc⟩ ⟨⟨((r', i'), s'), ps', uu', t', ⟨k', n', x', p', ds'⟩⟩, qa', qc', ua', uc', pa', pc', da', dc'⟩ _).mono ?_
  rintro e w1 ⟨rfl, hb⟩
  have HB := Lib.hid (below2 B0.out hb B0.out.size)
  clear hb
  go_wp2_with fail
  refine And.intro (by kernel_rfl) ?_
  go_wp2_with fail
  go_ret
  exact ⟨rfl, HB.out⟩
theorem meth_388 (name : String) (f : FuncId) (hm : ((Tryz.prog.info? 142).bind fun i => (i.methods.find? (·.name == name)).map fun m => (m.path.toList, m.func)) = some ([], some (f, false)))
    (qp : Nat) (v : Value) (w : World) (h : w.cell? ⟨qp, 0, none⟩ = some v) : (Go.method 388 142 (.pointer (some ⟨qp, 0, none⟩)) name).run Tryz.prog w = .ok (f, v) w := by
  have e : Tryz.prog.types.size + Made.depth = 388 := by kernel_rfl
  have h1 := meth_q name f hm qp v w h
  rw [e] at h1
  exact h1
theorem m_len (qp : Nat) (v : Value) (w : World) (h : w.cell? ⟨qp, 0, none⟩ = some v) : (Go.method 388 142 (.pointer (some ⟨qp, 0, none⟩)) "Len").run Tryz.prog w = .ok (117, v) w := meth_388 "Len" _ (by kernel_rfl) qp v w h
theorem m_less (qp : Nat) (v : Value) (w : World) (h : w.cell? ⟨qp, 0, none⟩ = some v) : (Go.method 388 142 (.pointer (some ⟨qp, 0, none⟩)) "Less").run Tryz.prog w = .ok (279, v) w := meth_388 "Less" _ (by kernel_rfl) qp v w h
theorem m_swap (qp : Nat) (v : Value) (w : World) (h : w.cell? ⟨qp, 0, none⟩ = some v) : (Go.method 388 142 (.pointer (some ⟨qp, 0, none⟩)) "Swap").run Tryz.prog w = .ok (280, v) w := meth_388 "Swap" _ (by kernel_rfl) qp v w h
theorem e_less : ∀ args w, (callFunc 279 args).run Tryz.prog w = .ok (.enter 279 args) w := enters_of Tryz.func279 (by kernel_rfl) rfl
theorem e_swap : ∀ args w, (callFunc 280 args).run Tryz.prog w = .ok (.enter 280 args) w := enters_of Tryz.func280 (by kernel_rfl) rfl
theorem e_len : ∀ args w, (callFunc 117 args).run Tryz.prog w = .ok (.enter 117 args) w := enters_of Tryz.func117 (by kernel_rfl) rfl
/-- the queue in memory -/
structure QuAt (w : World) (qp g c base : Nat) (l : List Cw) : Prop where
  q : w.heap[qp]? = some (.cells #[.slice (some ⟨g, 0, none⟩) l.length c] 140 (0, 0))
  own : OwnC w base (some ⟨g, 0, none⟩) c l
  ne : qp ≠ g
theorem QuAt.below {w w' : World} {qp g c base : Nat} {l : List Cw} (h : QuAt w qp g c base l) (hb : Below w.heap.size w w') : QuAt w' qp g c base l := ⟨(hb.block _ (heap_lt h.q)).trans h.q, h.own.below hb, h.ne⟩
theorem QuAt.put {w w' : World} {qp g c base : Nat} {l l' : List Cw} (h : QuAt w qp g c base l) (ho : OwnC w' base (some ⟨g, 0, none⟩) c l') (hc : Chg [g] w w') (hl : l'.length = l.length) : QuAt w' qp g c base l' :=
  ⟨by rw [hl]; exact heap_chg h.q hc (fun h9 => h.ne (List.mem_singleton.1 h9)), ho, h.ne⟩
theorem swapL_len {α : Type} (l : List α) (i j : Nat) (x y : α) : (swapL l i j x y).length = l.length := by unfold swapL; simp
theorem cms_swap (l : List Cw) (i j : Nat) (x y : Cw) : cms (swapL l i j x y) = swapL (cms l) i j x.c y.c := by unfold swapL cms; simp
theorem swapL_perm {l : List Cw} {i j : Nat} {x y : Cw} (hx : l[i]? = some x) (hy : l[j]? = some y) : (swapL l i j x y).Perm l := swap_perm hx hy
theorem cms_i {S : List Cw} {k : Nat} {v : Cw} (h : S[k]? = some v) : (cms S)[k]? = some v.c := by unfold cms; rw [List.getElem?_map, h]; rfl
/-- what stands while an element goes down -/
structure DnI (w wr : World) (qp g c base : Nat) (l cur : List Cw) (lo n i : Nat) : Prop where
  q : QuAt wr qp g c base cur
  dn : DownP (cms cur) lo n i
  perm : cur.Perm l
  rest : ∀ k, n ≤ k → cur[k]? = l[k]?
  chg : Chg [g] w wr
def DownTo (w : World) (qp g c base : Nat) (l : List Cw) (lo n : Nat) (e : Ending) (w' : World) : Prop :=
  ∃ (l' : List Cw) (b : Bool), e = .returned (.bool b) ∧ QuAt w' qp g c base l' ∧ HeapB (cms l') lo n ∧ l'.Perm l ∧ (∀ k, n ≤ k → l'[k]? = l[k]?) ∧ Chg [g] w w'
theorem DnI.below {w wr w' : World} {qp g c base : Nat} {l cur : List Cw} {lo n i : Nat} (h : DnI w wr qp g c base l cur lo n i) (hb : Below wr.heap.size wr w') : DnI w w' qp g c base l cur lo n i :=
  ⟨h.q.below hb, h.dn, h.perm, h.rest, h.chg.trans (Chg.of_below (F := [g]) hb) (fun _ h _ => h)⟩
theorem DnI.swap {w wr w' : World} {qp g c base : Nat} {l cur : List Cw} {lo n i j : Nat} {x y : Cw} (h : DnI w wr qp g c base l cur lo n i) (hj : MinJ (cms cur) n i j) (hx : cur[i]? = some x) (hy : cur[j]? = some y) (hlt : ltCb y.c x.c = true) (hi : i < n)
    (ho : OwnC w' base (some ⟨g, 0, none⟩) c (swapL cur i j x y)) (hc : Chg [g] wr w') : DnI w w' qp g c base l (swapL cur i j x y) lo n j := by
  refine ⟨h.q.put ho hc (swapL_len _ _ _ _ _), ?_, (swapL_perm hx hy).trans h.perm, fun k hk => ?_, h.chg.trans hc (fun _ h _ => h)⟩
  · rw [cms_swap]; exact h.dn.swap hj (cms_i hx) (cms_i hy) hlt
  · rw [swap_at hx hy, if_neg (by have := hj.lt; omega), if_neg (by omega)]
    exact h.rest k hk
set_option maxRecDepth 100000 in
set_option maxHeartbeats 8000000 in
theorem down_any (qp g c base lo i0 n : Nat) (l : List Cw) (w : World) (h : QuAt w qp g c base l) (hn : n ≤ l.length) (hl : l.length ≤ 1000) (hi : i0 ≤ 1000) (hD : DownP (cms l) lo n i0) :
    Calls Tryz.prog 165 #[.iface 142 (.pointer (some ⟨qp, 0, none⟩)), .int .i64 (i0 : Int), .int .i64 (n : Int)] w (DownTo w qp g c base l lo n) := by
  have E0 : Hid (DnI w w qp g c base l l lo n i0) := Lib.hid ⟨h, hD, .refl _, fun _ _ => rfl, Chg.refl _ _⟩
  have hn9 : n ≤ 1000 := by omega
  clear h hD
  go_enter Tryz.func165, Tryz.ntmps165
  go_wp2_with fail
  go_loopw [7] (fun u wr => ∃ (i : Nat) (cur : List Cw), u = .int .i64 i ∧ i ≤ 1000 ∧ Hid (DnI w wr qp g c base l cur lo n i)) (fun u _ => n - (intOf u).toNat)
  case atStart => exact ⟨i0, l, rfl, hi, E0⟩
  case round =>
    obtain ⟨i, cur, rfl, hi9, E⟩ := hrel
    have Hcl := Lib.hid E.out.perm.length_eq
    have hcl9 : cur.length ≤ 1000 := by have := Hcl.out; omega
    obtain ⟨j1, hj1⟩ : ∃ j1 : Nat, 2 * (i : Int) + 1 = (j1 : Int) := ⟨2 * i + 1, by omega⟩
    have hj9 : j1 ≤ 2001 := by omega
    have r0 := cells_at E.out.q.q
    by_cases hs : n ≤ j1
    · have x1 : (n : Int) ≤ (j1 : Int) := by omega
      have HF := Lib.hid (E.out.dn.leaf (by omega))
      clear hs
      go_wp2_with fail
      go_ret
      exact ⟨cur, _, rfl, E.out.q, HF.out, E.out.perm, E.out.rest, E.out.chg⟩
    · have x1 : ¬ (n : Int) ≤ (j1 : Int) := by omega
      have x2 : ¬ (j1 : Int) < 0 := by omega
      have hil : i < n := by omega
      obtain ⟨x, hx⟩ : ∃ x, cur[i]? = some x := ⟨cur[i]'(by have := Hcl.out; omega), by simp⟩
      obtain ⟨y1, hy1⟩ : ∃ x, cur[j1]? = some x := ⟨cur[j1]'(by have := Hcl.out; omega), by simp⟩
      obtain ⟨j2, hj2⟩ : ∃ j2 : Nat, (j1 : Int) + 1 = (j2 : Int) := ⟨j1 + 1, by omega⟩
      have Hx := Lib.hid hx
      have Hy1 := Lib.hid hy1
      clear hx hy1 hs
      have hq0 : wr.cell? ⟨qp, 0, none⟩ = some (.slice (some ⟨g, 0, none⟩) cur.length c) := r0 0
      have e1 := e_less
      have e2 := e_swap
      by_cases hk : (j2 : Int) < (n : Int)
      · obtain ⟨y2, hy2⟩ : ∃ x, cur[j2]? = some x := ⟨cur[j2]'(by have := Hcl.out; omega), by simp⟩
        have Hy2 := Lib.hid hy2
        clear hy2
        have m1 := m_less qp _ wr hq0
        go_wp2_with fail
        refine (lessO_any (some ⟨g, 0, none⟩) c cur j2 j1 y2 y1 _ E.out.q.own.cms Hy2.out Hy1.out hcl9).mono ?_
        rintro e w2 ⟨rfl, hb2⟩
        have EW := Lib.hid (E.out.below hb2)
        have r2 := cells_at EW.out.q.q
        have hq2 : w2.cell? ⟨qp, 0, none⟩ = some (.slice (some ⟨g, 0, none⟩) cur.length c) := r2 0
        have m2 := m_less qp _ w2 hq2
        clear r2 hb2 hq0 m1
        cases hh : ltCb y2.c y1.c with
        | true =>
          have Hm := Lib.hid (show MinJ (cms cur) n i j2 from ⟨by omega, by omega, fun k u v hk1 hk2 hu hv => by
            rw [cms_i Hy2.out] at hu; cases hu
            by_cases ek : k = j1
            · subst ek
              rw [cms_i Hy1.out] at hv; cases hv; exact leC_of_lt hh
            · have : k = j2 := by omega
              subst this
              rw [cms_i Hy2.out] at hv; cases hv; exact leC_refl _⟩)
          clear hh
          go_wp2_with fail
          refine (lessO_any (some ⟨g, 0, none⟩) c cur j2 i y2 x _ EW.out.q.own.cms Hy2.out Hx.out hcl9).mono ?_
          rintro e w3 ⟨rfl, hb3⟩
          have E3 := Lib.hid (EW.out.below hb3)
          clear hb3
          cases hz : ltCb y2.c x.c with
          | false =>
            have HF := Lib.hid (E3.out.dn.stop Hm.out (cms_i Hx.out) (cms_i Hy2.out) hz)
            go_wp2_with fail
            go_ret
            exact ⟨cur, _, rfl, E3.out.q, HF.out, E3.out.perm, E3.out.rest, E3.out.chg⟩
          | true =>
            have Hz := Lib.hid hz
            have r3 := cells_at E3.out.q.q
            have hq3 : w3.cell? ⟨qp, 0, none⟩ = some (.slice (some ⟨g, 0, none⟩) cur.length c) := r3 0
            have m3 := m_swap qp _ w3 hq3
            clear r3 hz
            go_wp2_with fail
            refine (swapQ_any g c base cur i j2 x y2 _ E3.out.q.own Hx.out Hy2.out hcl9).mono ?_
            rintro e w4 ⟨rfl, ho4, hc4⟩
            have E4 := Lib.hid (E3.out.swap Hm.out Hx.out Hy2.out Hz.out hil ho4 hc4)
            have h49 := Hm.out.lt
            have hik : i < j2 := by have := Hm.out.kid; omega
            clear ho4 hc4
            go_wp2_with fail
            go_roundw
            case rel => exact ⟨j2, _, by go_num, by omega, E4⟩
            case measure => simp [intOf]; omega
        | false =>
          have Hm := Lib.hid (show MinJ (cms cur) n i j1 from ⟨by omega, by omega, fun k u v hk1 hk2 hu hv => by
            rw [cms_i Hy1.out] at hu; cases hu
            by_cases ek : k = j1
            · subst ek
              rw [cms_i Hy1.out] at hv; cases hv; exact leC_refl _
            · have : k = j2 := by omega
              subst this
              rw [cms_i Hy2.out] at hv; cases hv; exact hh⟩)
          clear hh
          go_wp2_with fail
          refine (lessO_any (some ⟨g, 0, none⟩) c cur j1 i y1 x _ EW.out.q.own.cms Hy1.out Hx.out hcl9).mono ?_
          rintro e w3 ⟨rfl, hb3⟩
          have E3 := Lib.hid (EW.out.below hb3)
          clear hb3
          cases hz : ltCb y1.c x.c with
          | false =>
            have HF := Lib.hid (E3.out.dn.stop Hm.out (cms_i Hx.out) (cms_i Hy1.out) hz)
            go_wp2_with fail
            go_ret
            exact ⟨cur, _, rfl, E3.out.q, HF.out, E3.out.perm, E3.out.rest, E3.out.chg⟩
          | true =>
            have Hz := Lib.hid hz
            have r3 := cells_at E3.out.q.q
            have hq3 : w3.cell? ⟨qp, 0, none⟩ = some (.slice (some ⟨g, 0, none⟩) cur.length c) := r3 0
            have m3 := m_swap qp _ w3 hq3
            clear r3 hz
            go_wp2_with fail
            refine (swapQ_any g c base cur i j1 x y1 _ E3.out.q.own Hx.out Hy1.out hcl9).mono ?_
            rintro e w4 ⟨rfl, ho4, hc4⟩
            have E4 := Lib.hid (E3.out.swap Hm.out Hx.out Hy1.out Hz.out hil ho4 hc4)
            have h49 := Hm.out.lt
            have hik : i < j1 := by have := Hm.out.kid; omega
            clear ho4 hc4
            go_wp2_with fail
            go_roundw
            case rel => exact ⟨j1, _, by go_num, by omega, E4⟩
            case measure => simp [intOf]; omega
      · have Hm := Lib.hid (show MinJ (cms cur) n i j1 from ⟨by omega, by omega, fun k u v hk1 hk2 hu hv => by
          have : k = j1 := by omega
          subst this
          rw [hu] at hv; cases hv; exact leC_refl _⟩)
        have m1 := m_less qp _ wr hq0
        have EW := E
        go_wp2_with fail
        refine (lessO_any (some ⟨g, 0, none⟩) c cur j1 i y1 x _ EW.out.q.own.cms Hy1.out Hx.out hcl9).mono ?_
        rintro e w3 ⟨rfl, hb3⟩
        have E3 := Lib.hid (EW.out.below hb3)
        clear hb3
        cases hz : ltCb y1.c x.c with
        | false =>
          have HF := Lib.hid (E3.out.dn.stop Hm.out (cms_i Hx.out) (cms_i Hy1.out) hz)
          go_wp2_with fail
          go_ret
          exact ⟨cur, _, rfl, E3.out.q, HF.out, E3.out.perm, E3.out.rest, E3.out.chg⟩
        | true =>
          have Hz := Lib.hid hz
          have r3 := cells_at E3.out.q.q
          have hq3 : w3.cell? ⟨qp, 0, none⟩ = some (.slice (some ⟨g, 0, none⟩) cur.length c) := r3 0
          have m3 := m_swap qp _ w3 hq3
          clear r3 hz
          go_wp2_with fail
          refine (swapQ_any g c base cur i j1 x y1 _ E3.out.q.own Hx.out Hy1.out hcl9).mono ?_
          rintro e w4 ⟨rfl, ho4, hc4⟩
          have E4 := Lib.hid (E3.out.swap Hm.out Hx.out Hy1.out Hz.out hil ho4 hc4)
          have h49 := Hm.out.lt
          have hik : i < j1 := by have := Hm.out.kid; omega
          clear ho4 hc4
          go_wp2_with fail
          go_roundw
          case rel => exact ⟨j1, _, by go_num, by omega, E4⟩
          case measure => simp [intOf]; omega
end Go.Proofs.YthdmoplclllhjaaGreat

/- HeaD -/
namespace Go.Proofs.YthdmoplclllhjaaGreat
open Go.RowKit
set_option linter.unusedVariables false
set_option linter.unusedSimpArgs false

theorem slice_hiQ (oa : Option Addr) (n oc j : Nat) (hj : j ≤ oc) (W : World) : (Instr.sliceAt 140 (.slice oa n oc) none (some (.int .i64 (j : Int))) none).run Tryz.prog W = .ok (.slice oa j oc) W := by
  simp [go_sem, Instr.sliceAt, Instr.slice, run_underlying Tryz.underlying140]
  omega
theorem OwnC.take_ {w : World} {base g c : Nat} {v : List Cw} (h : OwnC w base (some ⟨g, 0, none⟩) c v) {k : Nat} (hk : k ≤ v.length) : OwnC w base (some ⟨g, 0, none⟩) c (v.take k) := by
  have hl : (v.take k).length = k := by rw [List.length_take]; omega
  rcases h.2 with ⟨h3, h4⟩ | ⟨g', cap, cur, h3, hb, hg, hnc, hcm, hcs, ht⟩
  · simp at h3
  simp only [Value.slice.injEq, Option.some.injEq, Addr.mk.injEq, and_true, true_and] at h3
  obtain ⟨rfl, rfl⟩ := h3
  unfold OwnC
  rw [hl]
  refine ⟨by rw [ccs_length, hl], .inr ⟨g, c, cur, rfl, hb, hg, by omega, hcm, hcs, ?_⟩⟩
  have e1 : cur.toList.take (k * 11) = (ccs v).take (k * 11) := by rw [← ht, List.take_take, Nat.min_eq_left (by omega)]
  rw [e1]
  exact ccs_take v k
theorem gblk {w : World} {base g c : Nat} {v : List Cw} (h : OwnC w base (some ⟨g, 0, none⟩) c v) (h0 : 0 < v.length) : g < w.heap.size := by
  obtain ⟨ad, had, hC, hlb⟩ := sl_at h.cms (show v[0]? = some v[0] by simp)
  obtain rfl : (⟨g, 0, none⟩ : Addr) = ad := Option.some.inj had
  exact hlb
theorem cms_take (l : List Cw) (k : Nat) : cms (l.take k) = (cms l).take k := by unfold cms; rw [List.map_take]
theorem HeapB.take {l : List Cm} {lo n : Nat} (h : HeapB l lo n) (hn : n ≤ l.length) : HeapB (l.take n) lo n := fun p k x y h1 h2 h3 hx hy => by
  rw [List.getElem?_take] at hx hy
  rw [if_pos (by omega)] at hx
  rw [if_pos h3] at hy
  exact h p k x y h1 h2 h3 hx hy
theorem HeapB.half (l : List Cm) (m n : Nat) (h : n ≤ 2 * m + 1) : HeapB l m n := fun p k x y h1 h2 h3 => by omega
/-- the first and the last one have changed places -/
theorem HeapB.swapTop {l : List Cm} {n : Nat} {x y : Cm} (h : HeapB l 0 (n + 1)) (hx : l[0]? = some x) (hy : l[n]? = some y) : DownP (swapL l 0 n x y) 0 n 0 := by
  refine ⟨fun p k u v h1 h2 h3 h4 hu hv => ?_, fun p k u v h1 h2 => by omega, Nat.le_refl _⟩
  rw [swap_at hx hy, if_neg (by omega), if_neg h2] at hu
  rw [swap_at hx hy, if_neg (by omega), if_neg (by omega)] at hv
  exact h p k u v h1 h3 (by omega) hu hv
theorem popQ_fin {w w1 : World} {qp g c base n : Nat} {l : List Cw} (h : QuAt w qp g c base l) (hb : Below w.heap.size w w1) (hn : n ≤ l.length) :
    QuAt (w1.setCell ⟨qp, 0, none⟩ (.slice (some ⟨g, 0, none⟩) n c)) qp g c base (l.take n) ∧ Chg [qp] w (w1.setCell ⟨qp, 0, none⟩ (.slice (some ⟨g, 0, none⟩) n c)) := by
  have h1 := h.below hb
  have hC : Chg [qp] w1 (w1.setCell ⟨qp, 0, none⟩ (.slice (some ⟨g, 0, none⟩) n c)) := (Chg.refl _ _).put _ _ (by simp)
  have e : (l.take n).length = n := by rw [List.length_take]; omega
  refine ⟨⟨?_, ?_, h1.ne⟩, (Chg.of_below hb).trans hC (fun _ h _ => h)⟩
  · rw [e]
    exact heap_setC h1.q 0 _
  · exact OwnC.chg (h1.own.take_ hn) hC (fun k hk h9 => by
      have e1 : k = g := by simpa [ob] using hk
      have e2 := List.mem_singleton.1 h9
      exact h1.ne (by rw [← e2, e1]))
def PopQTo (w : World) (qp g c base : Nat) (l : List Cw) (n : Nat) (e : Ending) (w' : World) : Prop :=
  ∃ x, l[n]? = some x ∧ e = .returned (.iface 46 (.agg (cwcells x))) ∧ QuAt w' qp g c base (l.take n) ∧ Chg [qp] w w'
set_option maxRecDepth 100000 in
set_option maxHeartbeats 8000000 in
theorem popQ_any (qp g c base n : Nat) (l : List Cw) (w : World) (h : QuAt w qp g c base l) (hn : n + 1 = l.length) (hl : l.length ≤ 1000) :
    Calls Tryz.prog 281 #[.pointer (some ⟨qp, 0, none⟩)] w (PopQTo w qp g c base l n) := by
  have H := Lib.hid h
  have Hn := Lib.hid hn
  have hn1 : (l.length : Int) - 1 = (n : Int) := by omega
  have hn2 : n < l.length := by omega
  obtain ⟨x, hx⟩ : ∃ x, l[n]? = some x := ⟨l[n], by simp⟩
  have Hx := Lib.hid hx
  have q0 := cells_at h.q
  have q1 := free_at h.q
  have qz := heap_lt h.q
  have hcap := h.own.capC
  have hs := fun W => slice_hiQ (some ⟨g, 0, none⟩) l.length c n (by omega) W
  have hR := OwnC.range h.own hx
  have hlb := gblk h.own (by omega)
  have hne := h.ne
  clear h hn hx
  obtain ⟨⟨⟨⟨r, i1⟩, s⟩, ps, uu, t, ⟨k, nn, x1, p, ds⟩⟩, qa, qc, ua, uc, pa, pc, da, dc⟩ := x
  have c0 : w.cell? ⟨g, n * 11, none⟩ = some (.int .u8 r) := by have h9 := hR 0 _ rfl; simpa using h9
  have c1 : w.cell? ⟨g, n * 11 + 1, none⟩ = some (.int .u32 i1) := hR 1 _ rfl
  have c2 : w.cell? ⟨g, n * 11 + 2, none⟩ = some (.int .u64 s) := hR 2 _ rfl
  have c3 : w.cell? ⟨g, n * 11 + 3, none⟩ = some (.slice qa ps.length qc) := hR 3 _ rfl
  have c4 : w.cell? ⟨g, n * 11 + 4, none⟩ = some (.slice ua uu.length uc) := hR 4 _ rfl
  have c5 : w.cell? ⟨g, n * 11 + 5, none⟩ = some (.int .u64 t) := hR 5 _ rfl
  have c6 : w.cell? ⟨g, n * 11 + 6, none⟩ = some (.int .u8 k) := hR 6 _ rfl
  have c7 : w.cell? ⟨g, n * 11 + 7, none⟩ = some (.slice pa p.length pc) := hR 7 _ rfl
  have c8 : w.cell? ⟨g, n * 11 + 8, none⟩ = some (.int .i64 nn) := hR 8 _ rfl
  have c9 : w.cell? ⟨g, n * 11 + 9, none⟩ = some (.string x1) := hR 9 _ rfl
  have c10 : w.cell? ⟨g, n * 11 + 10, none⟩ = some (.slice da ds.length dc) := hR 10 _ rfl
  clear hR
  go_enter Tryz.func281, Tryz.ntmps281
  go_wp2_with fail
  go_ret
  have hF := popQ_fin H.out (Below.refl _ _) (n := n) (by omega)
  have hG : ∀ (W : World) (o : Obj), Below W.heap.size W (W.alloc o) := fun W o => (Below.refl _ _).alloc (Nat.le_refl _) _
  exact ⟨_, Hx.out, rfl, hF.1.below (hG _ _), hF.2.trans (Chg.of_below (F := [qp]) (hG _ _)) (fun _ h _ => h)⟩
set_option maxRecDepth 100000 in
set_option maxHeartbeats 8000000 in
theorem initQ_none (qp c : Nat) (a : Option Addr) (w : World) (h : w.heap[qp]? = some (.cells #[.slice a 0 c] 140 (0, 0))) :
    Calls Tryz.prog 116 #[.iface 142 (.pointer (some ⟨qp, 0, none⟩))] w fun e w' => e = .returned (.tuple #[]) ∧ w' = w := by
  have r0 := cells_at h
  have hq0 : w.cell? ⟨qp, 0, none⟩ = some (.slice a 0 c) := r0 0
  have m1 := m_len qp _ w hq0
  have e1 := e_len
  go_enter Tryz.func116, Tryz.ntmps116
  go_wp2_with fail
  refine (lenQ_any a c 0 _).mono ?_
  rintro e w2 ⟨rfl, rfl⟩
  go_wp2_with fail
  go_loopw [3] (fun u wr => u = .int .i64 (-1) ∧ wr = w2) (fun u _ => (intOf u + 1).toNat)
  case atStart => exact ⟨rfl, rfl⟩
  case round =>
    obtain ⟨rfl, rfl⟩ := hrel
    go_wp2_with fail
    go_end0
    exact ⟨rfl, rfl⟩
def InitTo (w : World) (qp g c base : Nat) (l : List Cw) (e : Ending) (w' : World) : Prop :=
  ∃ l', e = .returned (.tuple #[]) ∧ QuAt w' qp g c base l' ∧ HeapB (cms l') 0 l.length ∧ l'.Perm l ∧ Chg [g] w w'
structure InI (w wr : World) (qp g c base : Nat) (l cur : List Cw) (k : Nat) : Prop where
  q : QuAt wr qp g c base cur
  hp : HeapB (cms cur) k l.length
  perm : cur.Perm l
  chg : Chg [g] w wr
set_option maxRecDepth 100000 in
set_option maxHeartbeats 8000000 in
theorem initQ_any (qp g c base : Nat) (l : List Cw) (w : World) (h : QuAt w qp g c base l) (hl : l.length ≤ 1000) :
    Calls Tryz.prog 116 #[.iface 142 (.pointer (some ⟨qp, 0, none⟩))] w (InitTo w qp g c base l) := by
  have r0 := cells_at h.q
  have hq0 : w.cell? ⟨qp, 0, none⟩ = some (.slice (some ⟨g, 0, none⟩) l.length c) := r0 0
  have m1 := m_len qp _ w hq0
  have e1 := e_len
  obtain ⟨m, hm⟩ : ∃ m : Nat, (l.length : Int).tdiv 2 = (m : Int) := ⟨l.length / 2, by rw [Int.tdiv_eq_ediv_of_nonneg (by omega)]; omega⟩
  have hm2 : l.length ≤ 2 * m + 1 := by
    rw [Int.tdiv_eq_ediv_of_nonneg (by omega)] at hm
    omega
  have hm9 : m ≤ 1000 := by
    rw [Int.tdiv_eq_ediv_of_nonneg (by omega)] at hm
    omega
  have E0 : Hid (InI w w qp g c base l l m) := Lib.hid ⟨h, HeapB.half _ _ _ hm2, .refl _, Chg.refl _ _⟩
  clear h r0
  go_enter Tryz.func116, Tryz.ntmps116
  go_wp2_with fail
  refine (lenQ_any (some ⟨g, 0, none⟩) c l.length _).mono ?_
  rintro e w2 ⟨rfl, rfl⟩
  clear hq0 m1
  go_wp2_with fail
  go_loopw [3] (fun u wr => ∃ (k : Nat) (cur : List Cw), u = .int .i64 ((k : Int) - 1) ∧ k ≤ 1000 ∧ Hid (InI w2 wr qp g c base l cur k)) (fun u _ => (intOf u + 1).toNat)
  case atStart => exact ⟨m, l, rfl, hm9, E0⟩
  case round =>
    obtain ⟨k, cur, rfl, hk9, E⟩ := hrel
    have Hcl := Lib.hid E.out.perm.length_eq
    have hcl9 : cur.length ≤ 1000 := by have := Hcl.out; omega
    by_cases h0 : k = 0
    · subst h0
      go_wp2_with fail
      go_end0
      exact ⟨cur, rfl, E.out.q, E.out.hp, E.out.perm, E.out.chg⟩
    · obtain ⟨k1, hk1⟩ : ∃ k1 : Nat, k = k1 + 1 := ⟨k - 1, by omega⟩
      subst hk1
      have hk2 : ((k1 + 1 : Nat) : Int) - 1 = (k1 : Int) := by omega
      go_wp2_with fail
      refine (down_any qp g c base k1 k1 l.length cur _ E.out.q (by have := Hcl.out; omega) hcl9 (by omega) (DownP.start E.out.hp)).mono ?_
      rintro e w3 ⟨l', b, rfl, hq, hh, hp, hr, hc⟩
      have E2 : Hid (InI w2 w3 qp g c base l l' k1) := Lib.hid ⟨hq, hh, hp.trans E.out.perm, E.out.chg.trans hc (fun _ h _ => h)⟩
      clear hq hh hp hr hc
      go_wp2_with fail
      go_roundw
      case rel => exact ⟨k1, l', by go_num, by omega, E2⟩
      case measure => simp [intOf]
theorem m_pop (qp : Nat) (w : World) : (Go.method 388 142 (.pointer (some ⟨qp, 0, none⟩)) "Pop").run Tryz.prog w = .ok (281, .pointer (some ⟨qp, 0, none⟩)) w := by kernel_rfl
theorem e_pop : ∀ args w, (callFunc 281 args).run Tryz.prog w = .ok (.enter 281 args) w := enters_of Tryz.func281 (by kernel_rfl) rfl
def PopTo (w : World) (qp g c base : Nat) (l : List Cw) (e : Ending) (w' : World) : Prop :=
  ∃ x l', l[0]? = some x ∧ e = .returned (.iface 46 (.agg (cwcells x))) ∧ QuAt w' qp g c base l' ∧ HeapB (cms l') 0 l'.length ∧ (x :: l').Perm l ∧ Chg [qp, g] w w'
theorem take_perm {x : Cw} {l : List Cw} {n : Nat} (h : l[n]? = some x) (hn : n + 1 = l.length) : (x :: l.take n).Perm l := by
  have h1 : l.take (n + 1) = l.take n ++ [x] := take_snoc' h
  rw [List.take_of_length_le (by omega)] at h1
  rw [h1, List.take_append_of_le_length (by rw [List.length_take]; omega), List.take_take, Nat.min_self]
  exact (List.perm_append_singleton _ _).symm
set_option maxRecDepth 100000 in
set_option maxHeartbeats 8000000 in
theorem popH_any (qp g c base n : Nat) (l : List Cw) (w : World) (h : QuAt w qp g c base l) (hn : n + 1 = l.length) (hl : l.length ≤ 1000) (hH : HeapB (cms l) 0 (n + 1)) :
    Calls Tryz.prog 118 #[.iface 142 (.pointer (some ⟨qp, 0, none⟩))] w (PopTo w qp g c base l) := by
  have H := Lib.hid h
  have Hn := Lib.hid hn
  have HH := Lib.hid hH
  have hn1 : (l.length : Int) - 1 = (n : Int) := by omega
  obtain ⟨x, hx⟩ : ∃ x, l[0]? = some x := ⟨l[0], by simp⟩
  obtain ⟨y, hy⟩ : ∃ x, l[n]? = some x := ⟨l[n], by simp⟩
  have Hx := Lib.hid hx
  have Hy := Lib.hid hy
  have r0 := cells_at h.q
  have hq0 : w.cell? ⟨qp, 0, none⟩ = some (.slice (some ⟨g, 0, none⟩) l.length c) := r0 0
  have m1 := m_len qp _ w hq0
  have m2 := m_swap qp _ w hq0
  have e1 := e_len
  have e2 := e_swap
  have e3 := e_pop
  clear h hn hH hx hy r0
  go_enter Tryz.func118, Tryz.ntmps118
  go_wp2_with fail
  refine (lenQ_any (some ⟨g, 0, none⟩) c l.length _).mono ?_
  rintro e w2 ⟨rfl, rfl⟩
  go_wp2_with fail
  refine (swapQ_any g c base l 0 n x y _ H.out.own Hx.out Hy.out hl).mono ?_
  rintro e w3 ⟨rfl, ho, hc⟩
  have Hq3 := Lib.hid (H.out.put ho hc (swapL_len _ _ _ _ _))
  have Hc3 := Lib.hid hc
  have Hd3 := Lib.hid (show DownP (cms (swapL l 0 n x y)) 0 n 0 by rw [cms_swap]; exact HH.out.swapTop (cms_i Hx.out) (cms_i Hy.out))
  have Hp3 := Lib.hid (swapL_perm Hx.out Hy.out)
  have He3 := Lib.hid (show (swapL l 0 n x y)[n]? = some x by rw [swap_at Hx.out Hy.out, if_pos rfl])
  have Hl3 := Lib.hid (swapL_len l 0 n x y)
  clear ho hc hq0 m1 m2
  generalize swapL l 0 n x y = l3 at Hq3 Hd3 Hp3 He3 Hl3
  go_wp2_with fail
  refine (down_any qp g c base 0 0 n l3 _ Hq3.out (by have := Hl3.out; have := Hn.out; omega) (by have := Hl3.out; omega) (by omega) Hd3.out).mono ?_
  rintro e w4 ⟨l4, b, rfl, hq4, hh4, hp4, hr4, hc4⟩
  have Hq4 := Lib.hid hq4
  have Hh4 := Lib.hid hh4
  have Hp4 := Lib.hid hp4
  have He4 := Lib.hid ((hr4 n (Nat.le_refl _)).trans He3.out)
  have Hc4 := Lib.hid hc4
  clear hq4 hh4 hp4 hr4 hc4
  have m3 := m_pop qp w4
  have Hn4 := Lib.hid (show n + 1 = l4.length by rw [Hp4.out.length_eq, Hl3.out]; exact Hn.out)
  go_wp2_with fail
  refine (popQ_any qp g c base n l4 _ Hq4.out Hn4.out (by have := Hn4.out; have := Hn.out; omega)).mono ?_
  rintro e w5 ⟨x5, h5, rfl, hq5, hc5⟩
  have Hq5 := Lib.hid hq5
  have Hc5 := Lib.hid hc5
  obtain rfl : x = x5 := by have h9 := He4.out; rw [h5] at h9; exact (Option.some.inj h9).symm
  clear h5 hq5 hc5
  go_wp2_with fail
  go_ret
  refine ⟨x, l4.take n, Hx.out, rfl, Hq5.out, ?_, (take_perm He4.out Hn4.out).trans (Hp4.out.trans Hp3.out), ((Hc3.out.mono (by simp)).trans (Hc4.out.mono (G := [qp, g]) (by simp)) (fun _ h _ => h)).trans Hc5.out (fun _ h _ => by simp at h; simp [h])⟩
  have e : (l4.take n).length = n := by rw [List.length_take]; have := Hn4.out; omega
  rw [e, cms_take]
  exact Hh4.out.take (by unfold cms; rw [List.length_map]; have := Hn4.out; omega)
end Go.Proofs.YthdmoplclllhjaaGreat
