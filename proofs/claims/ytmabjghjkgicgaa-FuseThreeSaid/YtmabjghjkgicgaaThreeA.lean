/- What FuseThree knows. Printed by genthree.py. -/
import Derived.Test.YtmabjghjkgicgaaSomeA
import Derived.Test.YtmabjghjkgicgaaLawK
namespace Go.Proofs.Ytmabjghjkgicgaa
open Go.RowKit
set_option linter.unusedVariables false
set_option linter.unusedSimpArgs false

theorem index3_0 (a b c : Value) (W : World) : (Instr.index 25 (.agg #[a, b, c]) (.int .i64 0)).run Try.prog W = .ok a W := by kernel_rfl
theorem index3_1 (a b c : Value) (W : World) : (Instr.index 25 (.agg #[a, b, c]) (.int .i64 1)).run Try.prog W = .ok b W := by kernel_rfl
theorem index3_2 (a b c : Value) (W : World) : (Instr.index 25 (.agg #[a, b, c]) (.int .i64 2)).run Try.prog W = .ok c W := by kernel_rfl
theorem index3 (A1 A2 A3 : Ls) {q : Nat} {s : Ls} (h : [A1, A2, A3][q]? = some s) (W : World) : (Instr.index 25 (.agg #[.slice A1.a A1.ys.length A1.c, .slice A2.a A2.ys.length A2.c, .slice A3.a A3.ys.length A3.c]) (.int .i64 (q : Int))).run Try.prog W = .ok (.slice s.a s.ys.length s.c) W := by
  match q, h with
  | 0, h => obtain rfl : A1 = s := by simpa using h
            exact index3_0 _ _ _ W
  | 1, h => obtain rfl : A2 = s := by simpa using h
            exact index3_1 _ _ _ W
  | 2, h => obtain rfl : A3 = s := by simpa using h
            exact index3_2 _ _ _ W
  | q + 3, h => simp at h
def dotsE (E : List Ev) : List Dt := E.map (·.d)
/-- what is counted so far -/
structure TE (w wr : World) (E : List Ev) (a : Value) : Prop where
  n : a = .int .i64 (E.length : Int)
  seen : SeenAt wr w.heap.size (dotsE E)
  bel : Below w.heap.size w wr
  ds : ∀ e ∈ E, e.ds.length ≤ 100
def JT1 (w : World) (LL : List Ls) (a j : Value) (wr : World) : Prop := ∃ q : Nat, q ≤ 3 ∧ j = .int .i64 q ∧ TE w wr (evsOf (LL.take q)) a
def JT2 (w : World) (E : List Ev) (ys : List Ew) (a j : Value) (wr : World) : Prop := ∃ p : Nat, p ≤ ys.length ∧ j = .int .i64 p ∧ TE w wr (E ++ (ys.take p).map (·.e)) a
theorem lsts1 {W : World} {g : Nat} {A1 : Ls} {t : TypeId} (h : W.heap[g]? = some (.cells #[.slice A1.a A1.ys.length A1.c] t (0, 0))) (h1 : A1.rd W) : Lsts W g [A1] := fun j s hj => by
  have hc := cells_at h j
  match j, hj with
  | 0, hj => obtain rfl : A1 = s := by simpa using hj
             exact ⟨hc, h1⟩
  | j + 1, hj => simp at hj
theorem lsts2 {W : World} {g : Nat} {A1 A2 : Ls} {t : TypeId} (h : W.heap[g]? = some (.cells #[.slice A1.a A1.ys.length A1.c, .slice A2.a A2.ys.length A2.c] t (0, 0))) (h1 : A1.rd W) (h2 : A2.rd W) : Lsts W g [A1, A2] := fun j s hj => by
  have hc := cells_at h j
  match j, hj with
  | 0, hj => obtain rfl : A1 = s := by simpa using hj
             exact ⟨hc, h1⟩
  | 1, hj => obtain rfl : A2 = s := by simpa using hj
             exact ⟨hc, h2⟩
  | j + 2, hj => simp at hj
theorem lsts3 {W : World} {g : Nat} {A1 A2 A3 : Ls} {t : TypeId} (h : W.heap[g]? = some (.cells #[.slice A1.a A1.ys.length A1.c, .slice A2.a A2.ys.length A2.c, .slice A3.a A3.ys.length A3.c] t (0, 0))) (h1 : A1.rd W) (h2 : A2.rd W) (h3 : A3.rd W) : Lsts W g [A1, A2, A3] := fun j s hj => by
  have hc := cells_at h j
  match j, hj with
  | 0, hj => obtain rfl : A1 = s := by simpa using hj
             exact ⟨hc, h1⟩
  | 1, hj => obtain rfl : A2 = s := by simpa using hj
             exact ⟨hc, h2⟩
  | 2, hj => obtain rfl : A3 = s := by simpa using hj
             exact ⟨hc, h3⟩
  | j + 3, hj => simp at hj
/-- a leaf that some told -/
def Res (W : World) (k : Int) (L : List Ls) (p : Nat) (M : Lv) (q : Bool) : Prop := LvBlk W p M ∧ (q = true → M.l = runP (kindOf k) (evsOf L) ∧ Fits (kindOf k) (evsOf L) ∧ LvAt W M)
theorem Res.step {W W' : World} {k : Int} {L : List Ls} {p : Nat} {M : Lv} {q : Bool} (h : Res W k L p M q) (hb : Below W.heap.size W W') : Res W' k L p M q :=
  ⟨h.1.below hb, fun hq => ⟨(h.2 hq).1, (h.2 hq).2.1, (h.2 hq).2.2.below hb⟩⟩
theorem Res.of {W : World} {k : Int} {L : List Ls} {M : Lv} {q : Bool} (h : q = true → M.l = runP (kindOf k) (evsOf L) ∧ Fits (kindOf k) (evsOf L) ∧ LvAt W M) : Res (aL W M) k L W.heap.size M q :=
  ⟨heap_new _ _, fun hq => ⟨(h hq).1, (h hq).2.1, (h hq).2.2.below ((Below.refl _ _).alloc (Nat.le_refl _) _)⟩⟩
/-- what the law holds while leaves are made -/
structure ThE (w W : World) (A1 A2 A3 : Ls) : Prop where
  r1 : A1.rd W
  r2 : A2.rd W
  r3 : A3.rd W
  seen : SeenAt W w.heap.size (dotsE (evsOf [A1, A2, A3]))
  bel : Below w.heap.size w W
theorem ThE.step {w W W' : World} {A1 A2 A3 : Ls} (h : ThE w W A1 A2 A3) (hb : Below W.heap.size W W') : ThE w W' A1 A2 A3 :=
  ⟨h.r1.below hb, h.r2.below hb, h.r3.below hb, h.seen.below hb, below2 h.bel hb h.bel.size⟩
theorem evs1 (A : Ls) : evsOf [A] = A.evs := by simp [evsOf]
theorem evs2 (A B : Ls) : evsOf [A, B] = A.evs ++ B.evs := by simp [evsOf]
theorem evs3 (A B C : Ls) : evsOf [A, B, C] = A.evs ++ B.evs ++ C.evs := by simp [evsOf]
theorem evs_ok {W : World} {s : Ls} (h : s.rd W) : ∀ e ∈ s.evs, okE e ∧ e.ds.length ≤ 100 := fun e he => by
  obtain ⟨y, hy, rfl⟩ := List.mem_map.1 he
  obtain ⟨j, hj⟩ := List.getElem?_of_mem hy
  obtain ⟨ad, _, hat, _⟩ := h.1.at hj
  exact ⟨hat.at_.ok, h.2.2 y hy⟩
theorem evs_len {W : World} {s : Ls} (h : s.rd W) : s.evs.length ≤ 12 := by simpa [Ls.evs] using h.2.1
/-- what the merges come to -/
theorem three_merges {W : World} {k : Int} (hk : 1 ≤ k ∧ k ≤ 4) {A1 A2 A3 : Ls} (r1 : A1.rd W) (r2 : A2.rd W) (r3 : A3.rd W) (hf : Fits k (evsOf [A1, A2, A3])) (hd : (dotsE (evsOf [A1, A2, A3])).Nodup) :
    MergeR (runP k (evsOf [A1])) (runP k (evsOf [A1, A2])) (runP k (evsOf [A1, A3])) 0 (runP k (evsOf [A1, A2, A3])) ∧ MergeR (runP k (evsOf [A1])) (runP k (evsOf [A1, A3])) (runP k (evsOf [A1, A2])) 0 (runP k (evsOf [A1, A2, A3])) := by
  rw [evs3] at hf hd
  rw [evs1, evs2, evs2, evs3]
  obtain ⟨m1, m2⟩ := three k hk A1.evs A2.evs A3.evs hf hd
  have f1 : Fits k A1.evs := hf.sub fun e he => by simp [he]
  have f2 : Fits k (A1.evs ++ A2.evs) := hf.sub fun e he => by simp only [List.mem_append] at *; exact .inl he
  have f3 : Fits k (A1.evs ++ A3.evs) := hf.sub fun e he => by
    simp only [List.mem_append] at *
    rcases he with he | he
    · exact .inl (.inl he)
    · exact .inr he
  exact ⟨.inr (.inr ⟨⟨may_run hk _ f1, may_run hk _ f2, may_run hk _ f3⟩, by rw [run_k, run_k], by rw [run_k, run_k], rfl, m1⟩), .inr (.inr ⟨⟨may_run hk _ f1, may_run hk _ f3, may_run hk _ f2⟩, by rw [run_k, run_k], by rw [run_k, run_k], rfl, m2⟩)⟩
theorem ok_lens {W : World} {k : Int} (hk : 1 ≤ k ∧ k ≤ 4) {L : List Ls} (hl : L.length ≤ 3) (h : ∀ s ∈ L, s.rd W) : okL (runP k (evsOf L)) ∧ (runP k (evsOf L)).items.length ≤ 400000 ∧ (runP k (evsOf L)).tombs.length ≤ 400000 := by
  have hall : ∀ e ∈ evsOf L, okE e ∧ e.ds.length ≤ 100 := fun e he => by
    obtain ⟨s, hs, he⟩ := List.mem_flatMap.1 he
    exact evs_ok (h s hs) e he
  have h1 := evsOf_len h
  have h2 := len_run k (evsOf L) fun e he => (hall e he).2
  exact ⟨ok_run (by omega) _ fun e he => (hall e he).1, by omega, by omega⟩
end Go.Proofs.Ytmabjghjkgicgaa
