/- Plain words on memory, more: what a call may change (Chg); slices' own blocks. -/
import Derived.Test.YtblahapjdgncfaaRegD
namespace Go.Proofs.Ytblahapjdgncfaa
open Go.RowKit
set_option linter.unusedVariables false
set_option linter.unusedSimpArgs false

/-- of what was there only the blocks F may have changed -/
structure Chg (F : List Nat) (w w' : World) : Prop where
  os : w'.os = w.os
  tape : w'.tape = w.tape
  output : w'.output = w.output
  size : w.heap.size ≤ w'.heap.size
  block : ∀ k, k < w.heap.size → k ∉ F → w'.heap[k]? = w.heap[k]?
theorem Chg.refl (F : List Nat) (w : World) : Chg F w w := ⟨rfl, rfl, rfl, Nat.le_refl _, fun _ _ _ => rfl⟩
theorem Chg.of_below {F : List Nat} {w w' : World} (h : Below w.heap.size w w') : Chg F w w' := ⟨h.os, h.tape, h.output, h.size, fun k hk _ => h.block k hk⟩
theorem Chg.trans {F G : List Nat} {a b c : World} (h : Chg F a b) (k : Chg G b c) (hFG : ∀ x ∈ G, x < a.heap.size → x ∈ F) : Chg F a c :=
  ⟨k.os.trans h.os, k.tape.trans h.tape, k.output.trans h.output, Nat.le_trans h.size k.size,
   fun i hi hF => (k.block i (Nat.lt_of_lt_of_le hi h.size) (fun hg => hF (hFG i hg hi))).trans (h.block i hi hF)⟩
theorem Chg.mono {F G : List Nat} {a b : World} (h : Chg F a b) (hFG : ∀ x ∈ F, x < a.heap.size → x ∈ G) : Chg G a b :=
  ⟨h.os, h.tape, h.output, h.size, fun i hi hG => h.block i hi (fun hf => hG (hFG i hf hi))⟩
theorem Chg.below {F : List Nat} {B : Nat} {w w' : World} (h : Chg F w w') (hB : B ≤ w.heap.size) (hF : ∀ x ∈ F, B ≤ x) : Below B w w' :=
  ⟨h.os, h.tape, h.output, h.size, fun k hk => h.block k (by omega) (fun hf => by have := hF k hf; omega)⟩
theorem Chg.drew (F : List Nat) (w : World) : Chg F w w.drew := ⟨rfl, rfl, rfl, Nat.le_refl _, fun _ _ _ => rfl⟩
theorem Chg.alloc (F : List Nat) (w : World) (o : Obj) : Chg F w (w.alloc o) := ⟨rfl, rfl, rfl, by simp, fun k hk _ => heap_old w o hk⟩
theorem Chg.setCell (w : World) (p : Addr) (v : Value) : Chg [p.block] w (w.setCell p v) :=
  ⟨rfl, rfl, rfl, by simp, fun k hk hF => Below.heap_setCell w p v k (by simpa using hF)⟩
theorem Chg.grown {w w' : World} {row : Option Nat} (h : w.grownBy w' row) : Chg row.toList w w' :=
  ⟨h.os, h.tape, h.output, h.size, fun k hk hF => h.block k hk (by intro e; cases row <;> simp_all)⟩

/-- the blocks of a slice -/
def ob (a : Option Addr) : List Nat := match a with | some x => [x.block] | none => []
theorem ownBlock_eq (a : Option Addr) (n c : Nat) : (Value.slice a n c).ownBlock = (ob a).head? := by cases a <;> rfl

/-- an owned row lies in blocks that are there -/
theorem owns_lt {w : World} {base : Nat} {e : TypeId} {size : Nat} {a : Option Addr} {n c m : Nat} {xs : List Value} (h : w.ownsRow base e size (.slice a n c) m xs) : ∀ k ∈ ob a, base ≤ k ∧ k < w.heap.size := by
  intro k hk
  refine h.lt k ?_
  rw [ownBlock_eq]
  cases a <;> simp [ob] at hk ⊢
  exact hk.symm
/-- it stays while its block does -/
theorem owns_chg {F : List Nat} {w w' : World} {base : Nat} {e : TypeId} {size : Nat} {a : Option Addr} {n c m : Nat} {xs : List Value} (h : w.ownsRow base e size (.slice a n c) m xs) (hc : Chg F w w') (hd : ∀ k ∈ ob a, k ∉ F) : w'.ownsRow base e size (.slice a n c) m xs := by
  refine ⟨h.1, ?_⟩
  rcases h.2 with h2 | ⟨g, cap, cur, hv, hb, hg, r⟩
  · exact .inl h2
  · refine .inr ⟨g, cap, cur, hv, hb, ?_, r⟩
    simp at hv
    obtain ⟨rfl, _, _⟩ := hv
    rw [hc.block g (Array.getElem?_eq_some_iff.1 hg).1 (hd g (by simp [ob]))]
    exact hg
theorem heap_chg {F : List Nat} {w w' : World} {k : Nat} {o : Obj} (h : w.heap[k]? = some o) (hc : Chg F w w') (hk : k ∉ F) : w'.heap[k]? = some o := by
  rw [hc.block k (Array.getElem?_eq_some_iff.1 h).1 hk]; exact h
theorem heap_lt {w : World} {k : Nat} {o : Obj} (h : w.heap[k]? = some o) : k < w.heap.size := (Array.getElem?_eq_some_iff.1 h).1
theorem Sl.chg {F : List Nat} {w w' : World} {size : Nat} {a : Option Addr} {n c : Nat} {xs : List Value} (h : Sl w size a n c xs) (hc : Chg F w w') (hd : ∀ k ∈ ob a, k ∉ F) : Sl w' size a n c xs := by
  obtain ⟨h1, h2, h3, h4⟩ := h
  refine ⟨h1, h2, h3, ?_⟩
  rcases h4 with h4 | ⟨b, rfl, hx⟩
  · exact .inl h4
  · refine .inr ⟨b, rfl, fun j u hu => ?_⟩
    have hj := hx j u hu
    have hb : (b.add j).block = b.block := by unfold Addr.add; split <;> rfl
    have : w'.cell? (b.add j) = w.cell? (b.add j) := World.cell?_of_block (by rw [hb]; exact hc.block _ (by rw [← hb]; exact World.block_lt_of_cell? w _ hj) (hd _ (by simp [ob])))
    rw [this]; exact hj
/-- the only block of a one-block store -/
theorem heap_setCell1 {w : World} {b : Nat} {x y : Value} {t : TypeId} (h : w.heap[b]? = some (.cells #[x] t (0, 0))) : (w.setCell ⟨b, 0, none⟩ y).heap[b]? = some (.cells #[y] t (0, 0)) := by
  rw [heap_setCell_same w b 0 #[x] t y h]; rfl
end Go.Proofs.Ytblahapjdgncfaa
