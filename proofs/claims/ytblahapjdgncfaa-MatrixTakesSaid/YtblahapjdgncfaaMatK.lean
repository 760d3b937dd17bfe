/- The reference's matrix in memory (varveref17): a list of acknowledgements, the newest last; Row. -/
import Derived.Test.YtblahapjdgncfaaEpoF
import Derived.Test.YtblahapjdgncfaaEpoC
namespace Go.Proofs.Ytblahapjdgncfaa
open Go.RowKit
set_option linter.unusedVariables false
set_option linter.unusedSimpArgs false

/-- the last one of a replica -/
def rowL (L : List Ak) (r : Int) : Option Ak := L.reverse.find? fun a => a.r == r
theorem rowL_none {L : List Ak} {r : Int} (h : ∀ a ∈ L, a.r ≠ r) : rowL L r = none := by
  unfold rowL
  rw [List.find?_eq_none]
  intro a ha
  simpa using h a (by simpa using ha)
theorem rowL_snoc (L : List Ak) (a : Ak) (r : Int) : rowL (L ++ [a]) r = if a.r = r then some a else rowL L r := by
  unfold rowL
  rw [List.reverse_append, List.reverse_singleton, List.singleton_append, List.find?_cons]
  by_cases h : a.r = r
  · simp [h]
  · rw [show (a.r == r) = false by simpa using h, if_neg h]
theorem rowL_some {L : List Ak} {r : Int} {j : Nat} {a : Ak} (ha : L[j]? = some a) (hr : a.r = r) (h : ∀ b ∈ L.drop (j + 1), b.r ≠ r) : rowL L r = some a := by
  have hj : j < L.length := (List.getElem?_eq_some_iff.1 ha).1
  have e : L = (L.take j ++ [a]) ++ L.drop (j + 1) := by rw [← take_snoc' ha, List.take_append_drop]
  rw [e]
  unfold rowL
  rw [List.reverse_append, List.find?_append]
  have h1 : (L.drop (j + 1)).reverse.find? (fun a => a.r == r) = none := by
    rw [List.find?_eq_none]; intro b hb; simpa using h b (by simpa using hb)
  rw [h1, Option.none_or, List.reverse_append, List.reverse_singleton, List.singleton_append, List.find?_cons]
  simp [hr]

def RefRd (w : World) (F : Nat → Prop) (pw : Nat) (cs : List Value) (a : Ak) : Prop :=
  ∃ ai ci av cv, cs = [.int .u8 a.r, .int .u32 a.i, .slice ai a.incs.length ci, .slice av a.vv.length cv] ∧ U32 w ai ci a.incs ∧ Vec w av cv a.vv ∧ ∀ k ∈ ob ai ++ ob av, F k ∧ k ≠ pw
structure RefAt (w : World) (F : Nat → Prop) (pw n : Nat) (L : List Ak) (la : Option Addr) (lc : Nat) : Prop where
  blk : w.heap[pw]? = some (.cells #[.int .i64 n, .slice la L.length lc] 65 (0, 0))
  rd : RdL w 4 (RefRd w F pw) la L.length lc L
  hF : F pw
  hla : ∀ k ∈ ob la, F k ∧ k ≠ pw
/-- the reference's matrix of n at pw has taken L, within F -/
def RefR (w : World) (F : Nat → Prop) (pw n : Nat) (L : List Ak) : Prop := ∃ la lc, RefAt w F pw n L la lc
theorem RefAt.chg {w w' : World} {F : Nat → Prop} {pw n : Nat} {L : List Ak} {la : Option Addr} {lc : Nat} {G : List Nat} (h : RefAt w F pw n L la lc) (hc : Chg G w w') (hG : ∀ k ∈ G, ¬ F k) : RefAt w' F pw n L la lc := by
  refine ⟨heap_chg h.blk hc (fun hg => hG _ hg h.hF), ?_, h.hF, h.hla⟩
  obtain ⟨h1, h2, h3, h4, h5⟩ := h.rd
  refine ⟨h1, h2, h3, h4, fun i y hy => ?_⟩
  obtain ⟨ad, cs, h6, h7, h8, ai, ci, av, cv, rfl, hi, hv, hf⟩ := h5 i y hy
  refine ⟨ad, _, h6, h7, fun j hj => ?_, ai, ci, av, cv, rfl, Sl.chg hi hc (fun k hk hg => hG k hg (hf k (by simp [hk])).1), Sl.chg hv hc (fun k hk hg => hG k hg (hf k (by simp [hk])).1), hf⟩
  have := h8 j hj
  rw [← this]
  have hj4 : ([Value.int .u8 y.r, .int .u32 y.i, .slice ai y.incs.length ci, .slice av y.vv.length cv])[j]? = some (([Value.int .u8 y.r, .int .u32 y.i, .slice ai y.incs.length ci, .slice av y.vv.length cv])[j]'(by simpa using hj)) := by simp [hj]
  have hlt := World.block_lt_of_cell? w _ (this.trans hj4)
  have hb : (ad.add (i * 4 + j)).block = ad.block := by unfold Addr.add; split <;> rfl
  refine World.cell?_of_block (hc.block _ hlt (fun hg => hG _ hg ?_))
  rw [hb]; exact (h.hla _ (by rw [h6]; simp [ob])).1
theorem RefR.chg {w w' : World} {F : Nat → Prop} {pw n : Nat} {L : List Ak} {G : List Nat} (h : RefR w F pw n L) (hc : Chg G w w') (hG : ∀ k ∈ G, ¬ F k) : RefR w' F pw n L := by
  obtain ⟨la, lc, h⟩ := h
  exact ⟨la, lc, h.chg hc hG⟩
theorem RefR.below {w w' : World} {F : Nat → Prop} {pw n : Nat} {L : List Ak} (h : RefR w F pw n L) (hb : Below w.heap.size w w') : RefR w' F pw n L := h.chg (G := []) (Chg.of_below hb) (by simp)
theorem RefAt.below {w w' : World} {F : Nat → Prop} {pw n : Nat} {L : List Ak} {la : Option Addr} {lc : Nat} (h : RefAt w F pw n L la lc) (hb : Below w.heap.size w w') : RefAt w' F pw n L la lc := h.chg (G := []) (Chg.of_below hb) (by simp)
structure RefCell (w : World) (b : Addr) (y : Ak) (ai : Option Addr) (ci : Nat) (av : Option Addr) (cv : Nat) : Prop where
  c0 : w.cell? b = some (.int .u8 y.r)
  c1 : w.cell? ⟨b.block, b.off + 1, none⟩ = some (.int .u32 y.i)
  c2 : w.cell? ⟨b.block, b.off + 2, none⟩ = some (.slice ai y.incs.length ci)
  c3 : w.cell? ⟨b.block, b.off + 3, none⟩ = some (.slice av y.vv.length cv)
  hi : U32 w ai ci y.incs
  hv : Vec w av cv y.vv
theorem RefAt.at {w : World} {F : Nat → Prop} {pw n : Nat} {L : List Ak} {la : Option Addr} {lc : Nat} (h : RefAt w F pw n L la lc) {k : Nat} {y : Ak} (hy : L[k]? = some y) : ∃ ad ai ci av cv, la = some ad ∧ RefCell w (ad.add (k * 4)) y ai ci av cv ∧ ad.block < w.heap.size := by
  obtain ⟨_, _, _, _, h5⟩ := h.rd
  obtain ⟨ad, cs, rfl, hl, hc, ai, ci, av, cv, rfl, hi, hv, hf⟩ := h5 k y hy
  have g0 := hc 0 (by omega)
  have g1 := hc 1 (by omega)
  have g2 := hc 2 (by omega)
  have g3 := hc 3 (by omega)
  rw [Nat.add_zero] at g0
  rw [← Go.Deep.add_add] at g1 g2 g3
  refine ⟨ad, ai, ci, av, cv, rfl, ⟨g0, g1, g2, g3, hi, hv⟩, ?_⟩
  have := World.block_lt_of_cell? w _ g0
  have hb : (ad.add (k * 4)).block = ad.block := by unfold Addr.add; split <;> rfl
  rwa [hb] at this
end Go.Proofs.Ytblahapjdgncfaa
