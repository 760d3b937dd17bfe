/- The page's example ('known'). -/
import Derived.Test.YtkgbdgnfidpelaaBagI
namespace Go.Proofs.Ytkgbdgnfidpelaa
open Go.RowKit
set_option linter.unusedVariables false
set_option linter.unusedSimpArgs false

theorem Sl.of_block {w : World} {b n size : Nat} {C : Array Value} {t : TypeId} {fr : Nat × Nat} (h : w.heap[b]? = some (.cells C t fr)) (hs : C.size = n * size) (hn : n ≤ maxLen) : Sl w size (some ⟨b, 0, none⟩) n n C.toList :=
  ⟨by simpa using hs, Nat.le_refl _, hn, .inr ⟨_, rfl, World.news_of_block h⟩⟩

/-- a string of bytes -/
def strOf (bs : List UInt8) : ByteArray := ⟨bs.toArray⟩
theorem strOf_size (bs : List UInt8) : (strOf bs).size = bs.length := by simp [strOf, ByteArray.size]
theorem strOf_toList (bs : List UInt8) : (strOf bs).toList = bs := ByteArray.toList_mk bs
attribute [go_sem] strOf_toList
theorem conv_str {w : World} {a : Option Addr} {n c : Nat} {bs : List UInt8} (h : Sl w 1 a n c (u8s bs)) : (convert 24 9 (.slice a n c)).run Try.prog w = .ok (.string (strOf bs)) w := by
  rw [run_convert_bytes_string w _ _ 5 a n c Try.underlying24 Try.underlying5 Try.underlying9]
  obtain ⟨h1, h2, h3, ⟨rfl, rfl, rfl⟩ | ⟨b, rfl, hx⟩⟩ := h
  · have : bs = [] := by simpa [u8s] using h1
    subst this
    rfl
  · have hlen : n = bs.length := by rw [u8s_length] at h1; omega
    have hl : (loadCells b n).run Try.prog w = .ok ((bs.map fun x => (x.toNat : Int)).map (Value.int .u8)).toArray w := by
      have := run_firstCells_some (P := Try.prog) w 1 n b n c (u8s bs) h1 hx
      simp only [Builtin.firstCells, Nat.mul_one] at this
      rw [this]; simp [u8s, Function.comp_def]
    rw [run_bytesToString w b n c _ hl, foldl_push_bytes]
    congr 2
    simp [strOf]
    have e : ((fun n : Int => UInt8.ofNat n.toNat) ∘ fun x : UInt8 => (x.toNat : Int)) = id := by funext x; simp
    rw [e]; simp

theorem all_cells {w : World} {B : Nat} {N : List Ml} {oa : Option Addr} {oc i : Nat} {x : Ml} (h : AllAt w B N oa oc) (hx : N[i]? = some x) : ∃ g, oa = some ⟨g, 0, none⟩ ∧ w.cell? ⟨g, i * 2, none⟩ = some (.int .u8 x.1.t) ∧ w.cell? ⟨g, i * 2 + 1, none⟩ = some (.slice x.2.1 x.1.b.length x.2.2) := by
  have hi : i < N.length := by
    rcases Nat.lt_or_ge i N.length with h | h
    · exact h
    · rw [List.getElem?_eq_none h] at hx; cases hx
  have key : ∀ (N : List Ml) (i : Nat), N[i]? = some x → (acells N)[i * 2]? = some (.int .u8 x.1.t) ∧ (acells N)[i * 2 + 1]? = some (.slice x.2.1 x.1.b.length x.2.2) := by
    intro N
    induction N with
    | nil => intro i h; simp at h
    | cons y N ih =>
      intro i h
      cases i with
      | zero => simp at h; subst h; simp [acells, acell]
      | succ i =>
        simp at h
        have := ih i h
        have e : ∀ k, (acells (y :: N))[(i + 1) * 2 + k]? = (acells N)[i * 2 + k]? := fun k => by
          simp only [acells, List.flatMap_cons]
          rw [List.getElem?_append_right (by simp [acell]; omega)]
          congr 1
          simp [acell]; omega
        have e0 := e 0
        simp only [Nat.add_zero] at e0
        rw [e0, e 1]; exact this
  obtain ⟨k1, k2⟩ := key N i hx
  rcases h.row.2 with ⟨h1, h2⟩ | ⟨g, cap, cur, h1, _⟩
  · omega
  · simp at h1
    obtain ⟨rfl, rfl⟩ := h1
    exact ⟨g, rfl, (h.row.cellAt _ (by omega)).trans k1, (h.row.cellAt _ (by omega)).trans k2⟩

theorem BagTo.step {w0 w w' : World} {pb : Nat} {F : List Nat} {L : List Lt} (h : BagTo w pb F L w') (hF : ∀ k ∈ F, w0.heap.size ≤ k) (hB : Below w0.heap.size w0 w) : ∃ F', BagR w' pb L F' ∧ (∀ k ∈ F', w0.heap.size ≤ k) ∧ Below w0.heap.size w0 w' := by
  obtain ⟨F', h1, h2, h3⟩ := h
  have := hB.size
  exact ⟨F', h1, fun k hk => (h2 k hk).elim (hF k) (fun h => by omega), hB.trans (h3.below (by omega) hF)⟩
theorem BagR.alloc {w : World} {pb : Nat} {L : List Lt} {F : List Nat} (h : BagR w pb L F) (o : Obj) : BagR (w.alloc o) pb L F := h.chg (Chg.alloc [] w o) (by simp)

set_option maxHeartbeats 2000000 in
theorem known_any (w : World) : Calls Try.prog 7 #[] w fun e w' => e = .returned (.bool true) ∧ Below w.heap.size w w' := by
  have kc := fun (w : World) (C : Array Value) (n c : Nat) => Lib.run_convert_bytes_const (P := Try.prog) w 24 5 C n c Try.underlying24 Try.underlying5
  go_enter Try.func7, Try.ntmps7
  go_wp2_with fail
  refine (new_R _).mono ?_
  rintro e w1 ⟨rfl, hR1, hB1⟩
  have hs1 : w.heap.size < w1.heap.size := hR1.lt _ (by simp)
  go_wp2_with fail
  refine (put_R w.heap.size 1 [97] _ 1 1 _ [] [w.heap.size] rfl (Sl.of_block (C := #[.int .u8 97]) (heap_new _ _) rfl (by decide)) (by decide) (hR1.alloc _) (by simp)).mono ?_
  rintro e w2 ⟨rfl, hT2⟩
  obtain ⟨F2, hR2, hF2, hI2⟩ := hT2.step (w0 := w) (by simp) (hB1.alloc (by omega) _)
  clear hT2 hR1 hB1
  go_wp2_with fail
  refine (put_R w.heap.size 2 [98] _ 1 1 _ _ F2 rfl (Sl.of_block (C := #[.int .u8 98]) (heap_new _ _) rfl (by decide)) (by decide) (hR2.alloc _) (by simp)).mono ?_
  rintro e w3 ⟨rfl, hT3⟩
  obtain ⟨F3, hR3, hF3, hI3⟩ := hT3.step (w0 := w) hF2 (hI2.alloc (by have := hI2.size; omega) _)
  clear hT3 hR2 hI2 hF2
  go_wp2_with fail
  refine (double_R w.heap.size 0 _ _ F3 ⟨1, [97], false⟩ hR3 rfl (by simp) (by simp)).mono ?_
  rintro e w4 ⟨rfl, hT4⟩
  obtain ⟨F4, hR4, hF4, hI4⟩ := hT4.step (w0 := w) hF3 hI3
  clear hT4 hR3 hI3 hF3
  go_wp2_with fail
  refine (take_R w.heap.size 0 _ _ F4 ⟨1, [97], false⟩ hR4 rfl (by simp)).mono ?_
  rintro e w5 ⟨xa, xc, F5, rfl, hR5, hF5, hxa, hxo, hC5⟩
  have hI5 : Below w.heap.size w w5 := hI4.trans (hC5.below (by have := hI4.size; omega) hF4)
  have hF5' : ∀ k ∈ F5, w.heap.size ≤ k := fun k hk => hF4 k (hF5 k hk)
  have hL5 : ((([] ++ [(⟨1, [97], false⟩ : Lt)] ++ [(⟨2, [98], false⟩ : Lt)]) ++ [(⟨1, [97], false⟩ : Lt)]).eraseIdx 0) = [(⟨2, [98], false⟩ : Lt), (⟨1, [97], false⟩ : Lt)] := rfl
  rw [hL5] at hR5
  simp only [List.length_cons, List.length_nil, Nat.zero_add] at hxo
  clear hL5 hR4 hI4 hF4 hF5 hC5 hxa
  go_wp2_with fail
  refine (all_R w.heap.size _ _ F5 (hR5.alloc _) (by simp) (by simp)).mono ?_
  rintro e w6 ⟨N, oa, oc, rfl, hN, hA, hB6⟩
  obtain ⟨x0, x1, rfl⟩ : ∃ x0 x1, N = [x0, x1] := by
    clear hA
    rcases N with _ | ⟨x0, _ | ⟨x1, _ | ⟨x2, N⟩⟩⟩ <;> simp at hN
    exact ⟨x0, x1, rfl⟩
  simp at hN
  obtain ⟨hx0, hx1⟩ := hN
  obtain ⟨g, rfl, a00, a01⟩ := all_cells (i := 0) hA rfl
  obtain ⟨g', hg', a10, a11⟩ := all_cells (i := 1) hA rfl
  simp at hg'
  subst hg'
  simp only [hx0, hx1] at a00 a10
  simp at a00 a10
  obtain ⟨hX, hs6, hB6'⟩ := new1 hB6
  have cX := cells_at hX
  have hI6 : Below w.heap.size w w6 := hI5.trans (hB6'.mono (by have := hI5.size; omega))
  have hR6 : BagR w6 w.heap.size [⟨2, [98], false⟩, ⟨1, [97], false⟩] F5 := hR5.chg (Chg.of_below (F := []) hB6') (by simp)
  have hcv := conv_str (bs := [97]) (Sl.of_owns (owns_chg hxo (Chg.of_below (F := []) hB6') (by simp)))
  clear hA a01 a11 hX hxo hR5 hI5 hB6 hB6' hx0 hx1
  have hmc1 : mayChange [(⟨2, [98], false⟩ : Lt), ⟨1, [97], false⟩] 0 0 1 = true := by decide
  have hmc2 : mayChange (doChange [(⟨2, [98], false⟩ : Lt), ⟨1, [97], false⟩] 0 0 1) 0 0 1 = false := by decide
  have Hm1 := Lib.hid hmc1
  have Hm2 := Lib.hid hmc2
  clear hmc1 hmc2
  go_wp2_with (go_at_call 12; refine (len_R _ _ _ F5 hR6).mono ?_; rintro e w' ⟨rfl, rfl⟩)
  refine (change_R w.heap.size 0 0 1 _ _ F5 hR6 (by decide) (by decide) (by simp) (by simp)).mono ?_
  rintro e w7 ⟨he, hT7⟩
  rw [Hm1.out] at he hT7
  subst he
  obtain ⟨F7, hR7, hF7, hI7⟩ := hT7.step (w0 := w) hF5' hI6
  simp only [if_true] at hR7
  clear hT7 hR6 hI6
  go_wp2_with fail
  refine (change_R w.heap.size 0 0 1 _ _ F7 hR7 (by decide) (by decide) (by decide) (by decide)).mono ?_
  rintro e w8 ⟨he, hT8⟩
  rw [Hm2.out] at he hT8
  subst he
  obtain ⟨F8, hR8, hF8, hI8⟩ := hT8.step (w0 := w) hF7 hI7
  clear hT8 hR7 hI7
  go_wp2_with fail
  go_ret
  exact ⟨rfl, hI8⟩
end Go.Proofs.Ytkgbdgnfidpelaa
