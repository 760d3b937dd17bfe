/- known of law 17. -/
import Derived.Test.YtblahapjdgncfaaMatH
import Derived.Test.YtblahapjdgncfaaVec4
namespace Go.Proofs.Ytblahapjdgncfaa
open Go.RowKit
set_option linter.unusedVariables false
set_option linter.unusedSimpArgs false

abbrev AllB : Nat → Prop := fun _ => True
/-- a matrix of the law's own, made behind w -/
structure MatE (w wr : World) (pm n : Nat) (R : Mx) : Prop where
  mat : MatR wr AllB pm n R
  ok : okR n R
  ge : w.heap.size ≤ pm
  below : Below w.heap.size w wr
theorem MatE.step {w wr w' : World} {pm n : Nat} {R : Mx} (h : MatE w wr pm n R) (hb : Below wr.heap.size wr w') : MatE w w' pm n R :=
  ⟨h.mat.below hb, h.ok, h.ge, h.below.trans (hb.mono h.below.size)⟩
theorem MatE.take {w wr w' : World} {pm n : Nat} {R : Mx} {a : Ak} (h : MatE w wr pm n R) (ha : okAk a) {F : Nat → Prop} (hm : MatR w' F pm n (nextM n R a)) (hc : Chg [pm] wr w') : MatE w w' pm n (nextM n R a) :=
  ⟨hm.mono (fun _ _ => trivial), okR_next h.ok ha, h.ge, h.below.trans (hc.below h.below.size (by simpa using h.ge))⟩
/-- an acknowledgement by value -/
structure AckE (w : World) (a : Ak) (ai : Option Addr) (ci : Nat) (av : Option Addr) (cv : Nat) : Prop where
  hi : U32 w ai ci a.incs
  hv : Vec w av cv a.vv
theorem ok_ack {rep a b : Int} (h0 : 0 ≤ rep) (h1 : rep ≤ 255) (ha : 0 ≤ a ∧ a ≤ 1000) (hb : 0 ≤ b ∧ b ≤ 1000) : okAk ⟨rep, 1, [1, 1], ackV a b 2⟩ := by
  refine ⟨⟨⟨h0, h1⟩, by simp⟩, ?_, ?_⟩
  · intro x hx; simp at hx; subst hx; decide
  · intro d hd
    simp only [ackV, one, List.mem_append] at hd
    rcases hd with hd | hd <;> split at hd <;> simp at hd <;> subst hd <;> simp [okD, okA] <;> omega
theorem ackV_length (a b : Int) : (ackV a b 2).length ≤ 2 := by
  simp only [ackV, one, List.length_append]; split <;> split <;> simp
def kn0 : Ak := ⟨0, 1, [1, 1], ackV 3 2 2⟩
def kn1 : Ak := ⟨1, 1, [1, 1], ackV 1 5 2⟩
def kn2 : Ak := ⟨1, 1, [1, 1], ackV 0 5 2⟩
def knR1 : Mx := nextM (2 : Nat) newR kn0
def knR2 : Mx := nextM (2 : Nat) knR1 kn1
def knR3 : Mx := nextM (2 : Nat) knR2 kn2
theorem kn_a : takesM (2 : Nat) newR kn0 = true := by decide +kernel
theorem kn_b : stableM (2 : Nat) knR1 [1, 1] = none := by decide +kernel
theorem kn_c : takesM (2 : Nat) knR1 kn1 = true := by decide +kernel
theorem kn_d : takesM (2 : Nat) knR2 kn2 = false := by decide +kernel
theorem kn_f : stableM (2 : Nat) knR3 [1, 1] = some (ackV 1 2 2) := by decide +kernel
theorem u32_blk {w : World} {b n : Nat} {C : Array Value} {l : List Int} {fr : Nat × Nat} (h : w.heap[b]? = some (.cells C 29 fr)) (hc : C.toList = ucells l) (hn : l.length = n) (hm : n ≤ 1000) : U32 w (some ⟨b, 0, none⟩) n l := by
  subst hn
  unfold U32
  rw [← hc]
  exact Sl.blk h (by rw [← Array.length_toList, hc, ucells_length, Nat.mul_one]) (Nat.le_trans hm (by decide))

set_option maxRecDepth 100000 in
set_option maxHeartbeats 4000000 in
theorem known17_any (w : World) : Calls Try.prog 32 #[] w fun e w' => e = .returned (.bool true) ∧ Below w.heap.size w w' := by
  go_enter Try.func32, Try.ntmps32
  go_wp2_with fail
  refine (new_any 2 w).mono ?_
  rintro e w1 (⟨h, _⟩ | ⟨_, rfl, hM, hB⟩)
  · exact absurd (by decide) h
  have E := Lib.hid (⟨hM.mono (fun _ _ => trivial), okR_new _, Nat.le_refl _, hB⟩ : MatE w w1 w.heap.size 2 newR)
  clear hM hB
  go_wp2_with fail
  refine (ack_any 0 3 2 _).mono ?_
  rintro e w20 ⟨ai0, ci0, av0, cv0, rfl, ho3, ho4, hb2⟩
  dsimp only at ho3 ho4
  replace E := Lib.hid (E.out.step hb2)
  have A := Lib.hid (⟨u32_of ho3, vec_of ho4⟩ : AckE w20 kn0 ai0 ci0 av0 cv0)
  clear ho3 ho4 hb2
  go_wp2_with fail
  refine (take_any 0 1 ai0 av0 ci0 cv0 [1, 1] kn0.vv w.heap.size 2 newR AllB _ E.out.mat E.out.ok A.out.hi A.out.hv (by omega) (ok_ack (rep := 0) (by decide) (by decide) (by decide) (by decide)).2.2 (by decide) (Nat.le_trans (ackV_length _ _) (by decide))).mono ?_
  rintro e w30 ⟨rfl, hM, hc⟩
  rw [show takesM (2 : Nat) newR ⟨(0 : Nat), 1, [1, 1], kn0.vv⟩ = true from kn_a]
  replace E := Lib.hid (E.out.take (a := kn0) (ok_ack (by decide) (by decide) (by decide) (by decide)) hM hc)
  clear hM hc A
  go_wp2_with fail
  have hs0 := heap_new w30 (.cells #[.int .u32 1, .int .u32 1] 29)
  replace E := Lib.hid (E.out.step ((Below.refl _ _).alloc (Nat.le_refl _) (.cells #[.int .u32 1, .int .u32 1] 29)))
  refine (stable_any (some ⟨w30.heap.size, 0, none⟩) 2 [1, 1] w.heap.size 2 knR1 AllB _ E.out.mat E.out.ok (u32_blk hs0 rfl rfl (by decide)) (by decide)).mono ?_
  clear hs0
  rintro e w40 (⟨_, rfl, hb⟩ | ⟨v, hv, _⟩)
  case inr => have h0 : stableM (2 : Nat) knR1 [1, 1] = none := kn_b
              rw [h0] at hv; cases hv
  replace E := Lib.hid (E.out.step hb)
  clear hb
  go_wp2_with fail
  refine (ack_any 1 1 5 _).mono ?_
  rintro e w21 ⟨ai1, ci1, av1, cv1, rfl, ho3, ho4, hb2⟩
  dsimp only at ho3 ho4
  replace E := Lib.hid (E.out.step hb2)
  have A := Lib.hid (⟨u32_of ho3, vec_of ho4⟩ : AckE w21 kn1 ai1 ci1 av1 cv1)
  clear ho3 ho4 hb2
  go_wp2_with fail
  refine (take_any 1 1 ai1 av1 ci1 cv1 [1, 1] kn1.vv w.heap.size 2 knR1 AllB _ E.out.mat E.out.ok A.out.hi A.out.hv (by omega) (ok_ack (rep := 1) (by decide) (by decide) (by decide) (by decide)).2.2 (by decide) (Nat.le_trans (ackV_length _ _) (by decide))).mono ?_
  rintro e w31 ⟨rfl, hM, hc⟩
  rw [show takesM (2 : Nat) knR1 ⟨(1 : Nat), 1, [1, 1], kn1.vv⟩ = true from kn_c]
  replace E := Lib.hid (E.out.take (a := kn1) (ok_ack (by decide) (by decide) (by decide) (by decide)) hM hc)
  clear hM hc A
  go_wp2_with fail
  refine (ack_any 1 0 5 _).mono ?_
  rintro e w22 ⟨ai2, ci2, av2, cv2, rfl, ho3, ho4, hb2⟩
  dsimp only at ho3 ho4
  replace E := Lib.hid (E.out.step hb2)
  have A := Lib.hid (⟨u32_of ho3, vec_of ho4⟩ : AckE w22 kn2 ai2 ci2 av2 cv2)
  clear ho3 ho4 hb2
  go_wp2_with fail
  refine (take_any 1 1 ai2 av2 ci2 cv2 [1, 1] kn2.vv w.heap.size 2 knR2 AllB _ E.out.mat E.out.ok A.out.hi A.out.hv (by omega) (ok_ack (rep := 1) (by decide) (by decide) (by decide) (by decide)).2.2 (by decide) (Nat.le_trans (ackV_length _ _) (by decide))).mono ?_
  rintro e w32 ⟨rfl, hM, hc⟩
  rw [show takesM (2 : Nat) knR2 ⟨(1 : Nat), 1, [1, 1], kn2.vv⟩ = false from kn_d]
  replace E := Lib.hid (E.out.take (a := kn2) (ok_ack (by decide) (by decide) (by decide) (by decide)) hM hc)
  clear hM hc A
  go_wp2_with fail
  have hs2 := heap_new w32 (.cells #[.int .u32 1, .int .u32 1] 29)
  replace E := Lib.hid (E.out.step ((Below.refl _ _).alloc (Nat.le_refl _) (.cells #[.int .u32 1, .int .u32 1] 29)))
  refine (stable_any (some ⟨w32.heap.size, 0, none⟩) 2 [1, 1] w.heap.size 2 knR3 AllB _ E.out.mat E.out.ok (u32_blk hs2 rfl rfl (by decide)) (by decide)).mono ?_
  clear hs2
  rintro e w42 (⟨hv, _⟩ | ⟨v, hv, a5, c5, rfl, ho5, hb⟩)
  · have h0 : stableM (2 : Nat) knR3 [1, 1] = some (ackV 1 2 2) := kn_f
    rw [h0] at hv; cases hv
  obtain rfl : v = ackV 1 2 2 := by
    have h0 : stableM (2 : Nat) knR3 [1, 1] = some (ackV 1 2 2) := kn_f
    rw [h0] at hv; exact (Option.some.inj hv).symm
  replace E := Lib.hid (E.out.step hb)
  have V := Lib.hid (vec_of ho5)
  clear hb hv ho5
  go_wp2_with fail
  refine (ack_any 0 1 2 _).mono ?_
  rintro e w6 ⟨ai6, ci6, av6, cv6, rfl, ho3, ho4, hb2⟩
  dsimp only at ho3 ho4
  replace E := Lib.hid (E.out.step hb2)
  replace V := Lib.hid (Vec.keep V.out hb2)
  have A := Lib.hid (vec_of ho4)
  clear ho3 ho4 hb2
  go_wp2_with fail
  refine (same_any a5 av6 c5 cv6 (ackV 1 2 2) (ackV 1 2 2) _ V.out A.out (Nat.le_trans (ackV_length _ _) (by decide)) (Nat.le_trans (ackV_length _ _) (by decide))).mono ?_
  rintro e w7 ⟨rfl, hb⟩
  replace E := Lib.hid (E.out.step hb)
  clear hb
  go_wp2_with fail
  go_ret
  exact ⟨by simp, E.out.below⟩
end Go.Proofs.Ytblahapjdgncfaa
