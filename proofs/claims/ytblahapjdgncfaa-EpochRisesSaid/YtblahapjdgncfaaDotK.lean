/- The page's examples hold (varvelaw03.known). -/
import Derived.Test.YtblahapjdgncfaaDotJ
import Derived.Test.YtblahapjdgncfaaStrA
namespace Go.Proofs.Ytblahapjdgncfaa
open Go.RowKit
set_option linter.unusedVariables false
set_option linter.unusedSimpArgs false

theorem of_any (r i s : Int) (w : World) : Calls Try.prog 59 #[.int .u8 r, .int .u32 i, .int .u64 s] w fun e w' => e = .returned (.agg #[.int .u8 r, .int .u32 i, .int .u64 s]) ∧ w' = w.alloc (.cells #[.int .u8 r, .int .u32 i, .int .u64 s] 34) := by
  go_enter Try.func59, Try.ntmps59
  go_wp2
  exact bodyPost_ret (v := .agg #[.int .u8 r, .int .u32 i, .int .u64 s]) (by simp [results, Try.results59, go_sem]) rfl ⟨rfl, rfl⟩

theorem heap_eq (w : World) (o : Obj) (k : Nat) (h : k = w.heap.size) : (w.alloc o).heap[k]? = some o := by subst h; exact heap_new w o
theorem heap_ne (w : World) (o : Obj) (k : Nat) (h : k ≠ w.heap.size) : (w.alloc o).heap[k]? = w.heap[k]? := by
  by_cases h2 : k < w.heap.size
  · exact heap_old w o h2
  · rw [Array.getElem?_eq_none (by rw [World.size_alloc]; omega), Array.getElem?_eq_none (by omega)]
theorem vec_blk {w : World} {b n : Nat} {C : Array Value} {v : List Dt} (h : w.heap[b]? = some (.cells C 34 (0, 0))) (hc : C.toList = dcells v) (hn : v.length = n) (hm : n ≤ 1000) : Vec w (some ⟨b, 0, none⟩) n v := by
  subst hn
  unfold Vec
  rw [← hc]
  refine Sl.blk h ?_ (by unfold maxLen; omega)
  have := congrArg List.length hc
  rw [dcells_length] at this
  simpa using this
theorem Vec.keep {w w' : World} {a : Option Addr} {c : Nat} {v : List Dt} (h : Vec w a c v) (hb : Below w.heap.size w w') : Vec w' a c v := h.below hb
def kA : List Dt := [((0, 1), 3)]
def kB : List Dt := [((0, 1), 2), ((1, 1), 5)]
def kJ : List Dt := [((0, 1), 3), ((1, 1), 5)]
def kM : List Dt := [((0, 1), 2)]
theorem okK : okV kA ∧ okV kB ∧ okV kJ ∧ okV kM := by
  refine ⟨?_, ?_, ?_, ?_⟩ <;> intro d hd <;> simp [kA, kB, kJ, kM] at hd
  · subst hd; unfold okD okA; decide
  · rcases hd with rfl | rfl <;> (unfold okD okA; decide)
  · rcases hd with rfl | rfl <;> (unfold okD okA; decide)
  · subst hd; unfold okD okA; decide
theorem known_join : decide (joinV kA kB = kJ) = true := by decide +kernel
theorem known_meet : decide (meetV kA kB = kM) = true := by decide +kernel
theorem known_bytes : vecB (canonV kA) = [1, 0, 1, 3] := by
  have h : canonV kA = kA := by decide +kernel
  rw [h]
  simp [vecB, kA, dotsB, dotB, numB_small]

set_option maxHeartbeats 1000000 in
theorem known_any (w : World) : Calls Try.prog 9 #[] w fun e w' => e = .returned (.bool true) ∧ Below w.heap.size w w' := by
  go_enter Try.func9, Try.ntmps9
  go_wp2_with (go_at_call 59; refine (of_any _ _ _ _).mono ?_; rintro e w' ⟨rfl, rfl⟩)
  obtain ⟨okA', okB', okJ', okM'⟩ := okK
  refine (join_any _ _ _ _ kA kB _ (vec_blk (C := #[.int .u8 0, .int .u32 1, .int .u64 3]) ?b1 rfl rfl (by decide)) (vec_blk (C := #[.int .u8 0, .int .u32 1, .int .u64 2, .int .u8 1, .int .u32 1, .int .u64 5]) ?b2 rfl rfl (by decide)) okA' okB' (by decide) (by decide)).mono ?_
  case b1 => repeat (first | exact heap_eq _ _ _ (by simp only [World.size_alloc]) | refine (heap_ne _ _ _ (by simp only [World.size_alloc]; omega)).trans ?_)
  case b2 => repeat (first | exact heap_eq _ _ _ (by simp only [World.size_alloc]) | refine (heap_ne _ _ _ (by simp only [World.size_alloc]; omega)).trans ?_)
  rintro e w1 ⟨a1, c1, rfl, hown1, hB1⟩
  have hbA := (hB1.block (w.heap.size + 1) (by simp only [World.size_alloc]; omega)).trans (show _ = some (.cells #[.int .u8 0, .int .u32 1, .int .u64 3] 34 (0, 0)) by repeat (first | exact heap_eq _ _ _ (by simp only [World.size_alloc]) | refine (heap_ne _ _ _ (by simp only [World.size_alloc]; omega)).trans ?_))
  have hbB := (hB1.block (w.heap.size + 1 + 1 + 1 + 1) (by simp only [World.size_alloc]; omega)).trans (show _ = some (.cells #[.int .u8 0, .int .u32 1, .int .u64 2, .int .u8 1, .int .u32 1, .int .u64 5] 34 (0, 0)) by repeat (first | exact heap_eq _ _ _ (by simp only [World.size_alloc]) | refine (heap_ne _ _ _ (by simp only [World.size_alloc]; omega)).trans ?_))
  have hB : Below w.heap.size w w1 := ((((((Below.refl _ w).alloc (Nat.le_refl _) _).alloc (by simp only [World.size_alloc]; omega) _).alloc (by simp only [World.size_alloc]; omega) _).alloc (by simp only [World.size_alloc]; omega) _).alloc (by simp only [World.size_alloc]; omega) _).trans (hB1.mono (by simp only [World.size_alloc]; omega))
  have VA := Lib.hid (vec_blk (v := kA) (n := 1) hbA rfl rfl (by omega))
  have VB := Lib.hid (vec_blk (v := kB) (n := 2) hbB rfl rfl (by omega))
  have VJ := Lib.hid (vec_of hown1)
  have HB := Lib.hid hB
  have s1 := hB.size
  have hlJ : (joinV kA kB).length ≤ 64 := vecOf_length _
  clear hbA hbB hown1 hB1 hB
  go_wp2_with (go_at_call 59; refine (of_any _ _ _ _).mono ?_; rintro e w' ⟨rfl, rfl⟩)
  have hbl : Below w1.heap.size w1 (((w1.alloc (.cells #[.int .u8 0, .int .u32 1, .int .u64 3] 34)).alloc (.cells #[.int .u8 1, .int .u32 1, .int .u64 5] 34)).alloc (.cells #[.int .u8 0, .int .u32 1, .int .u64 3, .int .u8 1, .int .u32 1, .int .u64 5] 34)) := (((Below.refl _ _).alloc (Nat.le_refl _) _).alloc (by simp only [World.size_alloc]; omega) _).alloc (by simp only [World.size_alloc]; omega) _
  refine (same_any _ _ _ _ (joinV kA kB) kJ _ (VJ.out.below hbl) (vec_blk (C := #[.int .u8 0, .int .u32 1, .int .u64 3, .int .u8 1, .int .u32 1, .int .u64 5]) ?b1 rfl rfl (by decide)) (by omega) (by decide)).mono ?_
  case b1 => repeat (first | exact heap_eq _ _ _ (by simp only [World.size_alloc]) | refine (heap_ne _ _ _ (by simp only [World.size_alloc]; omega)).trans ?_)
  rintro e w2 ⟨rfl, hB2⟩
  rw [known_join]
  have hb2 : Below w1.heap.size w1 w2 := hbl.trans (hB2.mono (by simp only [World.size_alloc]; omega))
  have VA2 := Lib.hid (VA.out.below hb2)
  have VB2 := Lib.hid (VB.out.below hb2)
  have HB2 := Lib.hid (HB.out.trans (hb2.mono s1))
  have s2 := HB2.out.size
  clear hB2 hb2 hbl VA VB VJ HB hlJ
  go_wp2_with fail
  refine (meet_any _ _ _ _ kA kB _ VA2.out VB2.out okA' okB' (by decide) (by decide)).mono ?_
  rintro e w3 ⟨a3, c3, rfl, hown3, hB3⟩
  have VM := Lib.hid (vec_of hown3)
  have VA3 := Lib.hid (VA2.out.below hB3)
  have HB3 := Lib.hid (HB2.out.trans (hB3.mono s2))
  have s3 := HB3.out.size
  have hlM : (meetV kA kB).length ≤ 64 := vecOf_length _
  clear hown3 hB3 VA2 VB2 HB2
  go_wp2_with (go_at_call 59; refine (of_any _ _ _ _).mono ?_; rintro e w' ⟨rfl, rfl⟩)
  have hbl : Below w3.heap.size w3 ((w3.alloc (.cells #[.int .u8 0, .int .u32 1, .int .u64 2] 34)).alloc (.cells #[.int .u8 0, .int .u32 1, .int .u64 2] 34)) := ((Below.refl _ _).alloc (Nat.le_refl _) _).alloc (by simp only [World.size_alloc]; omega) _
  refine (same_any _ _ _ _ (meetV kA kB) kM _ (VM.out.below hbl) (vec_blk (C := #[.int .u8 0, .int .u32 1, .int .u64 2]) ?b1 rfl rfl (by decide)) (by omega) (by decide)).mono ?_
  case b1 => repeat (first | exact heap_eq _ _ _ (by simp only [World.size_alloc]) | refine (heap_ne _ _ _ (by simp only [World.size_alloc]; omega)).trans ?_)
  rintro e w4 ⟨rfl, hB4⟩
  rw [known_meet]
  have hb4 : Below w3.heap.size w3 w4 := hbl.trans (hB4.mono (by simp only [World.size_alloc]; omega))
  have VA4 := Lib.hid (VA3.out.below hb4)
  have HB4 := Lib.hid (HB3.out.trans (hb4.mono s3))
  have s4 := HB4.out.size
  clear hB4 hb4 hbl VA3 VM HB3 hlM
  go_wp2_with fail
  refine (bytes_any _ _ kA _ VA4.out okA' (by decide)).mono ?_
  rintro e w5 ⟨a5, c5, rfl, hown5, hB5⟩
  have hcv := conv_str (Sl.of_owns hown5)
  have HB5 := Lib.hid (HB4.out.trans (hB5.mono s4))
  rw [known_bytes] at hcv ⊢
  have hcv' : (convert 82 9 (.slice a5 4 c5)).run Try.prog w5 = .ok (.string ⟨#[1, 0, 1, 3]⟩) w5 := hcv
  simp only [List.length_cons, List.length_nil, Nat.reduceAdd]
  clear hcv
  clear hown5 hB5 HB4 VA4
  go_wp2_with fail
  go_ret
  exact ⟨rfl, HB5.out⟩
end Go.Proofs.Ytblahapjdgncfaa
