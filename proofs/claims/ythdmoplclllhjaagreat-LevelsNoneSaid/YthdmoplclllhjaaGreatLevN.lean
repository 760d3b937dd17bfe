/- varvelaw47.LevelsNone: the law's walk. -/
import Derived.Test.YthdmoplclllhjaaGreatLevL
import Derived.Test.YthdmoplclllhjaaGreatGraS
namespace Go.Proofs.YthdmoplclllhjaaGreat
open Go.RowKit
set_option linter.unusedVariables false
set_option linter.unusedSimpArgs false

/-- the law's three blocks -/
structure NlE (w wr : World) (C : Array Value) : Prop where
  b0 : wr.heap[w.heap.size]? = some (.cells C 41 (0, 0))
  b1 : wr.heap[w.heap.size + 1]? = some (.cells #[.int .u64 0, .slice none 0 0, .slice none 0 0, .int .u64 0, .slice none 0 0, .map none, .slice none 0 0] 79 (0, 0))
  b2 : wr.heap[w.heap.size + 2]? = some (.cells #[.pointer none, .pointer (some ⟨w.heap.size + 1, 0, none⟩)] 33 (0, 0))
  bel : Below w.heap.size w wr
theorem NlE.step {w wr w' : World} {C : Array Value} (h : NlE w wr C) (hb : Below wr.heap.size wr w') : NlE w w' C :=
  ⟨(hb.block _ (heap_lt h.b0)).trans h.b0, (hb.block _ (heap_lt h.b1)).trans h.b1, (hb.block _ (heap_lt h.b2)).trans h.b2, below2 h.bel hb h.bel.size⟩
theorem NlE.at_ {w wr : World} {C : Array Value} (h : NlE w wr C) {q : Nat} (hq : q < 2) : ∃ p, wr.cell? ⟨w.heap.size + 2, q, none⟩ = some (.pointer p) ∧ NoG wr (.pointer p) := by
  have h2 := cells_at h.b2 q
  match q, hq with
  | 0, _ => exact ⟨none, h2, .inl rfl⟩
  | 1, _ => exact ⟨_, h2, .inr ⟨_, rfl, by rw [cells_at h.b1 5]; rfl⟩⟩
set_option maxRecDepth 100000 in
set_option maxHeartbeats 8000000 in
theorem levelsNone_walk (r i s : Int) (w : World) : Calls Tryz.prog 11 #[.agg #[.int .u8 r, .int .u32 i, .int .u64 s]] w fun e w' => e = .returned (.bool true) ∧ Below w.heap.size w w' := by
  go_enter Tryz.func11, Tryz.ntmps11
  go_wp2_with fail
  go_loopw [10] (fun j wr => ∃ q : Nat, q ≤ 2 ∧ j = .int .i64 q ∧ NlE w wr #[.int .u8 r, .int .u32 i, .int .u64 s]) (fun j _ => 2 - (intOf j).toNat)
  case atStart =>
    exact ⟨0, by decide, rfl, ⟨(heap_old _ _ (by simp <;> omega)).trans ((heap_old _ _ (by simp <;> omega)).trans (heap_new _ _)), (heap_old _ _ (by simp <;> omega)).trans (heap_new2 _ _ _), heap_new3 _ _ _ _, (((Below.refl _ _).alloc (Nat.le_refl _) _).alloc (by simp) _).alloc (by simp <;> omega) _⟩⟩
  case round =>
    obtain ⟨q, hq, rfl, hE⟩ := hrel
    have E := Lib.hid hE
    by_cases hlt : q < 2
    · obtain ⟨g, hg, hno⟩ := hE.at_ hlt
      have NO := Lib.hid hno
      have d0 := cells_at hE.b0
      have z0 := heap_lt hE.b0
      clear hno hE
      go_wp2_with fail
      refine (besideL_no _ _ NO.out r i s).mono ?_
      rintro e w1 ⟨rfl, hb⟩
      replace E := Lib.hid (E.out.step hb)
      replace NO := Lib.hid (NO.out.below hb)
      clear hb d0 z0
      go_wp2_with fail
      refine (levels_no _ _ NO.out).mono ?_
      rintro e w2 ⟨a2, c2, rfl, hb⟩
      replace E := Lib.hid (E.out.step hb)
      replace NO := Lib.hid (NO.out.below hb)
      clear hb
      go_wp2_with fail
      refine (chain_no _ _ NO.out).mono ?_
      rintro e w3 ⟨rfl, hb⟩
      replace E := Lib.hid (E.out.step hb)
      replace NO := Lib.hid (NO.out.below hb)
      clear hb
      go_wp2_with fail
      refine (pairs_no _ _ NO.out).mono ?_
      rintro e w4 ⟨rfl, hb⟩
      replace E := Lib.hid (E.out.step hb)
      replace NO := Lib.hid (NO.out.below hb)
      clear hb
      go_wp2_with fail
      refine (width_no _ _ NO.out).mono ?_
      rintro e w5 ⟨rfl, hb⟩
      replace E := Lib.hid (E.out.step hb)
      clear hb NO
      go_wp2_with fail
      go_roundw
      case rel => exact ⟨q + 1, by omega, by go_num, E.out⟩
      case measure => simp [intOf]; omega
    · clear hE
      go_wp2_with fail
      refine (known47_any _).mono ?_
      rintro e w1 ⟨rfl, hb⟩
      have HB := Lib.hid (E.out.step hb).bel
      clear hb
      go_wp2_with fail
      go_ret
      exact ⟨rfl, HB.out⟩
end Go.Proofs.YthdmoplclllhjaaGreat
