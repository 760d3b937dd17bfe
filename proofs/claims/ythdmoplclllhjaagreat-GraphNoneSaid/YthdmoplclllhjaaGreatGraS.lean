/- varvelaw12.GraphNone: the law's walk. -/
import Derived.Test.YthdmoplclllhjaaGreatGraR
namespace Go.Proofs.YthdmoplclllhjaaGreat
open Go.RowKit
set_option linter.unusedVariables false
set_option linter.unusedSimpArgs false

set_option maxRecDepth 100000 in
theorem sameTE (w : World) : Calls Tryz.prog 110 #[.slice none 0 0, .slice none 0 0] w fun e w' => e = .returned (.bool true) ∧ w' = w := by
  go_enter Tryz.func110, Tryz.ntmps110
  go_wp2_with fail
  refine wp_loop_rounds 1 ?_
  rw [rounds_succ]
  go_wp2_with fail
  go_ret
  exact ⟨rfl, rfl⟩
set_option maxRecDepth 100000 in
theorem sameBaseE (w : World) : Calls Tryz.prog 38 #[.agg (basecells 0 none 0 0 none 0 0 0 none 0 0), .agg (basecells 0 none 0 0 none 0 0 0 none 0 0)] w fun e w' => e = .returned (.bool true) ∧ Below w.heap.size w w' := by
  have hs : ∀ W : World, Calls Tryz.prog 33 #[.slice none 0 0, .slice none 0 0] W fun e w' => e = .returned (.bool true) ∧ Below W.heap.size W w' := fun W => same_any none none 0 0 [] [] W (Sl.nil _ _) (Sl.nil _ _) (by decide) (by decide)
  have Hs := Lib.hid hs
  clear hs
  go_enter Tryz.func38, Tryz.ntmps38
  go_wp2_with fail
  refine (Hs.out _).mono ?_
  rintro e w1 ⟨rfl, hb⟩
  obtain ⟨x0, x1, hz, hB⟩ := new2 hb
  have X0 := Lib.hid x0
  have X1 := Lib.hid x1
  have HB := Lib.hid hB
  have d0 := cells_at x0
  have d1 := cells_at x1
  clear x0 x1 hB hb
  go_wp2_with fail
  refine (Hs.out _).mono ?_
  rintro e w2 ⟨rfl, hb⟩
  replace X0 := Lib.hid ((hb.block _ (heap_lt X0.out)).trans X0.out)
  replace X1 := Lib.hid ((hb.block _ (heap_lt X1.out)).trans X1.out)
  replace HB := Lib.hid (below2 HB.out hb HB.out.size)
  clear hb d0 d1
  have d0 := cells_at X0.out
  have d1 := cells_at X1.out
  go_wp2_with fail
  refine (sameTE _).mono ?_
  rintro e w3 ⟨rfl, rfl⟩
  go_wp2_with fail
  go_ret
  exact ⟨rfl, HB.out⟩
/-- the law's three blocks -/
structure NoE (w wr : World) (C : Array Value) : Prop where
  b0 : wr.heap[w.heap.size]? = some (.cells C 46 (0, 0))
  b1 : wr.heap[w.heap.size + 1]? = some (.cells #[.int .u64 0, .slice none 0 0, .slice none 0 0, .int .u64 0, .slice none 0 0, .map none, .slice none 0 0] 79 (0, 0))
  b2 : wr.heap[w.heap.size + 2]? = some (.cells #[.pointer none, .pointer (some ⟨w.heap.size + 1, 0, none⟩)] 33 (0, 0))
  bel : Below w.heap.size w wr
theorem NoE.step {w wr w' : World} {C : Array Value} (h : NoE w wr C) (hb : Below wr.heap.size wr w') : NoE w w' C :=
  ⟨(hb.block _ (heap_lt h.b0)).trans h.b0, (hb.block _ (heap_lt h.b1)).trans h.b1, (hb.block _ (heap_lt h.b2)).trans h.b2, below2 h.bel hb h.bel.size⟩
theorem NoE.at_ {w wr : World} {C : Array Value} (h : NoE w wr C) {q : Nat} (hq : q < 2) : ∃ p, wr.cell? ⟨w.heap.size + 2, q, none⟩ = some (.pointer p) ∧ NoG wr (.pointer p) := by
  have h2 := cells_at h.b2 q
  match q, hq with
  | 0, _ => exact ⟨none, h2, .inl rfl⟩
  | 1, _ => exact ⟨_, h2, .inr ⟨_, rfl, by rw [cells_at h.b1 5]; rfl⟩⟩
set_option maxRecDepth 100000 in
set_option maxHeartbeats 8000000 in
theorem graphNone_walk (v : Cw) (w : World) : Calls Tryz.prog 6 #[.agg (cwcells v)] w fun e w' => e = .returned (.bool true) ∧ Below w.heap.size w w' := by
  obtain ⟨⟨⟨⟨r, i⟩, s⟩, ps, uu, t, ⟨k, n, x, p, ds⟩⟩, qa, qc, ua, uc, pa, pc, da, dc⟩ := v
  simp only [cwcells]
  go_enter Tryz.func6, Tryz.ntmps6
  go_wp2_with fail
  go_loopw [10] (fun j wr => ∃ q : Nat, q ≤ 2 ∧ j = .int .i64 q ∧ NoE w wr (ccells r i s qa ps.length qc ua uu.length uc t k pa p.length pc n x da ds.length dc)) (fun j _ => 2 - (intOf j).toNat)
  case atStart =>
    exact ⟨0, by decide, rfl, ⟨(heap_old _ _ (by simp <;> omega)).trans ((heap_old _ _ (by simp <;> omega)).trans (heap_new _ _)), (heap_old _ _ (by simp <;> omega)).trans (heap_new2 _ _ _), heap_new3 _ _ _ _, (((Below.refl _ _).alloc (Nat.le_refl _) _).alloc (by simp) _).alloc (by simp <;> omega) _⟩⟩
  case round =>
    obtain ⟨q, hq, rfl, hE⟩ := hrel
    have E := Lib.hid hE
    by_cases hlt : q < 2
    · obtain ⟨g, hg, hno⟩ := hE.at_ hlt
      have NO := Lib.hid hno
      have d0 := cells_at hE.b0
      simp only [ccells] at d0
      clear hno hE
      go_wp2_with fail
      refine (get_no _ _ _ NO.out r i s rfl).mono ?_
      rintro e w1 ⟨rfl, hb⟩
      have hb' := hb.trans (((Below.refl _ _).alloc (Nat.le_refl _) (.cells (ccells 0 0 0 none 0 0 none 0 0 0 0 none 0 0 0 ⟨#[]⟩ none 0 0) 46)).mono hb.size)
      replace E := Lib.hid (E.out.step hb)
      have hA : Below w1.heap.size w1 (w1.alloc (.cells (ccells 0 0 0 none 0 0 none 0 0 0 0 none 0 0 0 ⟨#[]⟩ none 0 0) 46)) := (Below.refl _ _).alloc (Nat.le_refl _) _
      replace NO := Lib.hid ((NO.out.below hb).below hA)
      clear hb hb' d0
      have d0 := cells_at E.out.b0
      simp only [ccells] at d0
      have z0 := heap_lt E.out.b0
      have HA := Lib.hid hA
      clear hA
      go_wp2_with fail
      replace E := Lib.hid (E.out.step HA.out)
      refine (insert_no _ _ _ NO.out r i s qa ps.length qc ua uu.length uc t k pa p.length pc n x da ds.length dc rfl).mono ?_
      rintro e w2 ⟨rfl, hb⟩
      replace E := Lib.hid (E.out.step hb)
      replace NO := Lib.hid (NO.out.below hb)
      clear hb d0 z0 HA
      have d0 := cells_at E.out.b0
      simp only [ccells] at d0
      go_wp2_with fail
      refine (has_no _ _ NO.out r i s).mono ?_
      rintro e w3 ⟨rfl, hb⟩
      replace E := Lib.hid (E.out.step hb)
      replace NO := Lib.hid (NO.out.below hb)
      clear hb d0
      have d0 := cells_at E.out.b0
      simp only [ccells] at d0
      go_wp2_with fail
      refine (commits_no _ _ NO.out).mono ?_
      rintro e w4 ⟨rfl, rfl⟩
      go_wp2_with fail
      refine (heads_no _ _ NO.out).mono ?_
      rintro e w5 ⟨rfl, hb⟩
      replace E := Lib.hid (E.out.step hb)
      replace NO := Lib.hid (NO.out.below hb)
      clear hb d0
      have d0 := cells_at E.out.b0
      simp only [ccells] at d0
      go_wp2_with fail
      refine (vv_no _ _ NO.out).mono ?_
      rintro e w6 ⟨rfl, rfl⟩
      go_wp2_with fail
      refine (time_no _ _ NO.out).mono ?_
      rintro e w7 ⟨rfl, rfl⟩
      go_wp2_with fail
      refine (base_no _ _ NO.out).mono ?_
      rintro e w8 ⟨rfl, hb⟩
      replace E := Lib.hid (E.out.step hb)
      replace NO := Lib.hid (NO.out.below hb)
      clear hb d0
      have d0 := cells_at E.out.b0
      simp only [ccells] at d0
      go_wp2_with fail
      refine (sameBaseE _).mono ?_
      rintro e w9 ⟨rfl, hb⟩
      replace E := Lib.hid (E.out.step hb)
      replace NO := Lib.hid (NO.out.below hb)
      clear hb d0
      have d0 := cells_at E.out.b0
      simp only [ccells] at d0
      go_wp2_with fail
      refine (copy_no _ _ NO.out).mono ?_
      rintro e w10 ⟨rfl, rfl⟩
      go_wp2_with fail
      go_roundw
      case rel => exact ⟨q + 1, by omega, by go_num, E.out⟩
      case measure => simp [intOf]; omega
    · clear hE
      go_wp2_with fail
      refine (known12_any _).mono ?_
      rintro e w1 ⟨rfl, hb⟩
      have HB := Lib.hid (E.out.step hb).bel
      clear hb
      go_wp2_with fail
      go_ret
      exact ⟨rfl, HB.out⟩
end Go.Proofs.YthdmoplclllhjaaGreat
