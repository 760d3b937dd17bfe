/- graph.Heads: contract. -/
import Derived.Test.YthdmoplclllhjaaGreatGraK
namespace Go.Proofs.YthdmoplclllhjaaGreat
open Go.RowKit
set_option linter.unusedVariables false
set_option linter.unusedSimpArgs false

/-- within another commit's history -/
def behind1 (c : Cm) (d : Dt) : Bool := !eqD c.d d && hasV c.vv d
def behindB (L : List Cm) (d : Dt) : Bool := L.any fun c => behind1 c d
theorem behind_no {L : List Cw} {d : Dt} (h : ∀ v ∈ L, behind1 v.c d = false) : behindB (cms L) d = false := by
  unfold behindB cms
  rw [List.any_map, List.any_eq_false]
  intro v hv
  show ¬ behind1 v.c d = true
  rw [h v hv]; simp
theorem behind_yes {L : List Cw} {d : Dt} {v : Cw} (hv : v ∈ L) (h : behind1 v.c d = true) : behindB (cms L) d = true := by
  unfold behindB cms
  rw [List.any_map, List.any_eq_true]
  exact ⟨v, hv, h⟩
theorem fvW_mem {L : List Cw} (hn : ((cms L).map (·.d)).Nodup) {v : Cw} (hv : v ∈ L) : fdW L v.c.d = some v := by
  induction L with
  | nil => cases hv
  | cons a L ih =>
    unfold cms at hn
    rw [List.map_cons, List.map_cons, List.nodup_cons] at hn
    unfold fdW
    rw [List.find?_cons]
    by_cases e : a.c.d = v.c.d
    · rw [decide_eq_true e]
      rcases List.mem_cons.1 hv with rfl | h
      · rfl
      · exact absurd (List.mem_map.2 ⟨v.c, List.mem_map.2 ⟨v, h, rfl⟩, e.symm⟩) hn.1
    · rw [decide_eq_false e]
      rcases List.mem_cons.1 hv with rfl | h
      · exact absurd rfl e
      · exact ih hn.2 h
theorem fvW_some {L : List Cw} {d : Dt} {x : Value} (h : fvW L d = some x) : ∃ v ∈ L, v.c.d = d ∧ x = cwv v := by
  unfold fvW at h
  cases hf : fdW L d with
  | none => rw [hf] at h; cases h
  | some v => rw [hf] at h; exact ⟨v, (fdW_some hf).1, (fdW_some hf).2, (Option.some.inj h).symm⟩
theorem same_of_d {L : List Cw} (hn : ((cms L).map (·.d)).Nodup) {u v : Cw} (hu : u ∈ L) (hv : v ∈ L) (h : u.c.d = v.c.d) : u = v := by
  have h1 := fvW_mem hn hu
  rw [h, fvW_mem hn hv] at h1
  exact (Option.some.inj h1).symm
theorem next_left {L : List Cw} (hn : ((cms L).map (·.d)).Nodup) {left : Dt → Bool} {P : Cw → Prop} (h : ∀ v ∈ L, left v.c.d = false → P v) {v : Cw} (hv : v ∈ L) {d : Dt} (hd : v.c.d = d) (hp : P v) : ∀ u ∈ L, (left u.c.d && !decide (u.c.d = d)) = false → P u := fun u hu hl => by
  by_cases e : u.c.d = d
  · rw [same_of_d hn hu hv (e.trans hd.symm)]; exact hp
  · rw [decide_eq_false e] at hl; exact h u hu (by simpa using hl)
set_option maxRecDepth 100000 in
set_option maxHeartbeats 8000000 in
theorem behind_any (pg mb : Nat) (w0 : World) (m : Nat) (b : Bw) (L : List Cw) (va : Option Addr) (vc : Nat) (vv : List Dt) (gb : Nat) (r i s : Int) (w : World) (h : GrAt w pg mb w0 m b L va vc vv) (hg : w.cell? ⟨gb, 0, none⟩ = some (.pointer (some ⟨pg, 0, none⟩))) (hd : okD ((r, i), s)) :
    Calls Tryz.prog 91 #[.agg #[.int .u8 r, .int .u32 i, .int .u64 s], .pointer (some ⟨gb, 0, none⟩)] w fun e w' => e = .returned (.bool (behindB (cms L) ((r, i), s))) ∧ Below w.heap.size w w' := by
  have H := Lib.hid h
  have g0 := cells_at h.blk
  simp only [gcells] at g0
  have hpg := heap_lt h.blk
  clear h
  have z0 : gb < w.heap.size := World.block_lt_of_cell? w _ hg
  have hB : Below w.heap.size w (w.alloc (.cells #[.int .u8 r, .int .u32 i, .int .u64 s] 41)) := (Below.refl _ _).alloc (Nat.le_refl _) _
  have HB := Lib.hid hB
  have HM := Lib.hid ((H.out.below hB).map.mapF)
  clear hB
  go_enter Tryz.func91, Tryz.ntmps91
  go_wp2_with (at_range; go_must (refine wpList_range_F keysD rfl _ _ rfl _ Tryz.underlying77 mb L.length (fvW L) rfl HM.out ?_))
  intro wa cnt0 hrg0 hcn0 hg0 hs0
  have hb0 : Below (w.alloc (.cells #[.int .u8 r, .int .u32 i, .int .u64 s] 41)).heap.size (w.alloc (.cells #[.int .u8 r, .int .u32 i, .int .u64 s] 41)) wa := (Below.refl _ _).grown hg0 (Nat.le_refl _) (by simp)
  have E0 := Lib.hid (BoxE.of hb0)
  have Hrg0 : Hid (RangeF wa Tryz.prog 41 mkD mb (w.heap.size + 1) L.length (fvW L) (fun a => (fvW L a).isSome) cnt0) := Lib.hid (by simpa using hrg0)
  clear hg0 hs0 hb0 hrg0 g0 hpg z0 hg HB
  go_wp2_with fail
  go_loopw [5] (fun _ wr => ∃ (left : Dt → Bool) (cnt : Nat), RangeF wr Tryz.prog 41 mkD mb (w.heap.size + 1) L.length (fvW L) left cnt ∧ (∀ v ∈ L, left v.c.d = false → behind1 v.c ((r, i), s) = false) ∧ BoxE 41 w wr #[.int .u8 r, .int .u32 i, .int .u64 s]) (fun _ wr => wr.rangeLeft mb (w.heap.size + 1))
  case atStart =>
    refine ⟨_, cnt0, Hrg0.out, fun v hv hl => ?_, E0.out⟩
    have : fvW L v.c.d = some (cwv v) := by unfold fvW; rw [fvW_mem H.out.nodup hv]; rfl
    rw [this] at hl; cases hl
  case round =>
    obtain ⟨left, cnt, hrg, hle, hb⟩ := hrel
    have Hrg := Lib.hid hrg
    have Hle := Lib.hid hle
    have E := Lib.hid hb
    have hsz := hb.bel.size
    clear hle hb E0 Hrg0 hcn0
    go_wp2_with (at_next; go_must (refine wpList_next_D rfl _ rfl _ _ _ _ _ _ rfl hrg ?_ ?_))
    · intro hl
      clear hrg
      have Hw := Lib.hid (show behindB (cms L) ((r, i), s) = false from behind_no fun v hv => Hle.out v hv (hl _ (H.out.each v hv).ok.d))
      clear hl
      go_wp2_with fail
      go_ret
      exact ⟨by rw [Hw.out]; rfl, E.out.bel⟩
    · intro rr ii qq xv w3 cnt1 hX hen
      clear hrg
      have hlt1 := hX.lt
      obtain ⟨v, hvL, hvd, rfl⟩ := fvW_some hX.val
      have hc1 := Chg.grown hX.grown
      simp only [Option.toList_some] at hc1
      have hb1 : Below w.heap.size w w3 := E.out.bel.trans (hc1.below hsz (by simp))
      have x3 := heap_chg E.out.blk hc1 (by simp)
      have Hv := Lib.hid (((H.out.each v hvL).at_).below hb1)
      have Hrg1 := Lib.hid hX.rng
      have Hb1 := Lib.hid hb1
      have HvL := Lib.hid hvL
      have hlen := canon_few (H.out.may v hvL).canon
      have Hvd := Lib.hid hvd
      have z3 := heap_lt x3
      clear hX hc1 hb1 hvL hvd
      have X3 := Lib.hid x3
      have d3 := cells_at x3
      clear x3
      obtain ⟨⟨⟨⟨r1, i1⟩, s1⟩, ps1, uu1, t1, ⟨k1, n1, x1, p1, ds1⟩⟩, qa1, qc1, ua1, uc1, pa1, pc1, da1, dc1⟩ := v
      simp only [cwv, cwcells] at hen ⊢
      have hA : Below w3.heap.size w3 (w3.alloc (.cells (ccells r1 i1 s1 qa1 ps1.length qc1 ua1 uu1.length uc1 t1 k1 pa1 p1.length pc1 n1 x1 da1 ds1.length dc1) 46)) := (Below.refl _ _).alloc (Nat.le_refl _) _
      have HA := Lib.hid hA
      have EA := Lib.hid (show BoxE 41 w (w3.alloc (.cells (ccells r1 i1 s1 qa1 ps1.length qc1 ua1 uu1.length uc1 t1 k1 pa1 p1.length pc1 n1 x1 da1 ds1.length dc1) 46)) #[.int .u8 r, .int .u32 i, .int .u64 s] from BoxE.step ⟨X3.out, Hb1.out⟩ hA)
      dsimp only at hlen
      clear hA
      cases hq : eqD ((r1, i1), s1) ((r, i), s) with
      | true =>
        have Hno := Lib.hid (show behind1 ⟨((r1, i1), s1), ps1, uu1, t1, ⟨k1, n1, x1, p1, ds1⟩⟩ ((r, i), s) = false by simp [behind1, hq])
        have Hrg2 := Lib.hid (Hrg1.out.alloc (.cells (ccells r1 i1 s1 qa1 ps1.length qc1 ua1 uu1.length uc1 t1 k1 pa1 p1.length pc1 n1 x1 da1 ds1.length dc1) 46))
        go_wp2_with fail
        go_roundw
        case rel => exact ⟨_, cnt1, Hrg2.out, next_left H.out.nodup Hle.out HvL.out Hvd.out Hno.out, EA.out⟩
        case measure => rw [Hrg2.out.left_eq, Hrg.out.left_eq]; exact hlt1
      | false =>
        have He := Lib.hid (show behind1 ⟨((r1, i1), s1), ps1, uu1, t1, ⟨k1, n1, x1, p1, ds1⟩⟩ ((r, i), s) = hasV uu1 ((r, i), s) by simp [behind1, hq])
        go_wp2_with fail
        refine (has_any ua1 uc1 uu1 r i s _ (Hv.out.vv.below HA.out) (by omega) Hv.out.ok.vv hd.1).mono ?_
        rintro e w4 ⟨rfl, hb4⟩
        have E4 := Lib.hid (EA.out.step hb4)
        have Hrg2 := Lib.hid ((Hrg1.out.alloc (.cells (ccells r1 i1 s1 qa1 ps1.length qc1 ua1 uu1.length uc1 t1 k1 pa1 p1.length pc1 n1 x1 da1 ds1.length dc1) 46)).chg (F := []) (Chg.of_below hb4) (by simp) (by simp))
        clear hb4 d3
        cases hh : hasV uu1 ((r, i), s) with
        | true =>
          have Hy := Lib.hid (show behindB (cms L) ((r, i), s) = true from behind_yes HvL.out (by rw [He.out, hh]))
          go_wp2_with fail
          go_ret
          exact ⟨by rw [Hy.out]; rfl, E4.out.bel⟩
        | false =>
          have Hno := Lib.hid (show behind1 ⟨((r1, i1), s1), ps1, uu1, t1, ⟨k1, n1, x1, p1, ds1⟩⟩ ((r, i), s) = false by rw [He.out, hh])
          go_wp2_with fail
          go_roundw
          case rel => exact ⟨_, cnt1, Hrg2.out, next_left H.out.nodup Hle.out HvL.out Hvd.out Hno.out, E4.out⟩
          case measure => rw [Hrg2.out.left_eq, Hrg.out.left_eq]; exact hlt1
end Go.Proofs.YthdmoplclllhjaaGreat
