/- graph.Time; a graph that is not there, or was not made. -/
import Derived.Test.YthdmoplclllhjaaGreatGraM
namespace Go.Proofs.YthdmoplclllhjaaGreat
open Go.RowKit
set_option linter.unusedVariables false
set_option linter.unusedSimpArgs false

/-- the greatest time -/
def TimeP (t0 : Int) (L : List Cm) (n : Int) : Prop := t0 ≤ n ∧ (∀ c ∈ L, c.t ≤ n) ∧ (n = t0 ∨ ∃ c ∈ L, c.t = n)
theorem TimeP.uniq {t0 : Int} {L : List Cm} {n k : Int} (h : TimeP t0 L n) (h' : TimeP t0 L k) : n = k := by
  obtain ⟨a1, a2, a3⟩ := h
  obtain ⟨b1, b2, b3⟩ := h'
  rcases a3 with rfl | ⟨c, hc, rfl⟩
  · rcases b3 with rfl | ⟨d, hd, rfl⟩
    · rfl
    · have := a2 d hd; omega
  · have h1 := b2 c hc
    rcases b3 with rfl | ⟨d, hd, rfl⟩
    · omega
    · have := a2 d hd; omega
set_option maxRecDepth 100000 in
set_option maxHeartbeats 8000000 in
theorem time_G (pg mb : Nat) (w0 : World) (m : Nat) (b : Bw) (L : List Cw) (va : Option Addr) (vc : Nat) (vv : List Dt) (w : World) (h : GrAt w pg mb w0 m b L va vc vv) :
    Calls Tryz.prog 36 #[.pointer (some ⟨pg, 0, none⟩)] w fun e w' => ∃ n, e = .returned (.int .u64 n) ∧ TimeP b.b.t (cms L) n ∧ Below w.heap.size w w' := by
  have H := Lib.hid h
  have g0 := cells_at h.blk
  simp only [gcells] at g0
  have HM := Lib.hid (h.map.mapF)
  have hc5 := h.c5
  clear h
  go_enter Tryz.func36, Tryz.ntmps36
  go_wp2_with fail
  refine (none_some pg mb _ hc5).mono ?_
  rintro e w1 ⟨rfl, rfl⟩
  go_wp2_with (at_range; go_must (refine wpList_range_F keysD rfl _ _ rfl _ Tryz.underlying77 mb L.length (fvW L) rfl HM.out ?_))
  intro wa cnt0 hrg0 hcn0 hg0 hs0
  have hb0 : Below w1.heap.size w1 wa := (Below.refl _ _).grown hg0 (Nat.le_refl _) (by simp)
  have B0 := Lib.hid hb0
  have Hrg0 := Lib.hid hrg0
  clear hg0 hs0 hb0 hrg0 g0 hc5
  go_wp2_with fail
  go_loopw [3, 5] (fun tv _ wr => ∃ (n : Int) (left : Dt → Bool) (cnt : Nat), tv = .int .u64 n ∧ RangeF wr Tryz.prog 41 mkD mb w1.heap.size L.length (fvW L) left cnt ∧ (∀ v ∈ L, left v.c.d = false → v.c.t ≤ n) ∧ b.b.t ≤ n ∧ (n = b.b.t ∨ ∃ c ∈ cms L, c.t = n) ∧ Below w1.heap.size w1 wr) (fun _ _ wr => wr.rangeLeft mb w1.heap.size)
  case atStart =>
    refine ⟨_, _, cnt0, rfl, Hrg0.out, fun v hv hl => ?_, Int.le_refl _, .inl rfl, B0.out⟩
    have : fvW L v.c.d = some (cwv v) := by unfold fvW; rw [fvW_mem H.out.nodup hv]; rfl
    rw [this] at hl; cases hl
  case round =>
    obtain ⟨n, left, cnt, rfl, hrg, hle, hn1, hn2, hb⟩ := hrel
    have Hrg := Lib.hid hrg
    have Hle := Lib.hid hle
    have B := Lib.hid hb
    have hsz := hb.size
    have Hn2 := Lib.hid hn2
    have Hn1 := Lib.hid hn1
    clear hle hb B0 Hrg0 hcn0 hn2 hn1
    go_wp2_with (at_next; go_must (refine wpList_next_D rfl _ rfl _ _ _ _ _ _ rfl hrg ?_ ?_))
    · intro hl
      clear hrg
      have HT := Lib.hid (show TimeP b.b.t (cms L) n from ⟨Hn1.out, fun c hc => by obtain ⟨v, hv, rfl⟩ := List.mem_map.1 hc; exact Hle.out v hv (hl _ (H.out.each v hv).ok.d), Hn2.out⟩)
      clear hl
      go_wp2_with fail
      go_ret
      exact ⟨n, rfl, HT.out, B.out⟩
    · intro rr ii qq xv w3 cnt1 hX hen
      clear hrg
      have hlt1 := hX.lt
      obtain ⟨v, hvL, hvd, rfl⟩ := fvW_some hX.val
      have hc1 := Chg.grown hX.grown
      simp only [Option.toList_some] at hc1
      have hb1 : Below w1.heap.size w1 w3 := B.out.trans (hc1.below hsz (by simp))
      have Hrg1 := Lib.hid hX.rng
      have Hb1 := Lib.hid hb1
      have HvL := Lib.hid hvL
      have Hvd := Lib.hid hvd
      clear hX hc1 hb1 hvL hvd
      obtain ⟨⟨⟨⟨r1, i1⟩, s1⟩, ps1, uu1, t1, ⟨k1, n1, x1, p1, ds1⟩⟩, qa1, qc1, ua1, uc1, pa1, pc1, da1, dc1⟩ := v
      simp only [cwv, cwcells] at hen ⊢
      have Hrg2 := Lib.hid (Hrg1.out.alloc (.cells (ccells r1 i1 s1 qa1 ps1.length qc1 ua1 uu1.length uc1 t1 k1 pa1 p1.length pc1 n1 x1 da1 ds1.length dc1) 46))
      have B2 := Lib.hid (Hb1.out.alloc Hb1.out.size (.cells (ccells r1 i1 s1 qa1 ps1.length qc1 ua1 uu1.length uc1 t1 k1 pa1 p1.length pc1 n1 x1 da1 ds1.length dc1) 46))
      have hT1 := next_left H.out.nodup (P := fun u => u.c.t ≤ max n t1) (fun u hu hl => by have := Hle.out u hu hl; omega) HvL.out Hvd.out (by dsimp only; omega)
      have HT1 := Lib.hid hT1
      have HT2 := Lib.hid (show max n t1 = b.b.t ∨ ∃ c ∈ cms L, c.t = max n t1 from by
        rcases Int.le_total n t1 with h | h
        · right; exact ⟨_, List.mem_map.2 ⟨_, HvL.out, rfl⟩, by dsimp only; omega⟩
        · rcases Hn2.out with h2 | ⟨c, hc, h2⟩
          · left; omega
          · right; exact ⟨c, hc, by omega⟩)
      clear hT1
      go_wp2_with fail
      exact ⟨⟨max n t1, _, cnt1, rfl, Hrg2.out, HT1.out, by have := Hn1.out; omega, HT2.out, B2.out⟩, by rw [Hrg2.out.left_eq, Hrg.out.left_eq]; exact hlt1⟩
end Go.Proofs.YthdmoplclllhjaaGreat
