/- op.May, exact. (printed by wip/tools/genmayop.py) -/
import Derived.Test.YtmabjghjkgicgaaGreatMayE
namespace Go.Proofs.YtmabjghjkgicgaaGreat
open Go.RowKit
set_option linter.unusedVariables false
set_option linter.unusedSimpArgs false

set_option maxRecDepth 100000 in
set_option maxHeartbeats 8000000 in
theorem mayOpG_any (k n : Int) (x : ByteArray) (pa : Option Addr) (pl : List ByteArray) (pc : Nat) (da : Option Addr) (ds : List Dt) (dc : Nat) (w : World) (hp : Strs w pa pc pl) (hv : Vec w da dc ds) :
    Calls Tryz.prog 21 #[.agg #[.int .u8 k, .slice pa pl.length pc, .int .i64 n, .string x, .slice da ds.length dc]] w (IsTo w (OpP k n x pl ds)) := by
  have Hp := Lib.hid hp
  have Hv := Lib.hid hv
  clear hp hv
  have he1 := enters_of Tryz.func58 (by kernel_rfl) rfl
  have he2 := enters_of Tryz.func59 (by kernel_rfl) rfl
  have he3 := enters_of Tryz.func60 (by kernel_rfl) rfl
  go_enter Tryz.func21, Tryz.ntmps21
  go_wp2_with fail
  refine (of_any k _).mono ?_
  rintro e w1 ⟨hc, hb1⟩
  have E : Hid (OpE w w1 (ocells k n x pa pl.length pc da ds.length dc)) := Lib.hid (OpE.of hb1)
  have d0 := cells_at E.out.blk
  simp only [ocells] at d0
  have hz1 : w.heap.size < w1.heap.size := heap_lt E.out.blk
  clear hb1
  obtain ⟨hk, rfl⟩ | ⟨rfl, rfl⟩ | ⟨rfl, rfl⟩ | ⟨rfl, rfl⟩ | ⟨rfl, rfl⟩ | ⟨rfl, rfl⟩ := hc
  · have Hn := Lib.hid (no_op (n := n) (x := x) (p := pl) (ds := ds) hk)
    clear hk
    go_wp2_with fail
    all_goals (go_ret; exact no_name Hn.out (below2 E.out.bel ((Below.refl _ _).alloc (Nat.le_refl _) _) E.out.bel.size))
  · go_wp2_with fail
    refine (mayPathG_any pa pc pl _ (Hp.out.below (below2 E.out.bel ((Below.refl _ _).alloc (Nat.le_refl _) _) E.out.bel.size))).mono ?_
    intro e w2 hto
    obtain ⟨z, rfl, hz, hb⟩ := hto
    obtain ⟨hy0, hs1, hb1⟩ := new1 hb
    replace E := Lib.hid (E.out.step hb1)
    have Hz := Lib.hid hz
    clear hb hz d0 hb1
    have d0 := cells_at E.out.blk
    simp only [ocells] at d0
    have t0 := cells_at hy0
    clear hy0
    cases z with
    | false =>
      have Hn := Lib.hid (show ¬ OpP 1 n x pl ds from fun h => by have := Hz.out.2 h.path; cases this)
      go_wp2_with fail
      all_goals (go_ret; exact no_name Hn.out E.out.bel)
    | true =>
      go_wp2_with fail
      refine (adds_any 1 n x pa pl.length pc da ds dc _).mono ?_
      intro e w3 hto
      obtain ⟨z, rfl, hz, hb⟩ := hto
      replace E := Lib.hid (E.out.step hb)
      have Hq := Lib.hid (show OpP 1 n x pl ds ↔ z = true from (add_op n x pl ds).trans ⟨fun h => hz.2 h.2, fun h => ⟨Hz.out.1 (by simp), hz.1 h⟩⟩)
      clear hb hz d0 t0
      go_wp2_with fail
      all_goals (go_ret; exact ⟨z, rfl, Hq.out.symm, E.out.bel⟩)
  · go_wp2_with fail
    refine (mayPathG_any pa pc pl _ (Hp.out.below (below2 E.out.bel ((Below.refl _ _).alloc (Nat.le_refl _) _) E.out.bel.size))).mono ?_
    intro e w2 hto
    obtain ⟨z, rfl, hz, hb⟩ := hto
    obtain ⟨hy0, hs1, hb1⟩ := new1 hb
    replace E := Lib.hid (E.out.step hb1)
    have Hz := Lib.hid hz
    clear hb hz d0 hb1
    have d0 := cells_at E.out.blk
    simp only [ocells] at d0
    have t0 := cells_at hy0
    clear hy0
    cases z with
    | false =>
      have Hn := Lib.hid (show ¬ OpP 2 n x pl ds from fun h => by have := Hz.out.2 h.path; cases this)
      go_wp2_with fail
      all_goals (go_ret; exact no_name Hn.out E.out.bel)
    | true =>
      go_wp2_with fail
      refine (plain_any 2 n x pa pl.length pc da ds dc _).mono ?_
      intro e w3 hto
      obtain ⟨z, rfl, hz, hb⟩ := hto
      replace E := Lib.hid (E.out.step hb)
      have Hq := Lib.hid (show OpP 2 n x pl ds ↔ z = true from (plain_op 2 n x pl ds (by decide) (by decide) (by decide)).trans ⟨fun h => hz.2 h.2, fun h => ⟨Hz.out.1 (by simp), hz.1 h⟩⟩)
      clear hb hz d0 t0
      go_wp2_with fail
      all_goals (go_ret; exact ⟨z, rfl, Hq.out.symm, E.out.bel⟩)
  · go_wp2_with fail
    refine (mayPathG_any pa pc pl _ (Hp.out.below (below2 E.out.bel ((Below.refl _ _).alloc (Nat.le_refl _) _) E.out.bel.size))).mono ?_
    intro e w2 hto
    obtain ⟨z, rfl, hz, hb⟩ := hto
    obtain ⟨hy0, hs1, hb1⟩ := new1 hb
    replace E := Lib.hid (E.out.step hb1)
    have Hz := Lib.hid hz
    clear hb hz d0 hb1
    have d0 := cells_at E.out.blk
    simp only [ocells] at d0
    have t0 := cells_at hy0
    clear hy0
    cases z with
    | false =>
      have Hn := Lib.hid (show ¬ OpP 3 n x pl ds from fun h => by have := Hz.out.2 h.path; cases this)
      go_wp2_with fail
      all_goals (go_ret; exact no_name Hn.out E.out.bel)
    | true =>
      go_wp2_with fail
      refine (plain_any 3 n x pa pl.length pc da ds dc _).mono ?_
      intro e w3 hto
      obtain ⟨z, rfl, hz, hb⟩ := hto
      replace E := Lib.hid (E.out.step hb)
      have Hq := Lib.hid (show OpP 3 n x pl ds ↔ z = true from (plain_op 3 n x pl ds (by decide) (by decide) (by decide)).trans ⟨fun h => hz.2 h.2, fun h => ⟨Hz.out.1 (by simp), hz.1 h⟩⟩)
      clear hb hz d0 t0
      go_wp2_with fail
      all_goals (go_ret; exact ⟨z, rfl, Hq.out.symm, E.out.bel⟩)
  · go_wp2_with fail
    refine (mayPathG_any pa pc pl _ (Hp.out.below (below2 E.out.bel ((Below.refl _ _).alloc (Nat.le_refl _) _) E.out.bel.size))).mono ?_
    intro e w2 hto
    obtain ⟨z, rfl, hz, hb⟩ := hto
    obtain ⟨hy0, hs1, hb1⟩ := new1 hb
    replace E := Lib.hid (E.out.step hb1)
    have Hz := Lib.hid hz
    clear hb hz d0 hb1
    have d0 := cells_at E.out.blk
    simp only [ocells] at d0
    have t0 := cells_at hy0
    clear hy0
    cases z with
    | false =>
      have Hn := Lib.hid (show ¬ OpP 4 n x pl ds from fun h => by have := Hz.out.2 h.path; cases this)
      go_wp2_with fail
      all_goals (go_ret; exact no_name Hn.out E.out.bel)
    | true =>
      go_wp2_with fail
      refine (drops_any 4 n x pa pl.length pc da ds dc _ (Hv.out.below E.out.bel)).mono ?_
      intro e w3 hto
      obtain ⟨z, rfl, hz, hb⟩ := hto
      replace E := Lib.hid (E.out.step hb)
      have Hq := Lib.hid (show OpP 4 n x pl ds ↔ z = true from (drops_op n x pl ds).trans ⟨fun h => hz.2 h.2, fun h => ⟨Hz.out.1 (by simp), hz.1 h⟩⟩)
      clear hb hz d0 t0
      go_wp2_with fail
      all_goals (go_ret; exact ⟨z, rfl, Hq.out.symm, E.out.bel⟩)
  · go_wp2_with fail
    refine (mayPathG_any pa pc pl _ (Hp.out.below (below2 E.out.bel ((Below.refl _ _).alloc (Nat.le_refl _) _) E.out.bel.size))).mono ?_
    intro e w2 hto
    obtain ⟨z, rfl, hz, hb⟩ := hto
    obtain ⟨hy0, hs1, hb1⟩ := new1 hb
    replace E := Lib.hid (E.out.step hb1)
    have Hz := Lib.hid hz
    clear hb hz d0 hb1
    have d0 := cells_at E.out.blk
    simp only [ocells] at d0
    have t0 := cells_at hy0
    clear hy0
    cases z with
    | false =>
      have Hn := Lib.hid (show ¬ OpP 5 n x pl ds from fun h => by have := Hz.out.2 h.path; cases this)
      go_wp2_with fail
      all_goals (go_ret; exact no_name Hn.out E.out.bel)
    | true =>
      go_wp2_with fail
      refine (plain_any 5 n x pa pl.length pc da ds dc _).mono ?_
      intro e w3 hto
      obtain ⟨z, rfl, hz, hb⟩ := hto
      replace E := Lib.hid (E.out.step hb)
      have Hq := Lib.hid (show OpP 5 n x pl ds ↔ z = true from (plain_op 5 n x pl ds (by decide) (by decide) (by decide)).trans ⟨fun h => hz.2 h.2, fun h => ⟨Hz.out.1 (by simp), hz.1 h⟩⟩)
      clear hb hz d0 t0
      go_wp2_with fail
      all_goals (go_ret; exact ⟨z, rfl, Hq.out.symm, E.out.bel⟩)
end Go.Proofs.YtmabjghjkgicgaaGreat
