/- varveref05.Apply, add. Printed by genapply.py. | varveref05.Apply, set. Printed by genapply.py. | varveref05.Apply, put. Printed by genapply.py. | varveref05.Apply, drop. Printed by genapply.py. | varveref05.Apply, say. Printed by genapply.py. | varveref05.Apply: contract. Printed by genapply.py. -/
import Derived.Test.YtmabjghjkgicgaaGreatAqA
/- AqB -/
/- ApB1 -/
namespace Go.Proofs.YtmabjghjkgicgaaGreat
open Go.RowKit
set_option linter.unusedVariables false
set_option linter.unusedSimpArgs false

set_option maxRecDepth 100000 in
set_option maxHeartbeats 8000000 in
theorem apply_add (L : Lv) (v : Ew) (w : World) (hl : LvAt w L) (hol : okL L.l) (hv : EwAt w v) (hk : v.e.k = 1) (hli : L.l.items.length ≤ 900000) (hlt : L.l.tombs.length ≤ 900000) (hds : v.e.ds.length ≤ 100) :
    Calls Tryz.prog 48 #[.agg #[.int .u8 L.l.k, .int .i64 L.l.n, .int .u64 L.l.t, .int .u8 L.l.d.1.1, .int .u32 L.l.d.1.2, .int .u64 L.l.d.2, .string L.l.x, .slice L.ia L.l.items.length L.ic, .slice L.ta L.l.tombs.length L.tc], .agg #[.int .u8 v.e.d.1.1, .int .u32 v.e.d.1.2, .int .u64 v.e.d.2, .int .u64 v.e.t, .int .u8 v.e.k, .slice v.pa v.pl.length v.pc, .int .i64 v.e.n, .string v.e.x, .slice v.da v.e.ds.length v.dc]] w (AppTo w L v) := by
  have HL := Lib.hid hl
  have Hol := Lib.hid hol
  have HV := Lib.hid hv
  have Hk := Lib.hid hk
  clear hl hol hv hk
  rw [Hk.out]
  go_enter Tryz.func48, Tryz.ntmps48
  go_wp2_with fail
  refine (rmayLf_any L.l L.ia L.ta L.ic L.tc _ (HL.out.below ?h1) Hol.out).mono ?_
  case h1 => exact (((Below.refl _ _).alloc (Nat.le_refl _) _).alloc (by simp) _).alloc (by simp; omega) _
  rintro e w1 ⟨q, rfl, hq, hb1⟩
  have E : Hid (ApE w w1 L v) := Lib.hid (ApE.of HL.out HV.out (by rw [show ecells v = #[.int .u8 v.e.d.1.1, .int .u32 v.e.d.1.2, .int .u64 v.e.d.2, .int .u64 v.e.t, .int .u8 1, .slice v.pa v.pl.length v.pc, .int .i64 v.e.n, .string v.e.x, .slice v.da v.e.ds.length v.dc] by rw [← Hk.out]; rfl]; exact hb1))
  have Hq := Lib.hid hq
  clear hb1 hq
  have d0 := cells_at E.out.b0
  have d1 := cells_at E.out.b1
  have d2 := cells_at E.out.b2
  have g0 := free_at E.out.b0
  have g2 := free_at E.out.b2
  simp only [lcells, ecells] at d0 d1 d2
  rw [Hk.out] at d1
  cases q with
  | false =>
    go_wp2_with fail
    exact bodyPost_ret (v := .tuple #[.agg #[.int .u8 0, .int .i64 0, .int .u64 0, .int .u8 0, .int .u32 0, .int .u64 0, .string ⟨#[]⟩, .slice none 0 0, .slice none 0 0], .int .i64 2]) (by simp [results, Tryz.results48, go_sem, d2]; try rfl) rfl ⟨.inl ⟨2, by decide, rfl, fun ok => by have := Hq.out.2 ok.1; cases this⟩, fin9 E.out.bel (by omega) _ _ _ _ _ _ _ _ _⟩
  | true =>
    go_wp2_with fail
    refine (mayEvent_k v w1 E.out.ev Hk.out).mono ?_
    intro e w2 hto
    obtain ⟨z, rfl, hz, hb⟩ := hto
    replace E := Lib.hid (E.out.step hb)
    have Hz := Lib.hid hz
    clear hz hb d0 d1 d2 g0 g2
    have d0 := cells_at E.out.b0
    have d1 := cells_at E.out.b1
    have d2 := cells_at E.out.b2
    have g0 := free_at E.out.b0
    have g2 := free_at E.out.b2
    simp only [lcells, ecells] at d0 d1 d2
    rw [Hk.out] at d1
    cases z with
    | false =>
      go_wp2_with fail
      exact bodyPost_ret (v := .tuple #[.agg #[.int .u8 0, .int .i64 0, .int .u64 0, .int .u8 0, .int .u32 0, .int .u64 0, .string ⟨#[]⟩, .slice none 0 0, .slice none 0 0], .int .i64 2]) (by simp [results, Tryz.results48, go_sem, d2]; try rfl) rfl ⟨.inl ⟨2, by decide, rfl, fun ok => by have := Hz.out.2 ok.2.1; cases this⟩, fin9 E.out.bel (by omega) _ _ _ _ _ _ _ _ _⟩
    | true =>
      have Hme := Lib.hid (Hz.out.1 rfl).ev
      clear Hz
      go_wp2_with fail
      refine region_text [([0, 1, 2, 4, 5], false), ([3], true), ([6], false)] mixed (by kernel_rfl) ?_
      simp only [wpSegs, List.map_cons, List.map_nil, List.getD_cons_succ, List.getD_cons_zero]
      go_wp2_with fail
      refine (type_any 1 _).mono ?_
      rintro e w3 ⟨rfl, hb⟩
      have HAg := Lib.hid (Agree.of_below hb)
      have hbd := ((Below.refl _ _).drew).trans hb
      replace E := Lib.hid (E.out.step hbd)
      clear hb hbd d0 d1 d2 g0 g2
      have d0 := cells_at E.out.b0
      have d1 := cells_at E.out.b1
      have d2 := cells_at E.out.b2
      have g0 := free_at E.out.b0
      have g2 := free_at E.out.b2
      simp only [lcells, ecells] at d0 d1 d2
      rw [Hk.out] at d1
      rw [show typeOf 1 = 1 from rfl]
      go_wp2_with fail
      refine And.intro HAg.out ?_
      clear HAg
      have hsz := E.out.sz
      have hp0 : w.heap.size < w3.heap.size := by omega
      have hp1 : w.heap.size + 1 < w3.heap.size := by omega
      have hp2 : w.heap.size + 2 < w3.heap.size := by omega
      have hp3 : w.heap.size + 1 + 1 < w3.heap.size := by omega
      by_cases ht : L.l.k = 1
      case neg =>
        have e1 : ((1 : Int) != L.l.k) = true := by rw [bne_iff_ne]; exact fun h => ht h.symm
        have Hnt := Lib.hid (show ¬ typeOf v.e.k = L.l.k by rw [Hk.out]; exact fun h => ht h.symm)
        clear ht
        go_wp2_with fail
        refine And.intro (by kernel_rfl) ?_
        go_wp2_with fail
        exact bodyPost_ret (v := .tuple #[.agg #[.int .u8 0, .int .i64 0, .int .u64 0, .int .u8 0, .int .u32 0, .int .u64 0, .string ⟨#[]⟩, .slice none 0 0, .slice none 0 0], .int .i64 15]) (by simp [results, Tryz.results48, go_sem, d2]; try rfl) rfl ⟨.inl ⟨15, by decide, rfl, fun ok => Hnt.out ok.2.2⟩, fin9 E.out.bel (by omega) _ _ _ _ _ _ _ _ _⟩
      case pos =>
        have e1 : ((1 : Int) != L.l.k) = false := by rw [ht]; simp
        have Hty := Lib.hid (show typeOf v.e.k = L.l.k by rw [Hk.out, ht]; rfl)
        clear ht
        go_wp2_with fail
        refine And.intro (by kernel_rfl) ?_
        go_wp2_with fail
        refine bodyPost_ret (v := .tuple #[.agg #[.int .u8 L.l.k, .int .i64 (wrap64 (L.l.n + v.e.n)), .int .u64 L.l.t, .int .u8 L.l.d.1.1, .int .u32 L.l.d.1.2, .int .u64 L.l.d.2, .string L.l.x, .slice L.ia L.l.items.length L.ic, .slice L.ta L.l.tombs.length L.tc], .int .i64 0]) (by simp [results, Tryz.results48, go_sem, d2, d0]; try rfl) rfl ?_
        exact app_same { L.l with n := wrap64 (L.l.n + v.e.n) } HL.out Hme.out Hty.out (fin9 ((E.out.bel.setCell (p := ⟨w.heap.size, 1, none⟩) (Nat.le_refl _) _)) (by omega) _ _ _ _ _ _ _ _ _) rfl rfl (by simp only [applyP, Hk.out, if_true]; rw [wrap_is]) rfl
end Go.Proofs.YtmabjghjkgicgaaGreat

/- ApB2 -/
namespace Go.Proofs.YtmabjghjkgicgaaGreat
open Go.RowKit
set_option linter.unusedVariables false
set_option linter.unusedSimpArgs false

set_option maxRecDepth 100000 in
set_option maxHeartbeats 8000000 in
theorem apply_set (L : Lv) (v : Ew) (w : World) (hl : LvAt w L) (hol : okL L.l) (hv : EwAt w v) (hk : v.e.k = 2) (hli : L.l.items.length ≤ 900000) (hlt : L.l.tombs.length ≤ 900000) (hds : v.e.ds.length ≤ 100) :
    Calls Tryz.prog 48 #[.agg #[.int .u8 L.l.k, .int .i64 L.l.n, .int .u64 L.l.t, .int .u8 L.l.d.1.1, .int .u32 L.l.d.1.2, .int .u64 L.l.d.2, .string L.l.x, .slice L.ia L.l.items.length L.ic, .slice L.ta L.l.tombs.length L.tc], .agg #[.int .u8 v.e.d.1.1, .int .u32 v.e.d.1.2, .int .u64 v.e.d.2, .int .u64 v.e.t, .int .u8 v.e.k, .slice v.pa v.pl.length v.pc, .int .i64 v.e.n, .string v.e.x, .slice v.da v.e.ds.length v.dc]] w (AppTo w L v) := by
  have HL := Lib.hid hl
  have Hol := Lib.hid hol
  have HV := Lib.hid hv
  have Hk := Lib.hid hk
  clear hl hol hv hk
  rw [Hk.out]
  go_enter Tryz.func48, Tryz.ntmps48
  go_wp2_with fail
  refine (rmayLf_any L.l L.ia L.ta L.ic L.tc _ (HL.out.below ?h1) Hol.out).mono ?_
  case h1 => exact (((Below.refl _ _).alloc (Nat.le_refl _) _).alloc (by simp) _).alloc (by simp; omega) _
  rintro e w1 ⟨q, rfl, hq, hb1⟩
  have E : Hid (ApE w w1 L v) := Lib.hid (ApE.of HL.out HV.out (by rw [show ecells v = #[.int .u8 v.e.d.1.1, .int .u32 v.e.d.1.2, .int .u64 v.e.d.2, .int .u64 v.e.t, .int .u8 2, .slice v.pa v.pl.length v.pc, .int .i64 v.e.n, .string v.e.x, .slice v.da v.e.ds.length v.dc] by rw [← Hk.out]; rfl]; exact hb1))
  have Hq := Lib.hid hq
  clear hb1 hq
  have d0 := cells_at E.out.b0
  have d1 := cells_at E.out.b1
  have d2 := cells_at E.out.b2
  have g0 := free_at E.out.b0
  have g2 := free_at E.out.b2
  simp only [lcells, ecells] at d0 d1 d2
  rw [Hk.out] at d1
  cases q with
  | false =>
    go_wp2_with fail
    exact bodyPost_ret (v := .tuple #[.agg #[.int .u8 0, .int .i64 0, .int .u64 0, .int .u8 0, .int .u32 0, .int .u64 0, .string ⟨#[]⟩, .slice none 0 0, .slice none 0 0], .int .i64 2]) (by simp [results, Tryz.results48, go_sem, d2]; try rfl) rfl ⟨.inl ⟨2, by decide, rfl, fun ok => by have := Hq.out.2 ok.1; cases this⟩, fin9 E.out.bel (by omega) _ _ _ _ _ _ _ _ _⟩
  | true =>
    go_wp2_with fail
    refine (mayEvent_k v w1 E.out.ev Hk.out).mono ?_
    intro e w2 hto
    obtain ⟨z, rfl, hz, hb⟩ := hto
    replace E := Lib.hid (E.out.step hb)
    have Hz := Lib.hid hz
    clear hz hb d0 d1 d2 g0 g2
    have d0 := cells_at E.out.b0
    have d1 := cells_at E.out.b1
    have d2 := cells_at E.out.b2
    have g0 := free_at E.out.b0
    have g2 := free_at E.out.b2
    simp only [lcells, ecells] at d0 d1 d2
    rw [Hk.out] at d1
    cases z with
    | false =>
      go_wp2_with fail
      exact bodyPost_ret (v := .tuple #[.agg #[.int .u8 0, .int .i64 0, .int .u64 0, .int .u8 0, .int .u32 0, .int .u64 0, .string ⟨#[]⟩, .slice none 0 0, .slice none 0 0], .int .i64 2]) (by simp [results, Tryz.results48, go_sem, d2]; try rfl) rfl ⟨.inl ⟨2, by decide, rfl, fun ok => by have := Hz.out.2 ok.2.1; cases this⟩, fin9 E.out.bel (by omega) _ _ _ _ _ _ _ _ _⟩
    | true =>
      have Hme := Lib.hid (Hz.out.1 rfl).ev
      clear Hz
      go_wp2_with fail
      refine region_text [([0, 1, 2, 4, 5], false), ([3], true), ([6], false)] mixed (by kernel_rfl) ?_
      simp only [wpSegs, List.map_cons, List.map_nil, List.getD_cons_succ, List.getD_cons_zero]
      go_wp2_with fail
      refine (type_any 2 _).mono ?_
      rintro e w3 ⟨rfl, hb⟩
      have HAg := Lib.hid (Agree.of_below hb)
      have hbd := ((Below.refl _ _).drew).trans hb
      replace E := Lib.hid (E.out.step hbd)
      clear hb hbd d0 d1 d2 g0 g2
      have d0 := cells_at E.out.b0
      have d1 := cells_at E.out.b1
      have d2 := cells_at E.out.b2
      have g0 := free_at E.out.b0
      have g2 := free_at E.out.b2
      simp only [lcells, ecells] at d0 d1 d2
      rw [Hk.out] at d1
      rw [show typeOf 2 = 2 from rfl]
      go_wp2_with fail
      refine And.intro HAg.out ?_
      clear HAg
      have hsz := E.out.sz
      have hp0 : w.heap.size < w3.heap.size := by omega
      have hp1 : w.heap.size + 1 < w3.heap.size := by omega
      have hp2 : w.heap.size + 2 < w3.heap.size := by omega
      have hp3 : w.heap.size + 1 + 1 < w3.heap.size := by omega
      by_cases ht : L.l.k = 2
      case neg =>
        have e1 : ((2 : Int) != L.l.k) = true := by rw [bne_iff_ne]; exact fun h => ht h.symm
        have Hnt := Lib.hid (show ¬ typeOf v.e.k = L.l.k by rw [Hk.out]; exact fun h => ht h.symm)
        clear ht
        go_wp2_with fail
        refine And.intro (by kernel_rfl) ?_
        go_wp2_with fail
        exact bodyPost_ret (v := .tuple #[.agg #[.int .u8 0, .int .i64 0, .int .u64 0, .int .u8 0, .int .u32 0, .int .u64 0, .string ⟨#[]⟩, .slice none 0 0, .slice none 0 0], .int .i64 15]) (by simp [results, Tryz.results48, go_sem, d2]; try rfl) rfl ⟨.inl ⟨15, by decide, rfl, fun ok => Hnt.out ok.2.2⟩, fin9 E.out.bel (by omega) _ _ _ _ _ _ _ _ _⟩
      case pos =>
        have e1 : ((2 : Int) != L.l.k) = false := by rw [ht]; simp
        have Hty := Lib.hid (show typeOf v.e.k = L.l.k by rw [Hk.out, ht]; rfl)
        clear ht
        go_wp2_with fail
        refine And.intro (by kernel_rfl) ?_
        by_cases ht0 : L.l.t = 0
        case pos =>
          have e2 : (L.l.t == 0) = true := by simpa using ht0
          have Ht0 := Lib.hid ht0
          clear ht0
          go_wp2_with fail
          refine bodyPost_ret (v := .tuple #[.agg #[.int .u8 L.l.k, .int .i64 (L.l.n), .int .u64 v.e.t, .int .u8 v.e.d.1.1, .int .u32 v.e.d.1.2, .int .u64 v.e.d.2, .string v.e.x, .slice L.ia L.l.items.length L.ic, .slice L.ta L.l.tombs.length L.tc], .int .i64 0]) (by simp [results, Tryz.results48, go_sem, d2, d0]; try rfl) rfl ?_
          exact app_same { L.l with t := v.e.t, d := v.e.d, x := v.e.x } HL.out Hme.out Hty.out (fin9 ((((((E.out.bel.setCell (p := ⟨w.heap.size, 2, none⟩) (Nat.le_refl _) _).setCell (p := ⟨w.heap.size, 3, none⟩) (Nat.le_refl _) _).setCell (p := ⟨w.heap.size, 4, none⟩) (Nat.le_refl _) _).setCell (p := ⟨w.heap.size, 5, none⟩) (Nat.le_refl _) _).setCell (p := ⟨w.heap.size, 6, none⟩) (Nat.le_refl _) _)) (by omega) _ _ _ _ _ _ _ _ _) rfl rfl (by simp only [applyP, Hk.out, show ¬ (2 : Int) = 1 by omega, if_false, if_true]; rw [if_pos (.inl Ht0.out)]) rfl
        case neg =>
          have e2 : (L.l.t == 0) = false := by simpa using ht0
          have Ht0 := Lib.hid ht0
          clear ht0
          go_wp2_with fail
          refine (rahead_any L.l.t L.l.d v.e.t v.e.d _).mono ?_
          rintro e w4 ⟨rfl, hb⟩
          replace E := Lib.hid (E.out.step hb)
          clear hb d0 d1 d2 g0 g2
          have d0 := cells_at E.out.b0
          have d1 := cells_at E.out.b1
          have d2 := cells_at E.out.b2
          have g0 := free_at E.out.b0
          have g2 := free_at E.out.b2
          simp only [lcells, ecells] at d0 d1 d2
          rw [Hk.out] at d1
          cases hah : aheadT L.l.t L.l.d v.e.t v.e.d with
          | true =>
            have Hah := Lib.hid hah
            clear hah
            go_wp2_with fail
            refine bodyPost_ret (v := .tuple #[.agg #[.int .u8 L.l.k, .int .i64 (L.l.n), .int .u64 v.e.t, .int .u8 v.e.d.1.1, .int .u32 v.e.d.1.2, .int .u64 v.e.d.2, .string v.e.x, .slice L.ia L.l.items.length L.ic, .slice L.ta L.l.tombs.length L.tc], .int .i64 0]) (by simp [results, Tryz.results48, go_sem, d2, d0]; try rfl) rfl ?_
            exact app_same { L.l with t := v.e.t, d := v.e.d, x := v.e.x } HL.out Hme.out Hty.out (fin9 ((((((E.out.bel.setCell (p := ⟨w.heap.size, 2, none⟩) (Nat.le_refl _) _).setCell (p := ⟨w.heap.size, 3, none⟩) (Nat.le_refl _) _).setCell (p := ⟨w.heap.size, 4, none⟩) (Nat.le_refl _) _).setCell (p := ⟨w.heap.size, 5, none⟩) (Nat.le_refl _) _).setCell (p := ⟨w.heap.size, 6, none⟩) (Nat.le_refl _) _)) (by omega) _ _ _ _ _ _ _ _ _) rfl rfl (by simp only [applyP, Hk.out, show ¬ (2 : Int) = 1 by omega, if_false, if_true]; rw [if_pos (.inr Hah.out)]) rfl
          | false =>
            have Hah := Lib.hid hah
            clear hah
            go_wp2_with fail
            refine bodyPost_ret (v := .tuple #[.agg #[.int .u8 L.l.k, .int .i64 L.l.n, .int .u64 L.l.t, .int .u8 L.l.d.1.1, .int .u32 L.l.d.1.2, .int .u64 L.l.d.2, .string L.l.x, .slice L.ia L.l.items.length L.ic, .slice L.ta L.l.tombs.length L.tc], .int .i64 0]) (by simp [results, Tryz.results48, go_sem, d2, d0]; try rfl) rfl ?_
            exact app_same L.l HL.out Hme.out Hty.out (fin9 (E.out.bel) (by omega) _ _ _ _ _ _ _ _ _) rfl rfl (by simp only [applyP, Hk.out, show ¬ (2 : Int) = 1 by omega, if_false, if_true]; rw [if_neg (fun h => h.elim Ht0.out (fun h => by rw [Hah.out] at h; cases h))]) rfl
end Go.Proofs.YtmabjghjkgicgaaGreat

/- ApB3 -/
namespace Go.Proofs.YtmabjghjkgicgaaGreat
open Go.RowKit
set_option linter.unusedVariables false
set_option linter.unusedSimpArgs false

set_option maxRecDepth 100000 in
set_option maxHeartbeats 8000000 in
theorem apply_put (L : Lv) (v : Ew) (w : World) (hl : LvAt w L) (hol : okL L.l) (hv : EwAt w v) (hk : v.e.k = 3) (hli : L.l.items.length ≤ 900000) (hlt : L.l.tombs.length ≤ 900000) (hds : v.e.ds.length ≤ 100) :
    Calls Tryz.prog 48 #[.agg #[.int .u8 L.l.k, .int .i64 L.l.n, .int .u64 L.l.t, .int .u8 L.l.d.1.1, .int .u32 L.l.d.1.2, .int .u64 L.l.d.2, .string L.l.x, .slice L.ia L.l.items.length L.ic, .slice L.ta L.l.tombs.length L.tc], .agg #[.int .u8 v.e.d.1.1, .int .u32 v.e.d.1.2, .int .u64 v.e.d.2, .int .u64 v.e.t, .int .u8 v.e.k, .slice v.pa v.pl.length v.pc, .int .i64 v.e.n, .string v.e.x, .slice v.da v.e.ds.length v.dc]] w (AppTo w L v) := by
  have HL := Lib.hid hl
  have Hol := Lib.hid hol
  have HV := Lib.hid hv
  have Hk := Lib.hid hk
  clear hl hol hv hk
  rw [Hk.out]
  go_enter Tryz.func48, Tryz.ntmps48
  go_wp2_with fail
  refine (rmayLf_any L.l L.ia L.ta L.ic L.tc _ (HL.out.below ?h1) Hol.out).mono ?_
  case h1 => exact (((Below.refl _ _).alloc (Nat.le_refl _) _).alloc (by simp) _).alloc (by simp; omega) _
  rintro e w1 ⟨q, rfl, hq, hb1⟩
  have E : Hid (ApE w w1 L v) := Lib.hid (ApE.of HL.out HV.out (by rw [show ecells v = #[.int .u8 v.e.d.1.1, .int .u32 v.e.d.1.2, .int .u64 v.e.d.2, .int .u64 v.e.t, .int .u8 3, .slice v.pa v.pl.length v.pc, .int .i64 v.e.n, .string v.e.x, .slice v.da v.e.ds.length v.dc] by rw [← Hk.out]; rfl]; exact hb1))
  have Hq := Lib.hid hq
  clear hb1 hq
  have d0 := cells_at E.out.b0
  have d1 := cells_at E.out.b1
  have d2 := cells_at E.out.b2
  have g0 := free_at E.out.b0
  have g2 := free_at E.out.b2
  simp only [lcells, ecells] at d0 d1 d2
  rw [Hk.out] at d1
  cases q with
  | false =>
    go_wp2_with fail
    exact bodyPost_ret (v := .tuple #[.agg #[.int .u8 0, .int .i64 0, .int .u64 0, .int .u8 0, .int .u32 0, .int .u64 0, .string ⟨#[]⟩, .slice none 0 0, .slice none 0 0], .int .i64 2]) (by simp [results, Tryz.results48, go_sem, d2]; try rfl) rfl ⟨.inl ⟨2, by decide, rfl, fun ok => by have := Hq.out.2 ok.1; cases this⟩, fin9 E.out.bel (by omega) _ _ _ _ _ _ _ _ _⟩
  | true =>
    go_wp2_with fail
    refine (mayEvent_k v w1 E.out.ev Hk.out).mono ?_
    intro e w2 hto
    obtain ⟨z, rfl, hz, hb⟩ := hto
    replace E := Lib.hid (E.out.step hb)
    have Hz := Lib.hid hz
    clear hz hb d0 d1 d2 g0 g2
    have d0 := cells_at E.out.b0
    have d1 := cells_at E.out.b1
    have d2 := cells_at E.out.b2
    have g0 := free_at E.out.b0
    have g2 := free_at E.out.b2
    simp only [lcells, ecells] at d0 d1 d2
    rw [Hk.out] at d1
    cases z with
    | false =>
      go_wp2_with fail
      exact bodyPost_ret (v := .tuple #[.agg #[.int .u8 0, .int .i64 0, .int .u64 0, .int .u8 0, .int .u32 0, .int .u64 0, .string ⟨#[]⟩, .slice none 0 0, .slice none 0 0], .int .i64 2]) (by simp [results, Tryz.results48, go_sem, d2]; try rfl) rfl ⟨.inl ⟨2, by decide, rfl, fun ok => by have := Hz.out.2 ok.2.1; cases this⟩, fin9 E.out.bel (by omega) _ _ _ _ _ _ _ _ _⟩
    | true =>
      have Hme := Lib.hid (Hz.out.1 rfl).ev
      clear Hz
      go_wp2_with fail
      refine region_text [([0, 1, 2, 4, 5], false), ([3], true), ([6], false)] mixed (by kernel_rfl) ?_
      simp only [wpSegs, List.map_cons, List.map_nil, List.getD_cons_succ, List.getD_cons_zero]
      go_wp2_with fail
      refine (type_any 3 _).mono ?_
      rintro e w3 ⟨rfl, hb⟩
      have HAg := Lib.hid (Agree.of_below hb)
      have hbd := ((Below.refl _ _).drew).trans hb
      replace E := Lib.hid (E.out.step hbd)
      clear hb hbd d0 d1 d2 g0 g2
      have d0 := cells_at E.out.b0
      have d1 := cells_at E.out.b1
      have d2 := cells_at E.out.b2
      have g0 := free_at E.out.b0
      have g2 := free_at E.out.b2
      simp only [lcells, ecells] at d0 d1 d2
      rw [Hk.out] at d1
      rw [show typeOf 3 = 3 from rfl]
      go_wp2_with fail
      refine And.intro HAg.out ?_
      clear HAg
      have hsz := E.out.sz
      have hp0 : w.heap.size < w3.heap.size := by omega
      have hp1 : w.heap.size + 1 < w3.heap.size := by omega
      have hp2 : w.heap.size + 2 < w3.heap.size := by omega
      have hp3 : w.heap.size + 1 + 1 < w3.heap.size := by omega
      by_cases ht : L.l.k = 3
      case neg =>
        have e1 : ((3 : Int) != L.l.k) = true := by rw [bne_iff_ne]; exact fun h => ht h.symm
        have Hnt := Lib.hid (show ¬ typeOf v.e.k = L.l.k by rw [Hk.out]; exact fun h => ht h.symm)
        clear ht
        go_wp2_with fail
        refine And.intro (by kernel_rfl) ?_
        go_wp2_with fail
        exact bodyPost_ret (v := .tuple #[.agg #[.int .u8 0, .int .i64 0, .int .u64 0, .int .u8 0, .int .u32 0, .int .u64 0, .string ⟨#[]⟩, .slice none 0 0, .slice none 0 0], .int .i64 15]) (by simp [results, Tryz.results48, go_sem, d2]; try rfl) rfl ⟨.inl ⟨15, by decide, rfl, fun ok => Hnt.out ok.2.2⟩, fin9 E.out.bel (by omega) _ _ _ _ _ _ _ _ _⟩
      case pos =>
        have e1 : ((3 : Int) != L.l.k) = false := by rw [ht]; simp
        have Hty := Lib.hid (show typeOf v.e.k = L.l.k by rw [Hk.out, ht]; rfl)
        clear ht
        go_wp2_with fail
        refine And.intro (by kernel_rfl) ?_
        go_wp2_with fail
        refine (rtomb_any L.ta L.tc L.l.tombs v.e.d _ E.out.al.tms (by omega)).mono ?_
        rintro e w4 ⟨q, rfl, hq, hb⟩
        replace E := Lib.hid (E.out.step hb)
        have Hq := Lib.hid hq
        have hsz4 := E.out.sz
        clear hq hb d0 d1 d2 g0 g2
        have d0 := cells_at E.out.b0
        have d1 := cells_at E.out.b1
        have d2 := cells_at E.out.b2
        have g0 := free_at E.out.b0
        have g2 := free_at E.out.b2
        simp only [lcells, ecells] at d0 d1 d2
        rw [Hk.out] at d1
        cases q with
        | true =>
          go_wp2_with fail
          refine bodyPost_ret (v := .tuple #[.agg #[.int .u8 L.l.k, .int .i64 L.l.n, .int .u64 L.l.t, .int .u8 L.l.d.1.1, .int .u32 L.l.d.1.2, .int .u64 L.l.d.2, .string L.l.x, .slice L.ia L.l.items.length L.ic, .slice L.ta L.l.tombs.length L.tc], .int .i64 0]) (by simp [results, Tryz.results48, go_sem, d2, d0]; try rfl) rfl ?_
          exact app_same L.l HL.out Hme.out Hty.out (fin9 (E.out.bel) (by omega) _ _ _ _ _ _ _ _ _) rfl rfl (by simp only [applyP, Hk.out, show ¬ (3 : Int) = 1 by omega, show ¬ (3 : Int) = 2 by omega, if_false, if_true]; rw [if_pos (Hq.out.1 (by simp))]) rfl
        | false =>
          go_wp2_with fail
          refine (rlay_any L.ia L.ic L.l.items (putI v.e) _ E.out.al.its (by omega)).mono ?_
          rintro e w5 ⟨a5, c5, v5, rfl, hv5, ho5, hb⟩
          replace E := Lib.hid (E.out.step hb)
          have Ho5 := Lib.hid (ho5.base (base' := w.heap.size + 3) hsz4)
          have Hv5 := Lib.hid hv5
          clear hb ho5 hv5 d0 d1 d2 g0 g2
          have d0 := cells_at E.out.b0
          have d1 := cells_at E.out.b1
          have d2 := cells_at E.out.b2
          have g0 := free_at E.out.b0
          have g2 := free_at E.out.b2
          simp only [lcells, ecells] at d0 d1 d2
          rw [Hk.out] at d1
          go_wp2_with fail
          have hl5 : v5.length ≤ 1000000 := by rw [Hv5.out]; exact Nat.le_trans (layP_len _ _) (by omega)
          refine bodyPost_ret (v := .tuple #[.agg #[.int .u8 L.l.k, .int .i64 (L.l.n), .int .u64 L.l.t, .int .u8 L.l.d.1.1, .int .u32 L.l.d.1.2, .int .u64 L.l.d.2, .string L.l.x, .slice a5 v5.length c5, .slice L.ta L.l.tombs.length L.tc], .int .i64 0]) (by simp [results, Tryz.results48, go_sem, d2, d0]; try rfl) rfl ?_
          exact app_items { L.l with items := v5 } a5 c5 HL.out Hme.out Hty.out (fin9 ((E.out.bel.setCell (p := ⟨w.heap.size, 7, none⟩) (Nat.le_refl _) _)) (by omega) _ _ _ _ _ _ _ _ _) (OwnI.its (owns9 (owns_chg Ho5.out (Chg.setCell _ ⟨w.heap.size, 7, none⟩ _) (fun k hk hm => by have := (owns_lt Ho5.out k hk).1; simp at hm; omega)) (by omega) _ _ _ _ _ _ _ _ _)) hl5 (fun k hk => by have := (owns_lt Ho5.out k hk).1; omega) rfl (by simp only [applyP, Hk.out, show ¬ (3 : Int) = 1 by omega, show ¬ (3 : Int) = 2 by omega, if_false, if_true]; rw [if_neg (fun h => by have := Hq.out.2 h; cases this), Hv5.out]) rfl
end Go.Proofs.YtmabjghjkgicgaaGreat

/- ApB4 -/
namespace Go.Proofs.YtmabjghjkgicgaaGreat
open Go.RowKit
set_option linter.unusedVariables false
set_option linter.unusedSimpArgs false

set_option maxRecDepth 100000 in
set_option maxHeartbeats 8000000 in
theorem apply_drop (L : Lv) (v : Ew) (w : World) (hl : LvAt w L) (hol : okL L.l) (hv : EwAt w v) (hk : v.e.k = 4) (hli : L.l.items.length ≤ 900000) (hlt : L.l.tombs.length ≤ 900000) (hds : v.e.ds.length ≤ 100) :
    Calls Tryz.prog 48 #[.agg #[.int .u8 L.l.k, .int .i64 L.l.n, .int .u64 L.l.t, .int .u8 L.l.d.1.1, .int .u32 L.l.d.1.2, .int .u64 L.l.d.2, .string L.l.x, .slice L.ia L.l.items.length L.ic, .slice L.ta L.l.tombs.length L.tc], .agg #[.int .u8 v.e.d.1.1, .int .u32 v.e.d.1.2, .int .u64 v.e.d.2, .int .u64 v.e.t, .int .u8 v.e.k, .slice v.pa v.pl.length v.pc, .int .i64 v.e.n, .string v.e.x, .slice v.da v.e.ds.length v.dc]] w (AppTo w L v) := by
  have HL := Lib.hid hl
  have Hol := Lib.hid hol
  have HV := Lib.hid hv
  have Hk := Lib.hid hk
  clear hl hol hv hk
  rw [Hk.out]
  go_enter Tryz.func48, Tryz.ntmps48
  go_wp2_with fail
  refine (rmayLf_any L.l L.ia L.ta L.ic L.tc _ (HL.out.below ?h1) Hol.out).mono ?_
  case h1 => exact (((Below.refl _ _).alloc (Nat.le_refl _) _).alloc (by simp) _).alloc (by simp; omega) _
  rintro e w1 ⟨q, rfl, hq, hb1⟩
  have E : Hid (ApE w w1 L v) := Lib.hid (ApE.of HL.out HV.out (by rw [show ecells v = #[.int .u8 v.e.d.1.1, .int .u32 v.e.d.1.2, .int .u64 v.e.d.2, .int .u64 v.e.t, .int .u8 4, .slice v.pa v.pl.length v.pc, .int .i64 v.e.n, .string v.e.x, .slice v.da v.e.ds.length v.dc] by rw [← Hk.out]; rfl]; exact hb1))
  have Hq := Lib.hid hq
  clear hb1 hq
  have d0 := cells_at E.out.b0
  have d1 := cells_at E.out.b1
  have d2 := cells_at E.out.b2
  have g0 := free_at E.out.b0
  have g2 := free_at E.out.b2
  simp only [lcells, ecells] at d0 d1 d2
  rw [Hk.out] at d1
  cases q with
  | false =>
    go_wp2_with fail
    exact bodyPost_ret (v := .tuple #[.agg #[.int .u8 0, .int .i64 0, .int .u64 0, .int .u8 0, .int .u32 0, .int .u64 0, .string ⟨#[]⟩, .slice none 0 0, .slice none 0 0], .int .i64 2]) (by simp [results, Tryz.results48, go_sem, d2]; try rfl) rfl ⟨.inl ⟨2, by decide, rfl, fun ok => by have := Hq.out.2 ok.1; cases this⟩, fin9 E.out.bel (by omega) _ _ _ _ _ _ _ _ _⟩
  | true =>
    go_wp2_with fail
    refine (mayEvent_k v w1 E.out.ev Hk.out).mono ?_
    intro e w2 hto
    obtain ⟨z, rfl, hz, hb⟩ := hto
    replace E := Lib.hid (E.out.step hb)
    have Hz := Lib.hid hz
    clear hz hb d0 d1 d2 g0 g2
    have d0 := cells_at E.out.b0
    have d1 := cells_at E.out.b1
    have d2 := cells_at E.out.b2
    have g0 := free_at E.out.b0
    have g2 := free_at E.out.b2
    simp only [lcells, ecells] at d0 d1 d2
    rw [Hk.out] at d1
    cases z with
    | false =>
      go_wp2_with fail
      exact bodyPost_ret (v := .tuple #[.agg #[.int .u8 0, .int .i64 0, .int .u64 0, .int .u8 0, .int .u32 0, .int .u64 0, .string ⟨#[]⟩, .slice none 0 0, .slice none 0 0], .int .i64 2]) (by simp [results, Tryz.results48, go_sem, d2]; try rfl) rfl ⟨.inl ⟨2, by decide, rfl, fun ok => by have := Hz.out.2 ok.2.1; cases this⟩, fin9 E.out.bel (by omega) _ _ _ _ _ _ _ _ _⟩
    | true =>
      have Hme := Lib.hid (Hz.out.1 rfl).ev
      clear Hz
      go_wp2_with fail
      refine region_text [([0, 1, 2, 4, 5], false), ([3], true), ([6], false)] mixed (by kernel_rfl) ?_
      simp only [wpSegs, List.map_cons, List.map_nil, List.getD_cons_succ, List.getD_cons_zero]
      go_wp2_with fail
      refine (type_any 4 _).mono ?_
      rintro e w3 ⟨rfl, hb⟩
      have HAg := Lib.hid (Agree.of_below hb)
      have hbd := ((Below.refl _ _).drew).trans hb
      replace E := Lib.hid (E.out.step hbd)
      clear hb hbd d0 d1 d2 g0 g2
      have d0 := cells_at E.out.b0
      have d1 := cells_at E.out.b1
      have d2 := cells_at E.out.b2
      have g0 := free_at E.out.b0
      have g2 := free_at E.out.b2
      simp only [lcells, ecells] at d0 d1 d2
      rw [Hk.out] at d1
      rw [show typeOf 4 = 3 from rfl]
      go_wp2_with fail
      refine And.intro HAg.out ?_
      clear HAg
      have hsz := E.out.sz
      have hp0 : w.heap.size < w3.heap.size := by omega
      have hp1 : w.heap.size + 1 < w3.heap.size := by omega
      have hp2 : w.heap.size + 2 < w3.heap.size := by omega
      have hp3 : w.heap.size + 1 + 1 < w3.heap.size := by omega
      by_cases ht : L.l.k = 3
      case neg =>
        have e1 : ((3 : Int) != L.l.k) = true := by rw [bne_iff_ne]; exact fun h => ht h.symm
        have Hnt := Lib.hid (show ¬ typeOf v.e.k = L.l.k by rw [Hk.out]; exact fun h => ht h.symm)
        clear ht
        go_wp2_with fail
        refine And.intro (by kernel_rfl) ?_
        go_wp2_with fail
        exact bodyPost_ret (v := .tuple #[.agg #[.int .u8 0, .int .i64 0, .int .u64 0, .int .u8 0, .int .u32 0, .int .u64 0, .string ⟨#[]⟩, .slice none 0 0, .slice none 0 0], .int .i64 15]) (by simp [results, Tryz.results48, go_sem, d2]; try rfl) rfl ⟨.inl ⟨15, by decide, rfl, fun ok => Hnt.out ok.2.2⟩, fin9 E.out.bel (by omega) _ _ _ _ _ _ _ _ _⟩
      case pos =>
        have e1 : ((3 : Int) != L.l.k) = false := by rw [ht]; simp
        have Hty := Lib.hid (show typeOf v.e.k = L.l.k by rw [Hk.out, ht]; rfl)
        clear ht
        go_wp2_with fail
        refine And.intro (by kernel_rfl) ?_
        go_wp2_with fail
        go_loopw [6] (fun j wr => JDr w L v j wr) (fun j _ => v.e.ds.length - (intOf j).toNat)
        case atStart => exact ⟨0, L.ta, L.tc, L.l.tombs, Nat.zero_le _, rfl, by simp [buryAll], DrE.of E.out HL.out⟩
        case round =>
          clear E d0 d1 d2 g0 g2 hsz hp0 hp1 hp2 hp3
          obtain ⟨q, va, vc, u, hq, rfl, hu, hE⟩ := hrel
          have E := Lib.hid hE
          have Hu := Lib.hid hu
          have hul : u.length ≤ 901000 := by
            rw [hu]
            refine Nat.le_trans (buryAll_len _ _) ?_
            simp
            omega
          clear hE hu
          have d0 := cells_at E.out.b0
          have d1 := cells_at E.out.b1
          have d2 := cells_at E.out.b2
          have g0 := free_at E.out.b0
          have g2 := free_at E.out.b2
          simp only [lcells, ecells] at d0 d1 d2
          rw [Hk.out] at d1
          have hsz := E.out.sz
          have hp0 : w.heap.size < wr.heap.size := by omega
          have hp1 : w.heap.size + 1 < wr.heap.size := by omega
          have hp2 : w.heap.size + 2 < wr.heap.size := by omega
          by_cases hlt : q < v.e.ds.length
          · obtain ⟨⟨⟨yr, yi⟩, ys⟩, hx⟩ : ∃ x, v.e.ds[q]? = some x := ⟨v.e.ds[q], by simp [hlt]⟩
            obtain ⟨ad, had, c0, c1, c2, hl0⟩ := (HV.out.ds.below E.out.bel).at hx
            rw [had] at d1
            dsimp only at c0 c1 c2
            have Hx := Lib.hid hx
            have Had := Lib.hid had
            clear hx had
            go_wp2_with fail
            refine region_text [([0, 1, 2, 3, 4, 5, 6, 7, 8, 9, 10], false)] mixed (by kernel_rfl) ?_
            simp only [wpSegs, List.map_cons, List.map_nil, List.getD_cons_succ, List.getD_cons_zero]
            go_wp2_with fail
            refine (rburyX_any va vc u ((yr, yi), ys) _ (E.out.tm.below (Below.refl _ _).drew) (by omega)).mono ?_
            rintro e w5 ⟨a5, c5, v5, rfl, hv5, hvec5, hob5, hb5⟩
            have hb5' := ((Below.refl _ _).drew).trans hb5
            have E5 := E.out.step hb5'
            have d5 := cells_at E5.b0
            have g5 := free_at E5.b0
            simp only [lcells] at d5
            have E6 := Lib.hid (E5.put hvec5 (by rw [hv5]; exact buryP_ne _ _) (fun k hk => (hob5 k hk).elim (fun h => E.out.ap h.2 k h.1) (fun h => .inr (Nat.le_trans hsz h))))
            have Hv5 := Lib.hid hv5
            clear hb5 hb5' E5 hvec5 hob5 hv5 d0 d1 d2 g0 g2
            go_wp2_with fail
            refine And.intro (by kernel_rfl) ?_
            go_wp2_with fail
            go_roundw
            case rel => exact ⟨q + 1, a5, c5, v5, by omega, by go_num, by rw [Hv5.out, Hu.out, take_snoc' Hx.out, buryAll_snoc], E6.out⟩
            case measure => simp [intOf]; omega
          · have huu : u = buryAll L.l.tombs v.e.ds := by have := Hu.out; rwa [List.take_of_length_le (by omega)] at this
            have Huu := Lib.hid huu
            clear Hu huu
            go_wp2_with fail
            refine (rleft_any L.ia va L.ic vc L.l.items u _ (HL.out.its.below E.out.bel) E.out.tm (by omega) (by omega)).mono ?_
            rintro e w5 ⟨a5, c5, v5, rfl, hv5, ho5, hb⟩
            replace E := Lib.hid (E.out.step hb)
            have Ho5 := Lib.hid (ho5.base (base' := w.heap.size + 3) hsz)
            have Hv5 := Lib.hid hv5
            have hl5 : v5.length ≤ 1000000 := by rw [hv5]; exact Nat.le_trans (List.length_filter_le _ _) (by omega)
            clear hb ho5 hv5 d0 d1 d2 g0 g2
            have d0 := cells_at E.out.b0
            have d1 := cells_at E.out.b1
            have d2 := cells_at E.out.b2
            have g0 := free_at E.out.b0
            have g2 := free_at E.out.b2
            simp only [lcells, ecells] at d0 d1 d2
            rw [Hk.out] at d1
            go_wp2_with fail
            refine bodyPost_ret (v := .tuple #[.agg #[.int .u8 L.l.k, .int .i64 (L.l.n), .int .u64 L.l.t, .int .u8 L.l.d.1.1, .int .u32 L.l.d.1.2, .int .u64 L.l.d.2, .string L.l.x, .slice a5 v5.length c5, .slice va u.length vc], .int .i64 0]) (by simp [results, Tryz.results48, go_sem, d2, d0]; try rfl) rfl ?_
            have hC : ∀ (x0 x1 x2 x3 x4 x5 x6 x7 x8 y : Value), Chg [w.heap.size, w.heap.size + 2] w5 _ := fun x0 x1 x2 x3 x4 x5 x6 x7 x8 y => ((((((((((Chg.refl [w.heap.size, w.heap.size + 2] w5).set ⟨w.heap.size, 7, none⟩ y (by simp)).set ⟨w.heap.size + 2, 0, none⟩ x0 (by simp)).set ⟨w.heap.size + 2, 1, none⟩ x1 (by simp)).set ⟨w.heap.size + 2, 2, none⟩ x2 (by simp)).set ⟨w.heap.size + 2, 3, none⟩ x3 (by simp)).set ⟨w.heap.size + 2, 4, none⟩ x4 (by simp)).set ⟨w.heap.size + 2, 5, none⟩ x5 (by simp)).set ⟨w.heap.size + 2, 6, none⟩ x6 (by simp)).set ⟨w.heap.size + 2, 7, none⟩ x7 (by simp)).set ⟨w.heap.size + 2, 8, none⟩ x8 (by simp)
            exact app_both { L.l with tombs := u, items := v5 } a5 va c5 vc Hme.out Hty.out (fin9 ((E.out.bel.setCell (p := ⟨w.heap.size, 7, none⟩) (Nat.le_refl _) _)) (by omega) _ _ _ _ _ _ _ _ _) (OwnI.its (owns_chg Ho5.out (hC _ _ _ _ _ _ _ _ _ _) (fun k hk hm => by have := (owns_lt Ho5.out k hk).1; simp at hm; omega))) hl5 (Vec.chg0 E.out.tm (hC _ _ _ _ _ _ _ _ _ _) (fun hne k hk hm => by have := E.out.ap hne k hk; simp at hm; omega)) (by show u.length ≤ _; omega) (by simp only [applyP, Hk.out, show ¬ (4 : Int) = 1 by omega, show ¬ (4 : Int) = 2 by omega, show ¬ (4 : Int) = 3 by omega, if_false, if_true]; rw [Hv5.out, Huu.out]) rfl
end Go.Proofs.YtmabjghjkgicgaaGreat

/- ApB5 -/
namespace Go.Proofs.YtmabjghjkgicgaaGreat
open Go.RowKit
set_option linter.unusedVariables false
set_option linter.unusedSimpArgs false

set_option maxRecDepth 100000 in
set_option maxHeartbeats 8000000 in
theorem apply_say (L : Lv) (v : Ew) (w : World) (hl : LvAt w L) (hol : okL L.l) (hv : EwAt w v) (hk : v.e.k = 5) (hli : L.l.items.length ≤ 900000) (hlt : L.l.tombs.length ≤ 900000) (hds : v.e.ds.length ≤ 100) :
    Calls Tryz.prog 48 #[.agg #[.int .u8 L.l.k, .int .i64 L.l.n, .int .u64 L.l.t, .int .u8 L.l.d.1.1, .int .u32 L.l.d.1.2, .int .u64 L.l.d.2, .string L.l.x, .slice L.ia L.l.items.length L.ic, .slice L.ta L.l.tombs.length L.tc], .agg #[.int .u8 v.e.d.1.1, .int .u32 v.e.d.1.2, .int .u64 v.e.d.2, .int .u64 v.e.t, .int .u8 v.e.k, .slice v.pa v.pl.length v.pc, .int .i64 v.e.n, .string v.e.x, .slice v.da v.e.ds.length v.dc]] w (AppTo w L v) := by
  have HL := Lib.hid hl
  have Hol := Lib.hid hol
  have HV := Lib.hid hv
  have Hk := Lib.hid hk
  clear hl hol hv hk
  rw [Hk.out]
  go_enter Tryz.func48, Tryz.ntmps48
  go_wp2_with fail
  refine (rmayLf_any L.l L.ia L.ta L.ic L.tc _ (HL.out.below ?h1) Hol.out).mono ?_
  case h1 => exact (((Below.refl _ _).alloc (Nat.le_refl _) _).alloc (by simp) _).alloc (by simp; omega) _
  rintro e w1 ⟨q, rfl, hq, hb1⟩
  have E : Hid (ApE w w1 L v) := Lib.hid (ApE.of HL.out HV.out (by rw [show ecells v = #[.int .u8 v.e.d.1.1, .int .u32 v.e.d.1.2, .int .u64 v.e.d.2, .int .u64 v.e.t, .int .u8 5, .slice v.pa v.pl.length v.pc, .int .i64 v.e.n, .string v.e.x, .slice v.da v.e.ds.length v.dc] by rw [← Hk.out]; rfl]; exact hb1))
  have Hq := Lib.hid hq
  clear hb1 hq
  have d0 := cells_at E.out.b0
  have d1 := cells_at E.out.b1
  have d2 := cells_at E.out.b2
  have g0 := free_at E.out.b0
  have g2 := free_at E.out.b2
  simp only [lcells, ecells] at d0 d1 d2
  rw [Hk.out] at d1
  cases q with
  | false =>
    go_wp2_with fail
    exact bodyPost_ret (v := .tuple #[.agg #[.int .u8 0, .int .i64 0, .int .u64 0, .int .u8 0, .int .u32 0, .int .u64 0, .string ⟨#[]⟩, .slice none 0 0, .slice none 0 0], .int .i64 2]) (by simp [results, Tryz.results48, go_sem, d2]; try rfl) rfl ⟨.inl ⟨2, by decide, rfl, fun ok => by have := Hq.out.2 ok.1; cases this⟩, fin9 E.out.bel (by omega) _ _ _ _ _ _ _ _ _⟩
  | true =>
    go_wp2_with fail
    refine (mayEvent_k v w1 E.out.ev Hk.out).mono ?_
    intro e w2 hto
    obtain ⟨z, rfl, hz, hb⟩ := hto
    replace E := Lib.hid (E.out.step hb)
    have Hz := Lib.hid hz
    clear hz hb d0 d1 d2 g0 g2
    have d0 := cells_at E.out.b0
    have d1 := cells_at E.out.b1
    have d2 := cells_at E.out.b2
    have g0 := free_at E.out.b0
    have g2 := free_at E.out.b2
    simp only [lcells, ecells] at d0 d1 d2
    rw [Hk.out] at d1
    cases z with
    | false =>
      go_wp2_with fail
      exact bodyPost_ret (v := .tuple #[.agg #[.int .u8 0, .int .i64 0, .int .u64 0, .int .u8 0, .int .u32 0, .int .u64 0, .string ⟨#[]⟩, .slice none 0 0, .slice none 0 0], .int .i64 2]) (by simp [results, Tryz.results48, go_sem, d2]; try rfl) rfl ⟨.inl ⟨2, by decide, rfl, fun ok => by have := Hz.out.2 ok.2.1; cases this⟩, fin9 E.out.bel (by omega) _ _ _ _ _ _ _ _ _⟩
    | true =>
      have Hme := Lib.hid (Hz.out.1 rfl).ev
      clear Hz
      go_wp2_with fail
      refine region_text [([0, 1, 2, 4, 5], false), ([3], true), ([6], false)] mixed (by kernel_rfl) ?_
      simp only [wpSegs, List.map_cons, List.map_nil, List.getD_cons_succ, List.getD_cons_zero]
      go_wp2_with fail
      refine (type_any 5 _).mono ?_
      rintro e w3 ⟨rfl, hb⟩
      have HAg := Lib.hid (Agree.of_below hb)
      have hbd := ((Below.refl _ _).drew).trans hb
      replace E := Lib.hid (E.out.step hbd)
      clear hb hbd d0 d1 d2 g0 g2
      have d0 := cells_at E.out.b0
      have d1 := cells_at E.out.b1
      have d2 := cells_at E.out.b2
      have g0 := free_at E.out.b0
      have g2 := free_at E.out.b2
      simp only [lcells, ecells] at d0 d1 d2
      rw [Hk.out] at d1
      rw [show typeOf 5 = 4 from rfl]
      go_wp2_with fail
      refine And.intro HAg.out ?_
      clear HAg
      have hsz := E.out.sz
      have hp0 : w.heap.size < w3.heap.size := by omega
      have hp1 : w.heap.size + 1 < w3.heap.size := by omega
      have hp2 : w.heap.size + 2 < w3.heap.size := by omega
      have hp3 : w.heap.size + 1 + 1 < w3.heap.size := by omega
      by_cases ht : L.l.k = 4
      case neg =>
        have e1 : ((4 : Int) != L.l.k) = true := by rw [bne_iff_ne]; exact fun h => ht h.symm
        have Hnt := Lib.hid (show ¬ typeOf v.e.k = L.l.k by rw [Hk.out]; exact fun h => ht h.symm)
        clear ht
        go_wp2_with fail
        refine And.intro (by kernel_rfl) ?_
        go_wp2_with fail
        exact bodyPost_ret (v := .tuple #[.agg #[.int .u8 0, .int .i64 0, .int .u64 0, .int .u8 0, .int .u32 0, .int .u64 0, .string ⟨#[]⟩, .slice none 0 0, .slice none 0 0], .int .i64 15]) (by simp [results, Tryz.results48, go_sem, d2]; try rfl) rfl ⟨.inl ⟨15, by decide, rfl, fun ok => Hnt.out ok.2.2⟩, fin9 E.out.bel (by omega) _ _ _ _ _ _ _ _ _⟩
      case pos =>
        have e1 : ((4 : Int) != L.l.k) = false := by rw [ht]; simp
        have Hty := Lib.hid (show typeOf v.e.k = L.l.k by rw [Hk.out, ht]; rfl)
        clear ht
        go_wp2_with fail
        refine And.intro (by kernel_rfl) ?_
        go_wp2_with fail
        refine (rlay_any L.ia L.ic L.l.items (sayI v.e) _ E.out.al.its (by omega)).mono ?_
        rintro e w5 ⟨a5, c5, v5, rfl, hv5, ho5, hb⟩
        replace E := Lib.hid (E.out.step hb)
        have Ho5 := Lib.hid (ho5.base (base' := w.heap.size + 3) hsz)
        have Hv5 := Lib.hid hv5
        clear hb ho5 hv5 d0 d1 d2 g0 g2
        have d0 := cells_at E.out.b0
        have d1 := cells_at E.out.b1
        have d2 := cells_at E.out.b2
        have g0 := free_at E.out.b0
        have g2 := free_at E.out.b2
        simp only [lcells, ecells] at d0 d1 d2
        rw [Hk.out] at d1
        go_wp2_with fail
        have hl5 : v5.length ≤ 1000000 := by rw [Hv5.out]; exact Nat.le_trans (layP_len _ _) (by omega)
        refine bodyPost_ret (v := .tuple #[.agg #[.int .u8 L.l.k, .int .i64 (L.l.n), .int .u64 L.l.t, .int .u8 L.l.d.1.1, .int .u32 L.l.d.1.2, .int .u64 L.l.d.2, .string L.l.x, .slice a5 v5.length c5, .slice L.ta L.l.tombs.length L.tc], .int .i64 0]) (by simp [results, Tryz.results48, go_sem, d2, d0]; try rfl) rfl ?_
        exact app_items { L.l with items := v5 } a5 c5 HL.out Hme.out Hty.out (fin9 ((E.out.bel.setCell (p := ⟨w.heap.size, 7, none⟩) (Nat.le_refl _) _)) (by omega) _ _ _ _ _ _ _ _ _) (OwnI.its (owns9 (owns_chg Ho5.out (Chg.setCell _ ⟨w.heap.size, 7, none⟩ _) (fun k hk hm => by have := (owns_lt Ho5.out k hk).1; simp at hm; omega)) (by omega) _ _ _ _ _ _ _ _ _)) hl5 (fun k hk => by have := (owns_lt Ho5.out k hk).1; omega) rfl (by simp only [applyP, Hk.out, show ¬ (5 : Int) = 1 by omega, show ¬ (5 : Int) = 2 by omega, show ¬ (5 : Int) = 3 by omega, show ¬ (5 : Int) = 4 by omega, if_false]; rw [Hv5.out]) rfl
end Go.Proofs.YtmabjghjkgicgaaGreat

/- AqC -/
namespace Go.Proofs.YtmabjghjkgicgaaGreat
open Go.RowKit
set_option linter.unusedVariables false
set_option linter.unusedSimpArgs false

set_option maxRecDepth 100000 in
set_option maxHeartbeats 8000000 in
theorem apply_other (L : Lv) (v : Ew) (w : World) (hl : LvAt w L) (hol : okL L.l) (hv : EwAt w v) (hk : typeOf v.e.k = 0) :
    Calls Tryz.prog 48 #[.agg #[.int .u8 L.l.k, .int .i64 L.l.n, .int .u64 L.l.t, .int .u8 L.l.d.1.1, .int .u32 L.l.d.1.2, .int .u64 L.l.d.2, .string L.l.x, .slice L.ia L.l.items.length L.ic, .slice L.ta L.l.tombs.length L.tc], .agg #[.int .u8 v.e.d.1.1, .int .u32 v.e.d.1.2, .int .u64 v.e.d.2, .int .u64 v.e.t, .int .u8 v.e.k, .slice v.pa v.pl.length v.pc, .int .i64 v.e.n, .string v.e.x, .slice v.da v.e.ds.length v.dc]] w (AppTo w L v) := by
  have HL := Lib.hid hl
  have Hol := Lib.hid hol
  have HV := Lib.hid hv
  have Hk := Lib.hid hk
  clear hl hol hv hk
  go_enter Tryz.func48, Tryz.ntmps48
  go_wp2_with fail
  refine (rmayLf_any L.l L.ia L.ta L.ic L.tc _ (HL.out.below ?h1) Hol.out).mono ?_
  case h1 => exact (((Below.refl _ _).alloc (Nat.le_refl _) _).alloc (by simp) _).alloc (by simp; omega) _
  rintro e w1 ⟨q, rfl, hq, hb1⟩
  have E : Hid (ApE w w1 L v) := Lib.hid (ApE.of HL.out HV.out hb1)
  have Hq := Lib.hid hq
  clear hb1 hq
  have d0 := cells_at E.out.b0
  have d1 := cells_at E.out.b1
  have d2 := cells_at E.out.b2
  have g0 := free_at E.out.b0
  have g2 := free_at E.out.b2
  simp only [lcells, ecells] at d0 d1 d2
  cases q with
  | false =>
    go_wp2_with fail
    exact bodyPost_ret (v := .tuple #[.agg #[.int .u8 0, .int .i64 0, .int .u64 0, .int .u8 0, .int .u32 0, .int .u64 0, .string ⟨#[]⟩, .slice none 0 0, .slice none 0 0], .int .i64 2]) (by simp [results, Tryz.results48, go_sem, d2]; try rfl) rfl ⟨.inl ⟨2, by decide, rfl, fun ok => by have := Hq.out.2 ok.1; cases this⟩, fin9 E.out.bel (by omega) _ _ _ _ _ _ _ _ _⟩
  | true =>
    go_wp2_with fail
    refine (mayEventX_any v w1 E.out.ev).mono ?_
    intro e w2 hto
    obtain ⟨z, rfl, hz, hb⟩ := hto
    replace E := Lib.hid (E.out.step hb)
    have Hz := Lib.hid hz
    clear hz hb d0 d1 d2 g0 g2
    have d0 := cells_at E.out.b0
    have d1 := cells_at E.out.b1
    have d2 := cells_at E.out.b2
    have g0 := free_at E.out.b0
    have g2 := free_at E.out.b2
    simp only [lcells, ecells] at d0 d1 d2
    cases z with
    | true => exact absurd Hk.out (Hz.out.1 rfl).ev.k
    | false =>
      go_wp2_with fail
      exact bodyPost_ret (v := .tuple #[.agg #[.int .u8 0, .int .i64 0, .int .u64 0, .int .u8 0, .int .u32 0, .int .u64 0, .string ⟨#[]⟩, .slice none 0 0, .slice none 0 0], .int .i64 2]) (by simp [results, Tryz.results48, go_sem, d2]; try rfl) rfl ⟨.inl ⟨2, by decide, rfl, fun ok => by have := Hz.out.2 ok.2.1; cases this⟩, fin9 E.out.bel (by omega) _ _ _ _ _ _ _ _ _⟩
theorem apply_any (L : Lv) (v : Ew) (w : World) (hl : LvAt w L) (hol : okL L.l) (hv : EwAt w v) (hli : L.l.items.length ≤ 900000) (hlt : L.l.tombs.length ≤ 900000) (hds : v.e.ds.length ≤ 100) :
    Calls Tryz.prog 48 #[.agg #[.int .u8 L.l.k, .int .i64 L.l.n, .int .u64 L.l.t, .int .u8 L.l.d.1.1, .int .u32 L.l.d.1.2, .int .u64 L.l.d.2, .string L.l.x, .slice L.ia L.l.items.length L.ic, .slice L.ta L.l.tombs.length L.tc], .agg #[.int .u8 v.e.d.1.1, .int .u32 v.e.d.1.2, .int .u64 v.e.d.2, .int .u64 v.e.t, .int .u8 v.e.k, .slice v.pa v.pl.length v.pc, .int .i64 v.e.n, .string v.e.x, .slice v.da v.e.ds.length v.dc]] w (AppTo w L v) := by
  by_cases h1 : v.e.k = 1
  · exact apply_add L v w hl hol hv h1 hli hlt hds
  by_cases h2 : v.e.k = 2
  · exact apply_set L v w hl hol hv h2 hli hlt hds
  by_cases h3 : v.e.k = 3
  · exact apply_put L v w hl hol hv h3 hli hlt hds
  by_cases h4 : v.e.k = 4
  · exact apply_drop L v w hl hol hv h4 hli hlt hds
  by_cases h5 : v.e.k = 5
  · exact apply_say L v w hl hol hv h5 hli hlt hds
  exact apply_other L v w hl hol hv (by simp [typeOf, h1, h2, h3, h4, h5])
end Go.Proofs.YtmabjghjkgicgaaGreat
