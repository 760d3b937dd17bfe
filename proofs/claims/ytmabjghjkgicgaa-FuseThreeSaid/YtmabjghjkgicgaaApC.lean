/- varveref05.Apply: contract. Printed by genapply.py. -/
import Derived.Test.YtmabjghjkgicgaaApB
namespace Go.Proofs.Ytmabjghjkgicgaa
open Go.RowKit
set_option linter.unusedVariables false
set_option linter.unusedSimpArgs false

set_option maxRecDepth 100000 in
set_option maxHeartbeats 8000000 in
theorem apply_other (L : Lv) (v : Ew) (w : World) (hl : LvAt w L) (hol : okL L.l) (hv : EwAt w v) (hk : typeOf v.e.k = 0) :
    Calls Try.prog 23 #[.agg #[.int .u8 L.l.k, .int .i64 L.l.n, .int .u64 L.l.t, .int .u8 L.l.d.1.1, .int .u32 L.l.d.1.2, .int .u64 L.l.d.2, .string L.l.x, .slice L.ia L.l.items.length L.ic, .slice L.ta L.l.tombs.length L.tc], .agg #[.int .u8 v.e.d.1.1, .int .u32 v.e.d.1.2, .int .u64 v.e.d.2, .int .u64 v.e.t, .int .u8 v.e.k, .slice v.pa v.pl.length v.pc, .int .i64 v.e.n, .string v.e.x, .slice v.da v.e.ds.length v.dc]] w (AppTo w L v) := by
  have HL := Lib.hid hl
  have Hol := Lib.hid hol
  have HV := Lib.hid hv
  have Hk := Lib.hid hk
  clear hl hol hv hk
  go_enter Try.func23, Try.ntmps23
  go_wp2_with fail
  refine (rmayLf_any L.l L.ia L.ta L.ic L.tc _ (HL.out.below ?h1) Hol.out).mono ?_
  case h1 => exact (((Below.refl _ _).alloc (Nat.le_refl _) _).alloc (by simp) _).alloc (by simp; omega) _
  rintro e w1 ⟨q, rfl, hq, hb1⟩
  have E : Hid (ApE w w1 L v) := Lib.hid (ApE.of HL.out HV.out hb1)
  clear hb1 hq
  have d0 := cells_at E.out.b0
  have d1 := cells_at E.out.b1
  have d2 := cells_at E.out.b2
  have g0 := free_at E.out.b0
  have g2 := free_at E.out.b2
  simp only [lcells, ecells] at d0 d1 d2
  cases q with
  | false =>
    go_wp2_with fail
    exact bodyPost_ret (v := .tuple #[.agg #[.int .u8 0, .int .i64 0, .int .u64 0, .int .u8 0, .int .u32 0, .int .u64 0, .string ⟨#[]⟩, .slice none 0 0, .slice none 0 0], .int .i64 2]) (by simp [results, Try.results23, go_sem, d2]; try rfl) rfl ⟨.inl ⟨2, by decide, rfl⟩, fin9 E.out.bel (by omega) _ _ _ _ _ _ _ _ _⟩
  | true =>
    go_wp2_with fail
    refine (mayEvent_any v w1 E.out.ev).mono ?_
    intro e w2 hto
    obtain ⟨z, rfl, hz, hb⟩ := hto
    replace E := Lib.hid (E.out.step hb)
    have Hz := Lib.hid hz
    clear hz hb d0 d1 d2 g0 g2
    have d0 := cells_at E.out.b0
    have d1 := cells_at E.out.b1
    have d2 := cells_at E.out.b2
    have g0 := free_at E.out.b0
    have g2 := free_at E.out.b2
    simp only [lcells, ecells] at d0 d1 d2
    cases z with
    | true => exact absurd Hk.out (Hz.out (by simp)).k
    | false =>
      go_wp2_with fail
      exact bodyPost_ret (v := .tuple #[.agg #[.int .u8 0, .int .i64 0, .int .u64 0, .int .u8 0, .int .u32 0, .int .u64 0, .string ⟨#[]⟩, .slice none 0 0, .slice none 0 0], .int .i64 2]) (by simp [results, Try.results23, go_sem, d2]; try rfl) rfl ⟨.inl ⟨2, by decide, rfl⟩, fin9 E.out.bel (by omega) _ _ _ _ _ _ _ _ _⟩
theorem apply_any (L : Lv) (v : Ew) (w : World) (hl : LvAt w L) (hol : okL L.l) (hv : EwAt w v) (hta : ∀ k ∈ ob L.ta, k < w.heap.size) (hli : L.l.items.length ≤ 900000) (hlt : L.l.tombs.length ≤ 900000) (hds : v.e.ds.length ≤ 100) :
    Calls Try.prog 23 #[.agg #[.int .u8 L.l.k, .int .i64 L.l.n, .int .u64 L.l.t, .int .u8 L.l.d.1.1, .int .u32 L.l.d.1.2, .int .u64 L.l.d.2, .string L.l.x, .slice L.ia L.l.items.length L.ic, .slice L.ta L.l.tombs.length L.tc], .agg #[.int .u8 v.e.d.1.1, .int .u32 v.e.d.1.2, .int .u64 v.e.d.2, .int .u64 v.e.t, .int .u8 v.e.k, .slice v.pa v.pl.length v.pc, .int .i64 v.e.n, .string v.e.x, .slice v.da v.e.ds.length v.dc]] w (AppTo w L v) := by
  by_cases h1 : v.e.k = 1
  · exact apply_add L v w hl hol hv h1 hta hli hlt hds
  by_cases h2 : v.e.k = 2
  · exact apply_set L v w hl hol hv h2 hta hli hlt hds
  by_cases h3 : v.e.k = 3
  · exact apply_put L v w hl hol hv h3 hta hli hlt hds
  by_cases h4 : v.e.k = 4
  · exact apply_drop L v w hl hol hv h4 hta hli hlt hds
  by_cases h5 : v.e.k = 5
  · exact apply_say L v w hl hol hv h5 hta hli hlt hds
  exact apply_other L v w hl hol hv (by simp [typeOf, h1, h2, h3, h4, h5])
end Go.Proofs.Ytmabjghjkgicgaa
