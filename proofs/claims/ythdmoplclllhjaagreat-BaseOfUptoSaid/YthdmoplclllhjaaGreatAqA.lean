/- The reference's Bury, with a word on an empty row. | varveref04.MayEvent, exact. | What is known in varveref05.Apply. Printed by genapply.py. -/
import Derived.Test.YthdmoplclllhjaaGreatRefLA
import Derived.Test.YthdmoplclllhjaaGreatMayB
import Derived.Test.YthdmoplclllhjaaGreatMeanT
import Derived.Test.YthdmoplclllhjaaGreatMeanW
import Derived.Test.YthdmoplclllhjaaGreatFuseG
/- AqR -/
namespace Go.Proofs.YthdmoplclllhjaaGreat
open Go.RowKit
set_option linter.unusedVariables false
set_option linter.unusedSimpArgs false

end Go.Proofs.YthdmoplclllhjaaGreat

/- EvX -/
namespace Go.Proofs.YthdmoplclllhjaaGreat
open Go.RowKit
set_option linter.unusedVariables false
set_option linter.unusedSimpArgs false

/-- an event that may be -/
structure MayEvX (v : Ew) : Prop where
  d : may v.e.d = true
  lo : 1 ≤ v.e.t
  hi : v.e.t ≤ 1099511627776
  op : OpP v.e.k v.e.n v.e.x v.pl v.e.ds
theorem MayEvX.ev {v : Ew} (h : MayEvX v) : MayEv v.e := by
  refine ⟨h.d, h.lo, h.hi, h.op.kind, h.op.text, fun d hd => ?_⟩
  by_cases h1 : v.e.k = 1
  · rw [(h.op.add h1).2.2.2] at hd; cases hd
  · exact (h.op.rest h1).2.2.1 d hd
set_option maxRecDepth 100000 in
set_option maxHeartbeats 1000000 in
theorem mayEventX_any (v : Ew) (w : World) (h : EwAt w v) :
    Calls Tryz.prog 159 #[.agg #[.int .u8 v.e.d.1.1, .int .u32 v.e.d.1.2, .int .u64 v.e.d.2, .int .u64 v.e.t, .int .u8 v.e.k, .slice v.pa v.pl.length v.pc, .int .i64 v.e.n, .string v.e.x, .slice v.da v.e.ds.length v.dc]] w (IsTo w (MayEvX v)) := by
  have H := Lib.hid h
  clear h
  go_enter Tryz.func159, Tryz.ntmps159
  go_wp2_with fail
  refine (rmay_any v.e.d.1.1 v.e.d.1.2 v.e.d.2 _).mono ?_
  rintro e w1 ⟨rfl, hb1⟩
  have hx0 : EvBlk w1 w.heap.size v := (new1 hb1).1
  have HX := Lib.hid hx0
  have HB := Lib.hid (new1 hb1).2.2
  have d0 := cells_at hx0
  simp only [ecells] at d0
  clear hb1 hx0
  cases hm : may ((v.e.d.1.1, v.e.d.1.2), v.e.d.2) with
  | false =>
    have Hm := Lib.hid (show ¬ MayEvX v from fun hh => by have h1 := hh.d; have h2 : may v.e.d = false := hm; rw [h1] at h2; cases h2)
    clear hm
    go_wp2_with fail
    go_ret
    exact no_name Hm.out HB.out
  | true =>
    have Hm := Lib.hid (show may v.e.d = true from hm)
    clear hm
    by_cases h1 : 1 ≤ v.e.t
    · by_cases h2 : v.e.t ≤ 1099511627776
      · go_wp2_with fail
        refine (mayOpX_any v.e.k v.e.n v.e.x v.pa v.pl v.pc v.da v.e.ds v.dc _ (H.out.below HB.out).pt (H.out.below HB.out).ds).mono ?_
        intro e w2 hto
        obtain ⟨z, rfl, hz, hb⟩ := hto
        have HB2 := Lib.hid (below2 HB.out hb HB.out.size)
        have Hz := Lib.hid hz
        clear hz hb
        go_wp2_with fail
        go_ret
        exact ⟨_, rfl, ⟨fun h => ⟨Hm.out, h1, h2, Hz.out.1 h⟩, fun h => Hz.out.2 h.op⟩, HB2.out⟩
      · have e2 : decide (v.e.t ≤ 1099511627776) = false := by simpa using h2
        have Hn := Lib.hid (show ¬ MayEvX v from fun hh => h2 hh.hi)
        go_wp2_with fail
        all_goals (go_ret; exact ⟨_, rfl, ⟨fun h => (by first | (cases h; done) | (simp at h; done) | (simp at h; omega)), fun h => absurd h Hn.out⟩, HB.out⟩)
    · have e1 : decide (1 ≤ v.e.t) = false := by simpa using h1
      have Hn := Lib.hid (show ¬ MayEvX v from fun hh => h1 hh.lo)
      go_wp2_with fail
      all_goals (go_ret; exact ⟨_, rfl, ⟨fun h => (by first | (cases h; done) | (simp at h; done) | (simp at h; omega)), fun h => absurd h Hn.out⟩, HB.out⟩)
end Go.Proofs.YthdmoplclllhjaaGreat

/- AqA -/
namespace Go.Proofs.YthdmoplclllhjaaGreat
open Go.RowKit
set_option linter.unusedVariables false
set_option linter.unusedSimpArgs false

structure ApE (w W : World) (L : Lv) (v : Ew) : Prop where
  b0 : LvBlk W w.heap.size L
  b1 : EvBlk W (w.heap.size + 1) v
  b2 : Zc W (w.heap.size + 2)
  al : LvAt W L
  ev : EwAt W v
  sz : w.heap.size + 3 ≤ W.heap.size
  bel : Below w.heap.size w W
theorem ApE.of {w W : World} {L : Lv} {v : Ew} (hl : LvAt w L) (hv : EwAt w v) (hb : Below (((w.alloc (.cells (lcells L.l L.ia L.ic L.ta L.tc) 157)).alloc (.cells (ecells v) 161)).alloc (.cells #[.int .u8 0, .int .i64 0, .int .u64 0, .int .u8 0, .int .u32 0, .int .u64 0, .string ⟨#[]⟩, .slice none 0 0, .slice none 0 0] 157)).heap.size (((w.alloc (.cells (lcells L.l L.ia L.ic L.ta L.tc) 157)).alloc (.cells (ecells v) 161)).alloc (.cells #[.int .u8 0, .int .i64 0, .int .u64 0, .int .u8 0, .int .u32 0, .int .u64 0, .string ⟨#[]⟩, .slice none 0 0, .slice none 0 0] 157)) W) : ApE w W L v := by
  obtain ⟨h0, h1, h2, h3, h4⟩ := new3 hb
  exact ⟨h0, h1, h2, hl.below h4, hv.below h4, h3, h4⟩
theorem ApE.step {w W W' : World} {L : Lv} {v : Ew} (h : ApE w W L v) (hb : Below W.heap.size W W') : ApE w W' L v :=
  ⟨h.b0.below hb, h.b1.below hb, h.b2.below hb, h.al.below hb, h.ev.below hb, by have := h.sz; have := hb.size; omega, below2 h.bel hb h.bel.size⟩
theorem Vec.lt {w : World} {a : Option Addr} {c : Nat} {v : List Dt} (h : Vec w a c v) (hv : v ≠ []) : ∀ k ∈ ob a, k < w.heap.size := by
  intro k hk
  cases v with
  | nil => exact absurd rfl hv
  | cons d v =>
    obtain ⟨ad, rfl, _, _, _, hl⟩ := h.at (k := 0) (d := d) rfl
    simp [ob] at hk
    omega
/-- the tombs so far lie apart from the call's own blocks -/
def Apart (s : Nat) (a0 a : Option Addr) : Prop := ∀ k ∈ ob a, (k ∈ ob a0 ∧ k < s) ∨ s + 3 ≤ k
/-- the tombs so far, in the leaf's own block -/
structure DrE (w W : World) (L : Lv) (v : Ew) (va : Option Addr) (vc : Nat) (u : List Dt) : Prop where
  b0 : LvBlk W w.heap.size ⟨{ L.l with tombs := u }, L.ia, L.ic, va, vc⟩
  b1 : EvBlk W (w.heap.size + 1) v
  b2 : Zc W (w.heap.size + 2)
  tm : Vec W va vc u
  ap : u ≠ [] → Apart w.heap.size L.ta va
  sz : w.heap.size + 3 ≤ W.heap.size
  bel : Below w.heap.size w W
theorem DrE.of {w W : World} {L : Lv} {v : Ew} (h : ApE w W L v) (hl : LvAt w L) : DrE w W L v L.ta L.tc L.l.tombs :=
  ⟨h.b0, h.b1, h.b2, h.al.tms, fun hne k hk => .inl ⟨hk, Vec.lt hl.tms hne k hk⟩, h.sz, h.bel⟩
theorem DrE.step {w W W' : World} {L : Lv} {v : Ew} {va : Option Addr} {vc : Nat} {u : List Dt} (h : DrE w W L v va vc u) (hb : Below W.heap.size W W') : DrE w W' L v va vc u :=
  ⟨h.b0.below hb, h.b1.below hb, h.b2.below hb, h.tm.below hb, h.ap, by have := h.sz; have := hb.size; omega, below2 h.bel hb h.bel.size⟩
theorem DrE.put {w W : World} {L : Lv} {v : Ew} {va a5 : Option Addr} {vc c5 : Nat} {u v5 : List Dt} (h : DrE w W L v va vc u) (hv : Vec W a5 c5 v5) (hne : v5 ≠ []) (hap : Apart w.heap.size L.ta a5) : DrE w (W.setCell ⟨w.heap.size, 8, none⟩ (.slice a5 v5.length c5)) L v a5 c5 v5 := by
  have hC := Chg.setCell W ⟨w.heap.size, 8, none⟩ (.slice a5 v5.length c5)
  have h0 := h.b0
  unfold LvBlk lcells at h0
  have h1 := heap_set h0 8 (.slice a5 v5.length c5)
  simp only [List.setIfInBounds_toArray, List.set_cons_zero, List.set_cons_succ] at h1
  refine ⟨h1, heap_chg h.b1 hC (by simp), heap_chg h.b2 hC (by simp), Sl.chg hv hC (fun k hk hm => by have := hap k hk; simp at hm; omega), fun _ => hap, by simpa using h.sz, h.bel.setCell (Nat.le_refl _) _⟩
theorem LvAt.form {w : World} {l m : Lf} {ia ta : Option Addr} {ic tc : Nat} (h : LvAt w ⟨l, ia, ic, ta, tc⟩) (h1 : m.items = l.items) (h2 : m.tombs = l.tombs) : LvAt w ⟨m, ia, ic, ta, tc⟩ :=
  ⟨by show Its w ia ic m.items; rw [h1]; exact h.its, by show Vec w ta tc m.tombs; rw [h2]; exact h.tms, by show m.items.length ≤ _; rw [h1]; exact h.li, by show m.tombs.length ≤ _; rw [h2]; exact h.lt⟩
end Go.Proofs.YthdmoplclllhjaaGreat
