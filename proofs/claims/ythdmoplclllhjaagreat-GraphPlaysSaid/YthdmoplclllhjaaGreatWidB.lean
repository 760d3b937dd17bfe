/- varvelaw12.wide: what it tells when it is false. | Commits handed in; varvelaw12.great: what it tells when it is false. -/
import Derived.Test.YthdmoplclllhjaaGreatOwtB
import Derived.Test.YthdmoplclllhjaaGreatMeanW
import Derived.Test.YthdmoplclllhjaaGreatGraA
import Derived.Test.YthdmoplclllhjaaGreatBasA
import Derived.Test.YthdmoplclllhjaaGreatGraV
/- WidA -/
namespace Go.Proofs.YthdmoplclllhjaaGreat
open Go.RowKit
set_option linter.unusedVariables false
set_option linter.unusedSimpArgs false

/-- no wider, and no deeper -/
def WdP : Nat → List Nd → Prop
  | 0, T => T = []
  | n + 1, T => T.length ≤ 40 ∧ ∀ x ∈ T, x.ls.length ≤ 20 ∧ (∀ v ∈ x.ls, v.l.items.length ≤ 40 ∧ v.l.tombs.length ≤ 100) ∧ WdP n x.kids
theorem WdP.bdA : ∀ {n m : Nat} {T : List Nd}, WdP n T → BdA 1100000 m T
  | 0, 0, T, h => by
    have e : T = [] := h
    subst e
    simp [BdA]
  | n + 1, 0, T, h => by have := h.1; show T.length ≤ 1100000; omega
  | 0, m + 1, T, h => by
    have e : T = [] := h
    subst e
    exact ⟨by simp, fun x hx => by cases hx⟩
  | n + 1, m + 1, T, h => ⟨by have := h.1; omega, fun x hx => by
      obtain ⟨h1, h2, h3⟩ := h.2 x hx
      exact ⟨by omega, fun v hv => by have := h2 v hv; omega, WdP.bdA h3⟩⟩
theorem BdA.bdT : ∀ {n : Nat} {T : List Nd}, BdA 1100000 n T → BdT 1100000 n T
  | 0, _, _ => trivial
  | n + 1, T, h => fun x hx => ⟨(h.2 x hx).2.1, BdA.bdT (h.2 x hx).2.2⟩
def WdTo (w : World) (d : Nat) (T : List Nd) (e : Ending) (w' : World) : Prop := ∃ z : Bool, e = .returned (.bool z) ∧ (z = false → WdP d T) ∧ Below w.heap.size w w'
theorem WdTo.yes {w w' : World} {d : Nat} {T : List Nd} (hb : Below w.heap.size w w') : WdTo w d T (.returned (.bool true)) w' := ⟨true, rfl, fun h => (by cases h), hb⟩
/-- one node is narrow -/
def WdN (n : Nat) (x : Nd) : Prop := x.ls.length ≤ 20 ∧ (∀ v ∈ x.ls, v.l.items.length ≤ 40 ∧ v.l.tombs.length ≤ 100) ∧ WdP n x.kids
set_option maxRecDepth 100000 in
set_option maxHeartbeats 4000000 in
theorem wide_any (d : Nat) : ∀ (m : Nat) (a : Option Addr) (c : Nat) (T : List Nd) (w : World), d ≤ 10 → TrRd w m a c T → Calls Tryz.prog 68 #[.slice a T.length c, .int .i64 (d : Nat)] w (WdTo w d T) := by
  induction d with
  | zero =>
    intro m a c T w _ hT
    have hlen := hT.sl.2.1
    have hcap := hT.sl.2.2.1
    clear hT
    unfold maxLen at hcap
    by_cases hl : 0 < T.length
    · by_cases h4 : 40 < T.length
      all_goals
        go_enter Tryz.func68, Tryz.ntmps68
        go_wp2_with fail
        go_ret
        exact WdTo.yes (Below.refl _ _)
    · have hT0 : T = [] := List.eq_nil_of_length_eq_zero (by omega)
      subst hT0
      clear hl
      go_enter Tryz.func68, Tryz.ntmps68
      go_wp2_with fail
      refine wp_loop_rounds 1 ?_
      rw [rounds_succ]
      go_wp2_with fail
      go_ret
      exact ⟨false, rfl, fun _ => rfl, Below.refl _ _⟩
  | succ d ih =>
    intro m a c T w hd hT
    have HT := Lib.hid hT
    have hlen := hT.sl.2.1
    have hcap := hT.sl.2.2.1
    have Ih := Lib.hid ih
    clear hT ih
    unfold maxLen at hcap
    by_cases h4 : 40 < T.length
    · go_enter Tryz.func68, Tryz.ntmps68
      go_wp2_with fail
      go_ret
      exact WdTo.yes (Below.refl _ _)
    have e0 : ((((d + 1 : Nat) : Int)) == 0) = false := by simp; omega
    go_enter Tryz.func68, Tryz.ntmps68
    go_wp2_with fail
    go_loopw [23] (fun i wr => ∃ q : Nat, q ≤ T.length ∧ i = .int .i64 q ∧ Hid (∀ x ∈ T.take q, WdN d x) ∧ Hid (Below w.heap.size w wr)) (fun i _ => T.length - (intOf i).toNat)
    case atStart => exact ⟨0, Nat.zero_le _, rfl, Lib.hid (by simp), Lib.hid (Below.refl _ _)⟩
    case round =>
      obtain ⟨q, hq, rfl, HO, HB⟩ := hrel
      by_cases hlt : q < T.length
      · obtain ⟨x, hx⟩ : ∃ x, T[q]? = some x := ⟨T[q], by simp [hlt]⟩
        have hmem := List.mem_of_getElem? hx
        cases m with
        | zero => exact absurd HT.out.1 (by intro e; rw [e] at hlt; cases hlt)
        | succ m =>
          obtain ⟨ad, had, ⟨c0, c1, c2⟩, hlb⟩ := nds_at (HT.out.below HB.out).sl hx
          subst had
          have Hx := Lib.hid hx
          have Hm := Lib.hid (HT.out.2 x hmem)
          have hlc := (HT.out.2 x hmem).1.1.2.2.1
          have hll := (HT.out.2 x hmem).1.1.2.1
          unfold maxLen at hlc
          clear hx hmem
          obtain ⟨la, hla⟩ : ∃ la, la = x.la := ⟨_, rfl⟩
          rw [← hla] at c1
          have Hla := Lib.hid hla
          clear hla
          have HA := Lib.hid (show Below wr.heap.size wr (wr.alloc (.cells #[.string x.name, .slice la x.ls.length x.lc, .slice x.ba x.kids.length x.bc] 154)) from (Below.refl _ _).alloc (Nat.le_refl _) _)
          have HB1 := Lib.hid (below2 HB.out HA.out HB.out.size)
          by_cases h20 : 20 < x.ls.length
          · go_wp2_with fail
            go_ret
            exact WdTo.yes HB1.out
          by_cases h100 : 100 < x.name.size
          · go_wp2_with fail
            go_ret
            exact WdTo.yes HB1.out
          go_wp2_with fail
          refine (Ih.out m x.ba x.bc x.kids _ (by omega) ((Hm.out.2.below HB.out).below HA.out)).mono ?_
          intro e w2 hto
          obtain ⟨z, rfl, hz, hb2⟩ := hto
          have B2 : Hid (BoxE 154 wr w2 #[.string x.name, .slice la x.ls.length x.lc, .slice x.ba x.kids.length x.bc]) := Lib.hid (BoxE.of hb2)
          have HB2 := Lib.hid (below2 HB.out B2.out.bel HB.out.size)
          have Hz := Lib.hid hz
          clear hz hb2 c0 c1 c2
          cases z with
          | true =>
            go_wp2_with fail
            go_ret
            exact WdTo.yes HB2.out
          | false =>
            have Hk := Lib.hid (Hz.out rfl)
            have d2 := cells_at B2.out.blk
            have z2 := heap_lt B2.out.blk
            clear Hz
            go_wp2_with fail
            go_loopw [48] (fun k wx => ∃ r : Nat, r ≤ x.ls.length ∧ k = .int .i64 r ∧ Hid (∀ v ∈ x.ls.take r, v.l.items.length ≤ 40 ∧ v.l.tombs.length ≤ 100) ∧ Hid (Below w.heap.size w wx)) (fun k _ => x.ls.length - (intOf k).toNat)
            case atStart => exact ⟨0, Nat.zero_le _, rfl, Lib.hid (by simp), HB2⟩
            case round =>
              obtain ⟨r, hr, rfl, HL, HBx⟩ := hrel
              by_cases hlt2 : r < x.ls.length
              · obtain ⟨v, hv⟩ : ∃ v, x.ls[r]? = some v := ⟨x.ls[r], by simp [hlt2]⟩
                obtain ⟨al, hal, ⟨e0, e1, e2, e3, e4, e5, e6, e7, e8⟩, hlv, hvr⟩ := (Hm.out.1.below HBx.out).at hv
                obtain rfl : la = some al := Hla.out.trans hal
                have Hv := Lib.hid hv
                have hil := hvr.1.its.2.1
                have hic := hvr.1.its.2.2.1
                have htl := hvr.1.tms.2.1
                have htc := hvr.1.tms.2.2.1
                unfold maxLen at hic htc
                have HBy := Lib.hid (HBx.out.alloc HBx.out.size (.cells (lcells v.l v.ia v.ic v.ta v.tc) 157))
                clear hv hvr hal
                by_cases h40 : 40 < v.l.items.length
                · go_wp2_with fail
                  go_ret
                  exact WdTo.yes HBy.out
                by_cases h100 : 100 < v.l.tombs.length
                · go_wp2_with fail
                  go_ret
                  exact WdTo.yes HBy.out
                by_cases h200 : 200 < v.l.x.size
                · go_wp2_with fail
                  go_ret
                  exact WdTo.yes HBy.out
                go_wp2_with fail
                go_roundw
                case rel => exact ⟨r + 1, by omega, by go_num, Lib.hid (all_snoc (p := fun v : Lv => v.l.items.length ≤ 40 ∧ v.l.tombs.length ≤ 100) Hv.out HL.out ⟨by omega, by omega⟩), HBy⟩
                case measure => simp [intOf]; omega
              · have HN := Lib.hid (show WdN d x from ⟨by omega, fun v hv => HL.out v (by rw [List.take_of_length_le (by omega)]; exact hv), Hk.out⟩)
                go_wp2_with fail
                go_roundw
                case rel => exact ⟨q + 1, by omega, by go_num, Lib.hid (all_snoc Hx.out HO.out HN.out), HBx⟩
                case measure => simp [intOf]; omega
      · have Hf := Lib.hid (show WdP (d + 1) T from ⟨by omega, fun x hx => HO.out x (by rw [List.take_of_length_le (by omega)]; exact hx)⟩)
        go_wp2_with fail
        go_ret
        exact ⟨false, rfl, fun _ => Hf.out, HB.out⟩
end Go.Proofs.YthdmoplclllhjaaGreat

/- WidB -/
namespace Go.Proofs.YthdmoplclllhjaaGreat
open Go.RowKit
set_option linter.unusedVariables false
set_option linter.unusedSimpArgs false

/-- commits handed in -/
structure Cms (w : World) (a : Option Addr) (c : Nat) (l : List Cw) : Prop where
  sl : Sl w 11 a l.length c (ccs l)
  each : ∀ v ∈ l, CwAt w v
theorem Cms.below {w w' : World} {a : Option Addr} {c : Nat} {l : List Cw} (h : Cms w a c l) (hb : Below w.heap.size w w') : Cms w' a c l := ⟨h.sl.below hb, fun v hv => (h.each v hv).below hb⟩
structure CwC (w : World) (b : Addr) (v : Cw) : Prop where
  c0 : w.cell? b = some (.int .u8 v.c.d.1.1)
  c1 : w.cell? ⟨b.block, b.off + 1, none⟩ = some (.int .u32 v.c.d.1.2)
  c2 : w.cell? ⟨b.block, b.off + 2, none⟩ = some (.int .u64 v.c.d.2)
  c3 : w.cell? ⟨b.block, b.off + 3, none⟩ = some (.slice v.qa v.c.ps.length v.qc)
  c4 : w.cell? ⟨b.block, b.off + 4, none⟩ = some (.slice v.va v.c.vv.length v.vc)
  c5 : w.cell? ⟨b.block, b.off + 5, none⟩ = some (.int .u64 v.c.t)
  c6 : w.cell? ⟨b.block, b.off + 6, none⟩ = some (.int .u8 v.c.o.k)
  c7 : w.cell? ⟨b.block, b.off + 7, none⟩ = some (.slice v.pa v.c.o.p.length v.pc)
  c8 : w.cell? ⟨b.block, b.off + 8, none⟩ = some (.int .i64 v.c.o.n)
  c9 : w.cell? ⟨b.block, b.off + 9, none⟩ = some (.string v.c.o.x)
  c10 : w.cell? ⟨b.block, b.off + 10, none⟩ = some (.slice v.da v.c.o.ds.length v.dc)
theorem Cms.at_ {w : World} {a : Option Addr} {c : Nat} {l : List Cw} (h : Cms w a c l) {i : Nat} {v : Cw} (hv : l[i]? = some v) : ∃ ad, a = some ad ∧ CwC w (ad.add (i * 11)) v ∧ ad.block < w.heap.size := by
  have hi := (List.getElem?_eq_some_iff.1 hv).1
  rcases h.sl.2.2.2 with ⟨_, h5, _⟩ | ⟨ad, rfl, hc⟩
  · omega
  · have g : ∀ j, j < 11 → w.cell? (ad.add (i * 11 + j)) = (ccel v)[j]? := fun j hj => by
      have e := ccs_at hv j hj
      have e2 : (ccel v)[j]? = some ((ccel v)[j]'(by rw [ccel_len]; exact hj)) := by simp
      rw [e2]
      exact hc _ _ (by rw [e, e2])
    have g0 := g 0 (by omega)
    have g1 := g 1 (by omega)
    have g2 := g 2 (by omega)
    have g3 := g 3 (by omega)
    have g4 := g 4 (by omega)
    have g5 := g 5 (by omega)
    have g6 := g 6 (by omega)
    have g7 := g 7 (by omega)
    have g8 := g 8 (by omega)
    have g9 := g 9 (by omega)
    have g10 := g 10 (by omega)
    rw [Nat.add_zero] at g0
    rw [← Go.Deep.add_add] at g1 g2 g3 g4 g5 g6 g7 g8 g9 g10
    refine ⟨ad, rfl, ⟨g0, g1, g2, g3, g4, g5, g6, g7, g8, g9, g10⟩, ?_⟩
    have := World.block_lt_of_cell? w _ g0
    rwa [add_block] at this
/-- a commit is not great -/
def CwN (v : Cw) : Prop := v.c.ps.length ≤ 100 ∧ v.c.vv.length ≤ 100 ∧ v.c.o.ds.length ≤ 100 ∧ v.c.o.p.length ≤ 20
structure GrP (b : Bs) (l : List Cw) : Prop where
  few : l.length ≤ 40
  f : b.f.length ≤ 100
  tips : b.tips.length ≤ 100
  tr : WdP 4 b.tr
  each : ∀ v ∈ l, CwN v
def GreatTo (w : World) (b : Bs) (l : List Cw) (e : Ending) (w' : World) : Prop := ∃ z : Bool, e = .returned (.bool z) ∧ (z = false → GrP b l) ∧ Below w.heap.size w w'
theorem GreatTo.yes {w w' : World} {b : Bs} {l : List Cw} (hb : Below w.heap.size w w') : GreatTo w b l (.returned (.bool true)) w' := ⟨true, rfl, fun h => (by cases h), hb⟩
set_option maxRecDepth 100000 in
set_option maxHeartbeats 8000000 in
theorem great12_any (b : Bw) (m : Nat) (la : Option Addr) (lc : Nat) (l : List Cw) (w : World) (hb : BwAt w m b) (hl : Cms w la lc l) : Calls Tryz.prog 13 #[.agg (bwcells b), .slice la l.length lc] w (GreatTo w b.b l) := by
  obtain ⟨⟨num, F, tips, t, tr⟩, fa, fc, ta, tc, ra, rc⟩ := b
  have H := Lib.hid hb
  have HL := Lib.hid hl
  have hln := hl.sl.2.1
  have hlm := hl.sl.2.2.1
  have hfn := hb.f.2.1
  have hfm := hb.f.2.2.1
  have htn := hb.tips.2.1
  have htm := hb.tips.2.2.1
  unfold maxLen at hlm hfm htm
  dsimp only at hfn hfm htn htm
  have B0 : Hid (BoxE 28 w (w.alloc (.cells (basecells num fa F.length fc ta tips.length tc t ra tr.length rc) 28)) (basecells num fa F.length fc ta tips.length tc t ra tr.length rc)) := Lib.hid ⟨heap_new _ _, (Below.refl _ _).alloc (Nat.le_refl _) _⟩
  clear hb hl
  simp only [bwcells]
  go_enter Tryz.func13, Tryz.ntmps13
  go_wp2_with fail
  go_loopw [11] (fun j wr => ∃ q : Nat, q ≤ l.length ∧ j = .int .i64 q ∧ Hid (∀ v ∈ l.take q, CwN v) ∧ Hid (BoxE 28 w wr (basecells num fa F.length fc ta tips.length tc t ra tr.length rc))) (fun j _ => l.length - (intOf j).toNat)
  case atStart => exact ⟨0, Nat.zero_le _, rfl, Lib.hid (by simp), B0⟩
  case round =>
    obtain ⟨q, hq, rfl, HE, B⟩ := hrel
    clear B0
    by_cases hlt : q < l.length
    · obtain ⟨v, hv⟩ : ∃ v, l[q]? = some v := ⟨l[q], by simp [hlt]⟩
      obtain ⟨ad, had, ⟨c0, c1, c2, c3, c4, c5, c6, c7, c8, c9, c10⟩, hlb⟩ := (HL.out.below B.out.bel).at_ hv
      subst had
      have hat := HL.out.each v (List.mem_of_getElem? hv)
      have Hat := Lib.hid hat
      have Hv := Lib.hid hv
      have x1 := hat.ps.2.2.1
      have x2 := hat.vv.2.2.1
      have x3 := hat.ds.2.2.1
      have x4 := hat.pt.2.2.1
      have y1 := hat.ps.2.1
      have y2 := hat.vv.2.1
      have y3 := hat.ds.2.1
      have y4 := hat.pt.2.1
      unfold maxLen at x1 x2 x3 x4
      clear hv hat
      obtain ⟨⟨⟨⟨r, i⟩, s⟩, ps, uu, t1, ⟨k, n, x, p, ds⟩⟩, qa, qc, ua, uc, pa, pc, da, dc⟩ := v
      dsimp only at c0 c1 c2 c3 c4 c5 c6 c7 c8 c9 c10 x1 x2 x3 x4 y1 y2 y3 y4
      have B1 := Lib.hid (B.out.step ((Below.refl _ _).alloc (Nat.le_refl _) (.cells (ccells r i s qa ps.length qc ua uu.length uc t1 k pa p.length pc n x da ds.length dc) 46)))
      by_cases h1 : 100 < ps.length
      · go_wp2_with fail
        go_ret
        exact GreatTo.yes B1.out.bel
      by_cases h2 : 100 < uu.length
      · go_wp2_with fail
        go_ret
        exact GreatTo.yes B1.out.bel
      by_cases h3 : 100 < ds.length
      · go_wp2_with fail
        go_ret
        exact GreatTo.yes B1.out.bel
      by_cases h4 : 20 < p.length
      · go_wp2_with fail
        go_ret
        exact GreatTo.yes B1.out.bel
      by_cases h5 : 200 < x.size
      · go_wp2_with fail
        go_ret
        exact GreatTo.yes B1.out.bel
      go_wp2_with fail
      go_loopw [50] (fun j wx => ∃ z : Nat, z ≤ p.length ∧ j = .int .i64 z ∧ Hid (BoxE 28 w wx (basecells num fa F.length fc ta tips.length tc t ra tr.length rc))) (fun j _ => p.length - (intOf j).toNat)
      case atStart => exact ⟨0, Nat.zero_le _, rfl, B1⟩
      case round =>
        obtain ⟨z, hz, rfl, B2⟩ := hrel
        by_cases hlt2 : z < p.length
        · obtain ⟨nm, hx⟩ : ∃ y, p[z]? = some y := ⟨p[z], by simp [hlt2]⟩
          obtain ⟨ad2, had2, e0, hl2⟩ := (Hat.out.pt.below B2.out.bel).at hx
          dsimp only at had2
          subst had2
          clear hx
          by_cases h6 : 100 < nm.size
          · go_wp2_with fail
            go_ret
            exact GreatTo.yes B2.out.bel
          go_wp2_with fail
          go_roundw
          case rel => exact ⟨z + 1, by omega, by go_num, B2⟩
          case measure => simp [intOf]; omega
        · have HN := Lib.hid (show CwN ⟨⟨((r, i), s), ps, uu, t1, ⟨k, n, x, p, ds⟩⟩, qa, qc, ua, uc, pa, pc, da, dc⟩ from ⟨by dsimp only; omega, by dsimp only; omega, by dsimp only; omega, by dsimp only; omega⟩)
          go_wp2_with fail
          go_roundw
          case rel => exact ⟨q + 1, by omega, by go_num, Lib.hid (all_snoc Hv.out HE.out HN.out), B2⟩
          case measure => simp [intOf]; omega
    · have HA := Lib.hid (show ∀ v ∈ l, CwN v from fun v hv => HE.out v (by rw [List.take_of_length_le (by omega)]; exact hv))
      have d0 := cells_at B.out.blk
      simp only [basecells] at d0
      have z0 := heap_lt B.out.blk
      by_cases h1 : 40 < l.length
      · go_wp2_with fail
        go_ret
        exact GreatTo.yes B.out.bel
      by_cases h2 : 100 < F.length
      · go_wp2_with fail
        go_ret
        exact GreatTo.yes B.out.bel
      by_cases h3 : 100 < tips.length
      · go_wp2_with fail
        go_ret
        exact GreatTo.yes B.out.bel
      have e1 : decide ((40 : Int) < (l.length : Int)) = false := decide_eq_false (by omega)
      have e2 : decide ((100 : Int) < (F.length : Int)) = false := decide_eq_false (by omega)
      have e3 : decide ((100 : Int) < (tips.length : Int)) = false := decide_eq_false (by omega)
      go_wp2_with fail
      refine (wide_any 4 m ra rc tr _ (by decide) (H.out.tr.below B.out.bel)).mono ?_
      intro e w2 hto
      obtain ⟨z, rfl, hz, hb2⟩ := hto
      have Hz := Lib.hid hz
      have B2 := Lib.hid (B.out.step hb2).bel
      clear hz hb2
      go_wp2_with fail
      go_ret
      exact ⟨z, rfl, fun h => ⟨by omega, by show F.length ≤ 100; omega, by show tips.length ≤ 100; omega, Hz.out h, HA.out⟩, B2.out⟩
end Go.Proofs.YthdmoplclllhjaaGreat
