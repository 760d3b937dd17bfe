/- varveref23.wide, size, Great, varvelaw36.great: they answer, and change nothing. | graph.New, with its baseline's rows of its own told; what a closure may change beside a graph. | record.Graph: the contract. | audit.insert, with any closure that is told of flaws: the contract. | audit.Check: its closure, and Check itself: the contracts. | varvelaw36.known: the page's examples hold. | varvelaw36.AuditClean: the walk. -/
import Derived.Test.YtaandcblndldmaaGreatAudB
import Derived.Test.YtaandcblndldmaaGreatRMbA
import Derived.Test.YtaandcblndldmaaGreatWitA
import Derived.Test.YtaandcblndldmaaGreatGraC
import Derived.Test.YtaandcblndldmaaGreatGraV
/- AudF -/
namespace Go.Proofs.YtaandcblndldmaaGreat
open Go.RowKit
set_option linter.unusedVariables false
set_option linter.unusedSimpArgs false

def NumTo (w : World) (e : Ending) (w' : World) : Prop := ∃ z : Int, e = .returned (.int .i64 z) ∧ Below w.heap.size w w'
def AnyB (w : World) (e : Ending) (w' : World) : Prop := ∃ z : Bool, e = .returned (.bool z) ∧ Below w.heap.size w w'
set_option maxRecDepth 100000 in
set_option maxHeartbeats 8000000 in
theorem wide23_step (deep : Nat) (hd : deep ≤ 8) (ih : deep < 8 → ∀ (m : Nat) (a : Option Addr) (c : Nat) (T : List Nd) (w : World), TrRd w m a c T → Calls Tryz.prog 89 #[.slice a T.length c, .int .i64 ((deep : Int) + 1)] w (NumTo w))
    (m : Nat) (a : Option Addr) (c : Nat) (T : List Nd) (w : World) (hT : TrRd w m a c T) : Calls Tryz.prog 89 #[.slice a T.length c, .int .i64 (deep : Nat)] w (NumTo w) := by
  have HT := Lib.hid hT
  have hlen := hT.sl.2.1
  have hcap := hT.sl.2.2.1
  have Ih := Lib.hid ih
  clear hT ih
  unfold maxLen at hcap
  go_enter Tryz.func89, Tryz.ntmps89
  go_wp2_with fail
  go_loopw [5, 6] (fun z i wr => ∃ (q : Nat) (zz : Int), q ≤ T.length ∧ i = .int .i64 q ∧ z = .int .i64 zz ∧ Hid (Below w.heap.size w wr)) (fun _ i _ => T.length - (intOf i).toNat)
  case atStart => exact ⟨0, 0, Nat.zero_le _, rfl, rfl, Lib.hid (Below.refl _ _)⟩
  case round =>
    obtain ⟨q, zz, hq, rfl, rfl, HB⟩ := hrel
    by_cases hlt : q < T.length
    rotate_left
    · go_wp2_with fail
      go_ret
      exact ⟨_, rfl, HB.out⟩
    obtain ⟨x, hx⟩ : ∃ x, T[q]? = some x := ⟨T[q], by simp [hlt]⟩
    have hmem := List.mem_of_getElem? hx
    cases m with
    | zero => exact absurd HT.out.1 (by intro e; rw [e] at hlt; cases hlt)
    | succ m =>
      obtain ⟨ad, had, ⟨c0, c1, c2⟩, hlb⟩ := nds_at (HT.out.below HB.out).sl hx
      subst had
      have Hx := Lib.hid hx
      have Hm := Lib.hid (HT.out.2 x hmem)
      have hlc := (HT.out.2 x hmem).1.1.2.2.1
      have hll := (HT.out.2 x hmem).1.1.2.1
      unfold maxLen at hlc
      clear hx hmem
      obtain ⟨la, hla⟩ : ∃ la, la = x.la := ⟨_, rfl⟩
      rw [← hla] at c1
      have Hla := Lib.hid hla
      clear hla
      have HC := Lib.hid (fun (W : World) (hb : Below wr.heap.size wr W) => nds_at ((HT.out.below HB.out).below hb).sl Hx.out)

      have HBR0 := Lib.hid (Below.refl wr.heap.size wr)
      by_cases h8 : deep < 8
      · have y8 : decide ((deep : Int) < 8) = true := decide_eq_true (by omega)
        go_wp2_with fail
        refine (Ih.out h8 m x.ba x.bc x.kids _ (Hm.out.2.below HB.out)).mono ?_
        rintro e w2 ⟨z1, rfl, hb2⟩
        have HBW := Lib.hid (below2 HB.out hb2 HB.out.size)
        have HBR := Lib.hid hb2
        clear hb2 c0 c1 c2
        obtain ⟨wb, hwb⟩ : ∃ wb, wb = wr := ⟨_, rfl⟩
        rw [← hwb] at HB HC HBR
        clear hwb HBR0
        go_wp2_with fail
        go_loopw [5, 7] (fun z k wx => ∃ (r : Nat) (zz : Int), r ≤ x.ls.length ∧ k = .int .i64 r ∧ z = .int .i64 zz ∧ Hid (Below w.heap.size w wx) ∧ Hid (Below wb.heap.size wb wx)) (fun _ k _ => x.ls.length - (intOf k).toNat)
        case atStart => exact ⟨0, _, Nat.zero_le _, rfl, rfl, HBW, HBR⟩
        case round =>
          obtain ⟨r, z2, hr, rfl, rfl, HBx, HBy⟩ := hrel
          obtain ⟨ad', had', ⟨c0, c1, c2⟩, hlb'⟩ := HC.out _ HBy.out
          cases had'
          rw [← Hla.out] at c1
          by_cases hlt2 : r < x.ls.length
          rotate_left
          · go_wp2_with fail
            go_roundw
            case rel => exact ⟨q + 1, _, by omega, by go_num, rfl, HBx⟩
            case measure => simp [intOf]; omega
          obtain ⟨v, hv⟩ : ∃ v, x.ls[r]? = some v := ⟨x.ls[r], by simp [hlt2]⟩
          obtain ⟨al, hal, ⟨e0, e1, e2, e3, e4, e5, e6, e7, e8⟩, hlv, hvr⟩ := (Hm.out.1.below HBx.out).at hv
          obtain rfl : la = some al := Hla.out.trans hal
          have hil := hvr.1.its.2.1
          have hic := hvr.1.its.2.2.1
          have htl := hvr.1.tms.2.1
          have htc := hvr.1.tms.2.2.1
          unfold maxLen at hic htc
          have Hits := Lib.hid hvr.1.its
          have HAl : Hid (BoxE 178 wr (wr.alloc (.cells (lcells v.l v.ia v.ic v.ta v.tc) 178)) (lcells v.l v.ia v.ic v.ta v.tc)) := Lib.hid ⟨heap_new _ _, (Below.refl _ _).alloc (Nat.le_refl _) _⟩
          clear hv hvr hal
          go_wp2_with fail
          obtain ⟨wl, hwl⟩ : ∃ wl, wl = wr := ⟨_, rfl⟩
          rw [← hwl] at HAl HBx HBy Hits
          try rw [← hwl]
          clear hwl
          go_loopw [5, 9] (fun z k wy => ∃ (y : Nat) (zz : Int), y ≤ v.l.items.length ∧ k = .int .i64 y ∧ z = .int .i64 zz ∧ Hid (BoxE 178 wl wy (lcells v.l v.ia v.ic v.ta v.tc))) (fun _ k _ => v.l.items.length - (intOf k).toNat)
          case atStart => exact ⟨0, _, Nat.zero_le _, rfl, rfl, HAl⟩
          case round =>
            obtain ⟨y, z3, hy, rfl, rfl, HL⟩ := hrel
            have d0 := cells_at HL.out.blk
            simp only [lcells] at d0
            have z0 := heap_lt HL.out.blk
            by_cases hlt3 : y < v.l.items.length
            · obtain ⟨it, hit⟩ : ∃ it, v.l.items[y]? = some it := ⟨v.l.items[y], by simp [hlt3]⟩
              obtain ⟨ai, hai, ⟨i0, i1, i2, i3, i4⟩, hli⟩ := (Hits.out.below HL.out.bel).at hit
              have Hai := Lib.hid hai
              clear hit hai
              obtain ⟨va, hva⟩ : ∃ va, va = v.ia := ⟨_, rfl⟩
              rw [Hai.out] at d0
              go_wp2_with fail
              go_roundw
              case rel => exact ⟨y + 1, _, by omega, by go_num, rfl, HL⟩
              case measure => simp [intOf]; omega
            · go_wp2_with fail
              go_roundw
              case rel => exact ⟨r + 1, _, by omega, by go_num, rfl, Lib.hid (below2 HBx.out HL.out.bel HBx.out.size), Lib.hid (below2 HBy.out HL.out.bel HBy.out.size)⟩
              case measure => simp [intOf]; omega
      · have y8 : decide ((deep : Int) < 8) = false := decide_eq_false (by omega)
        have HBW := HB
        have HBR := HBR0
        obtain ⟨wb, hwb⟩ : ∃ wb, wb = wr := ⟨_, rfl⟩
        go_wp2_with fail
        rw [← hwb] at HC
        have HBR : Hid (Below wb.heap.size wb wr) := Lib.hid (by rw [hwb]; exact Below.refl _ _)
        clear hwb HBR0 c0 c1 c2
        go_loopw [5, 7] (fun z k wx => ∃ (r : Nat) (zz : Int), r ≤ x.ls.length ∧ k = .int .i64 r ∧ z = .int .i64 zz ∧ Hid (Below w.heap.size w wx) ∧ Hid (Below wb.heap.size wb wx)) (fun _ k _ => x.ls.length - (intOf k).toNat)
        case atStart => exact ⟨0, _, Nat.zero_le _, rfl, rfl, HBW, HBR⟩
        case round =>
          obtain ⟨r, z2, hr, rfl, rfl, HBx, HBy⟩ := hrel
          obtain ⟨ad', had', ⟨c0, c1, c2⟩, hlb'⟩ := HC.out _ HBy.out
          cases had'
          rw [← Hla.out] at c1
          by_cases hlt2 : r < x.ls.length
          rotate_left
          · go_wp2_with fail
            go_roundw
            case rel => exact ⟨q + 1, _, by omega, by go_num, rfl, HBx⟩
            case measure => simp [intOf]; omega
          obtain ⟨v, hv⟩ : ∃ v, x.ls[r]? = some v := ⟨x.ls[r], by simp [hlt2]⟩
          obtain ⟨al, hal, ⟨e0, e1, e2, e3, e4, e5, e6, e7, e8⟩, hlv, hvr⟩ := (Hm.out.1.below HBx.out).at hv
          obtain rfl : la = some al := Hla.out.trans hal
          have hil := hvr.1.its.2.1
          have hic := hvr.1.its.2.2.1
          have htl := hvr.1.tms.2.1
          have htc := hvr.1.tms.2.2.1
          unfold maxLen at hic htc
          have Hits := Lib.hid hvr.1.its
          have HAl : Hid (BoxE 178 wr (wr.alloc (.cells (lcells v.l v.ia v.ic v.ta v.tc) 178)) (lcells v.l v.ia v.ic v.ta v.tc)) := Lib.hid ⟨heap_new _ _, (Below.refl _ _).alloc (Nat.le_refl _) _⟩
          clear hv hvr hal
          go_wp2_with fail
          obtain ⟨wl, hwl⟩ : ∃ wl, wl = wr := ⟨_, rfl⟩
          rw [← hwl] at HAl HBx HBy Hits
          try rw [← hwl]
          clear hwl
          go_loopw [5, 9] (fun z k wy => ∃ (y : Nat) (zz : Int), y ≤ v.l.items.length ∧ k = .int .i64 y ∧ z = .int .i64 zz ∧ Hid (BoxE 178 wl wy (lcells v.l v.ia v.ic v.ta v.tc))) (fun _ k _ => v.l.items.length - (intOf k).toNat)
          case atStart => exact ⟨0, _, Nat.zero_le _, rfl, rfl, HAl⟩
          case round =>
            obtain ⟨y, z3, hy, rfl, rfl, HL⟩ := hrel
            have d0 := cells_at HL.out.blk
            simp only [lcells] at d0
            have z0 := heap_lt HL.out.blk
            by_cases hlt3 : y < v.l.items.length
            · obtain ⟨it, hit⟩ : ∃ it, v.l.items[y]? = some it := ⟨v.l.items[y], by simp [hlt3]⟩
              obtain ⟨ai, hai, ⟨i0, i1, i2, i3, i4⟩, hli⟩ := (Hits.out.below HL.out.bel).at hit
              have Hai := Lib.hid hai
              clear hit hai
              obtain ⟨va, hva⟩ : ∃ va, va = v.ia := ⟨_, rfl⟩
              rw [Hai.out] at d0
              go_wp2_with fail
              go_roundw
              case rel => exact ⟨y + 1, _, by omega, by go_num, rfl, HL⟩
              case measure => simp [intOf]; omega
            · go_wp2_with fail
              go_roundw
              case rel => exact ⟨r + 1, _, by omega, by go_num, rfl, Lib.hid (below2 HBx.out HL.out.bel HBx.out.size), Lib.hid (below2 HBy.out HL.out.bel HBy.out.size)⟩
              case measure => simp [intOf]; omega
theorem wide23_any (n : Nat) : ∀ (deep : Nat), deep + n = 8 → ∀ (m : Nat) (a : Option Addr) (c : Nat) (T : List Nd) (w : World), TrRd w m a c T → Calls Tryz.prog 89 #[.slice a T.length c, .int .i64 (deep : Nat)] w (NumTo w) := by
  induction n with
  | zero => intro deep hd m a c T w hT; exact wide23_step deep (by omega) (fun h => by omega) m a c T w hT
  | succ n ih => intro deep hd m a c T w hT; exact wide23_step deep (by omega) (fun h m a c T w hT => ih (deep + 1) (by omega) m a c T w hT) m a c T w hT
set_option maxRecDepth 100000 in
set_option maxHeartbeats 4000000 in
theorem size23_any (v : Ow) (w : World) (h : OwAt w v) : Calls Tryz.prog 90 #[.agg (owcells v)] w (NumTo w) := by
  obtain ⟨⟨k, n, x, p, ds⟩, pa, pc, da, dc⟩ := v
  have H := Lib.hid h
  have h1 := h.pt.2.1
  have h2 := h.pt.2.2.1
  have h3 := h.ds.2.1
  have h4 := h.ds.2.2.1
  unfold maxLen at h2 h4
  dsimp only at h1 h2 h3 h4
  have B0 : Hid (BoxE 52 w (w.alloc (.cells (ocells k n x pa p.length pc da ds.length dc) 52)) (ocells k n x pa p.length pc da ds.length dc)) := Lib.hid ⟨heap_new _ _, (Below.refl _ _).alloc (Nat.le_refl _) _⟩
  clear h
  simp only [owcells]
  go_enter Tryz.func90, Tryz.ntmps90
  go_upto_region 1 with (fail)
  generalize (w.alloc (.cells (ocells k n x pa p.length pc da ds.length dc) 52)) = wa at B0 ⊢
  have d0 := cells_at B0.out.blk
  simp only [ocells] at d0
  have z0 := heap_lt B0.out.blk
  go_wp2_with fail
  clear d0 z0
  go_loopw [3, 4] (fun z j wr => ∃ (q : Nat) (zz : Int), q ≤ p.length ∧ j = .int .i64 q ∧ z = .int .i64 zz ∧ Hid (BoxE 52 w wr (ocells k n x pa p.length pc da ds.length dc))) (fun _ j _ => p.length - (intOf j).toNat)
  case atStart => exact ⟨0, _, Nat.zero_le _, rfl, rfl, B0⟩
  case round =>
    obtain ⟨q, zz, hq, rfl, rfl, B⟩ := hrel
    clear B0
    have d0 := cells_at B.out.blk
    simp only [ocells] at d0
    have z0 := heap_lt B.out.blk
    by_cases hlt : q < p.length
    · obtain ⟨s, hs⟩ : ∃ s, p[q]? = some s := ⟨p[q], by simp [hlt]⟩
      obtain ⟨ad, had, c0, hlb⟩ := (H.out.pt.below B.out.bel).at hs
      dsimp only at had
      subst had
      clear hs
      go_wp2_with fail
      go_roundw
      case rel => exact ⟨q + 1, _, by omega, by go_num, rfl, B⟩
      case measure => simp [intOf]; omega
    · go_wp2_with fail
      go_ret
      exact ⟨_, rfl, B.out.bel⟩
set_option maxRecDepth 100000 in
set_option maxHeartbeats 8000000 in
theorem great23_any (v : Sw) (m : Nat) (w : World) (h : SwAt w m v) : Calls Tryz.prog 30 #[.agg (swcells v)] w (AnyB w) := by
  obtain ⟨k, ip, ia, ic, incs, ⟨⟨num, F, tips, t, tr⟩, fa, fc, ta, tc, ra, rc⟩, la, lc, l⟩ := v
  have H := Lib.hid h
  have n5 := h.cms.sl.2.1
  have n6 := h.cms.sl.2.2.1
  unfold maxLen at n6
  dsimp only at n5 n6
  have B0 : Hid (BoxE 35 w (w.alloc (.cells (sncells k ip ia incs.length ic num fa F.length fc ta tips.length tc t ra tr.length rc la l.length lc) 35)) (sncells k ip ia incs.length ic num fa F.length fc ta tips.length tc t ra tr.length rc la l.length lc)) := Lib.hid ⟨heap_new _ _, (Below.refl _ _).alloc (Nat.le_refl _) _⟩
  clear h
  simp only [swcells]
  go_enter Tryz.func30, Tryz.ntmps30
  go_upto_region 1 with (fail)
  generalize (w.alloc (.cells (sncells k ip ia incs.length ic num fa F.length fc ta tips.length tc t ra tr.length rc la l.length lc) 35)) = wa at B0 ⊢
  have d0 := cells_at B0.out.blk
  simp only [sncells] at d0
  have z0 := heap_lt B0.out.blk
  have BD := Lib.hid (B0.out.step ((Below.refl _ _).drew))
  refine region_text [([0, 1, 2, 3, 4, 5, 6, 7, 8, 9, 10, 11, 12, 13, 14, 15], false), ([16], true), ([17, 18], false)] mixed (by kernel_rfl) ?_
  simp only [wpSegs, List.map_cons, List.map_nil, List.getD_cons_succ, List.getD_cons_zero]
  go_wp2_with fail
  refine (wide23_any 8 0 (by omega) m ra rc tr _ (H.out.b.tr.below BD.out.bel)).mono ?_
  rintro e w1 ⟨z, rfl, hb⟩
  have hA := Agree.of_below hb
  have B1 := Lib.hid (BD.out.step hb)
  clear hb d0 z0 B0 BD
  have d0 := cells_at B1.out.blk
  simp only [sncells] at d0
  have z0 := heap_lt B1.out.blk
  go_wp2_with fail
  refine And.intro hA ?_
  clear hA
  go_wp2_with fail
  refine And.intro (by kernel_rfl) ?_
  go_wp2_with fail
  go_loopw [3, 4] (fun z j wr => ∃ (q : Nat) (zz : Int), q ≤ l.length ∧ j = .int .i64 q ∧ z = .int .i64 zz ∧ Hid (BoxE 35 w wr (sncells k ip ia incs.length ic num fa F.length fc ta tips.length tc t ra tr.length rc la l.length lc))) (fun _ j _ => l.length - (intOf j).toNat)
  case atStart => exact ⟨0, _, Nat.zero_le _, rfl, rfl, B1⟩
  case round =>
    obtain ⟨q, zz, hq, rfl, rfl, B⟩ := hrel
    clear B1 d0 z0
    have d0 := cells_at B.out.blk
    simp only [sncells] at d0
    have z0 := heap_lt B.out.blk
    by_cases hlt : q < l.length
    · obtain ⟨v, hv⟩ : ∃ v, l[q]? = some v := ⟨l[q], by simp [hlt]⟩
      obtain ⟨ae, hae, ⟨c0, c1, c2, c3, c4, c5, c6, c7, c8, c9, c10⟩, hlb⟩ := (H.out.cms.below B.out.bel).at_ hv
      dsimp only at hae
      subst hae
      have Hat := Lib.hid (H.out.cms.each v (List.mem_of_getElem? hv))
      clear hv
      obtain ⟨⟨⟨⟨r, i⟩, s⟩, ps, uu, t1, ⟨kk, n, x, p, ds⟩⟩, qa, qc, ua, uc, pa, pc, da, dc⟩ := v
      dsimp only at c0 c1 c2 c3 c4 c5 c6 c7 c8 c9 c10
      have HA : Hid (BoxE 54 wr (wr.alloc (.cells (ccells r i s qa ps.length qc ua uu.length uc t1 kk pa p.length pc n x da ds.length dc) 54)).drew (ccells r i s qa ps.length qc ua uu.length uc t1 kk pa p.length pc n x da ds.length dc)) := Lib.hid (BoxE.step ⟨heap_new _ _, (Below.refl _ _).alloc (Nat.le_refl _) _⟩ ((Below.refl _ _).drew))
      have BA := Lib.hid (B.out.step HA.out.bel)
      go_wp2_with fail
      refine region_text [([0, 1, 2, 3, 4, 5, 6, 7, 8, 9, 10], false), ([11], true), ([12, 13], false)] mixed (by kernel_rfl) ?_
      simp only [wpSegs, List.map_cons, List.map_nil, List.getD_cons_succ, List.getD_cons_zero]
      go_wp2_with fail
      refine (size23_any ⟨⟨kk, n, x, p, ds⟩, pa, pc, da, dc⟩ _ (Hat.out.below BA.out.bel).op).mono ?_
      rintro e w2 ⟨z2, rfl, hb⟩
      have hA := Agree.of_below hb
      have B2 := Lib.hid (BA.out.step hb)
      clear hb c0 c1 c2 c3 c4 c5 c6 c7 c8 c9 c10 hlb
      go_wp2_with fail
      refine And.intro hA ?_
      clear hA
      go_wp2_with fail
      refine And.intro (by kernel_rfl) ?_
      go_wp2_with fail
      go_roundw
      case rel => exact ⟨q + 1, _, by omega, by go_num, rfl, B2⟩
      case measure => simp [intOf]; omega
    · by_cases h14 : 14 < l.length
      · have y1 : decide ((14 : Int) < (l.length : Int)) = true := decide_eq_true (by omega)
        go_wp2_with fail
        go_ret
        exact ⟨_, rfl, B.out.bel⟩
      · have y1 : decide ((14 : Int) < (l.length : Int)) = false := decide_eq_false (by omega)
        go_wp2_with fail
        go_ret
        exact ⟨_, rfl, B.out.bel⟩
end Go.Proofs.YtaandcblndldmaaGreat

/- BasO -/
namespace Go.Proofs.YtaandcblndldmaaGreat
open Go.RowKit
set_option linter.unusedVariables false
set_option linter.unusedSimpArgs false

def NewOTo (w : World) (u : Bs) (e : Ending) (w' : World) : Prop :=
  (BaseP u ∧ ∃ (pg mb : Nat) (w0 : World) (b : Bw) (va : Option Addr) (vc : Nat), e = .returned (.tuple #[.pointer (some ⟨pg, 0, none⟩), .int .i64 0]) ∧ SameBw u b.b ∧ GrAt w' pg mb w0 3 b [] va vc b.b.f ∧ Below w.heap.size w w' ∧ w.heap.size ≤ w0.heap.size ∧ OwnB w0 w.heap.size b) ∨
  (¬ BaseP u ∧ e = .returned (.tuple #[.pointer none, .int .i64 4]) ∧ Below w.heap.size w w')
set_option maxRecDepth 100000 in
set_option maxHeartbeats 8000000 in
theorem newO_any (v : Bw) (m : Nat) (w : World) (h : BwAt w m v) (hf : v.b.f.length ≤ 1100000) (ht : v.b.tips.length ≤ 1100000) (hB : BdA 1100000 3 v.b.tr) :
    Calls Tryz.prog 54 #[.agg (bwcells v)] w (NewOTo w v.b) := by
  have hmm := @run_makeMap Tryz.prog
  obtain ⟨⟨num, F, tips, t, tr⟩, fa, fc, ta, tc, ra, rc⟩ := v
  have H := Lib.hid h
  have HBd := Lib.hid hB
  dsimp only at hf ht
  have HA := Lib.hid (show Below w.heap.size w (w.alloc (.cells (basecells num fa F.length fc ta tips.length tc t ra tr.length rc) 32)) from (Below.refl _ _).alloc (Nat.le_refl _) _)
  clear h hB
  simp only [bwcells]
  go_enter Tryz.func54, Tryz.ntmps54
  go_wp2_with fail
  refine (mayBase_any ⟨⟨num, F, tips, t, tr⟩, fa, fc, ta, tc, ra, rc⟩ m _ (H.out.below HA.out) hf ht HBd.out).mono ?_
  intro e w1 hto
  obtain ⟨z, rfl, hz, hb1⟩ := hto
  have E : Hid (BoxE 32 w w1 (basecells num fa F.length fc ta tips.length tc t ra tr.length rc)) := Lib.hid (BoxE.of hb1)
  have Hz := Lib.hid hz
  have d0 := cells_at E.out.blk
  simp only [basecells] at d0
  have hz1 := heap_lt E.out.blk
  clear hb1 hz
  cases z with
  | false =>
    have Hn := Lib.hid (show ¬ BaseP ⟨num, F, tips, t, tr⟩ from fun h => by have := Hz.out.2 h; cases this)
    go_wp2_with fail
    go_ret2
    exact .inr ⟨Hn.out, rfl, E.out.bel⟩
  | true =>
    have HP := Lib.hid (Hz.out.1 rfl)
    have H3 : Hid (BwAt w 3 ⟨⟨num, F, tips, t, tr⟩, fa, fc, ta, tc, ra, rc⟩) := Lib.hid ⟨H.out.f, H.out.tips, H.out.tr.may HP.out.tree, H.out.okf, H.out.okt, H.out.num, H.out.t⟩
    have hfl : F.length ≤ 64 := canonF_len HP.out
    have htl : tips.length ≤ 64 := HP.out.few
    clear Hz
    go_wp2_with fail
    refine (ownBase_any ⟨⟨num, F, tips, t, tr⟩, fa, fc, ta, tc, ra, rc⟩ _ (H3.out.below E.out.bel) hf ht HBd.out).mono ?_
    rintro e w2 ⟨⟨⟨num', F', tips', t', U⟩, a1, c1, a2, c2, a3, c3⟩, rfl, hs, ho, hb2⟩
    obtain ⟨e1, e2, e3, e4, hs5⟩ := hs
    dsimp only at e1 e2 e3 e4 hs5
    subst e1 e2 e3 e4
    have hz0 := E.out.bel.size
    replace E := Lib.hid (E.out.step hb2)
    have Ho := Lib.hid ho
    have Hs := Lib.hid hs5
    have hz := E.out.bel.size
    have hz2 := hb2.size
    clear ho hb2 hs5 d0
    have d0 := cells_at E.out.blk
    have f0 := free_at E.out.blk
    simp only [basecells] at d0
    have z0 := heap_lt E.out.blk
    simp only [bwcells]
    have HPb := Lib.hid (SameBw.base (u := ⟨num', F', tips', t', tr⟩) (v := ⟨num', F', tips', t', U⟩) ⟨rfl, rfl, rfl, rfl, Hs.out⟩ HP.out)
    go_wp2_with fail
    have hC : Chg [w.heap.size] w2 (((((w2.setCell ⟨w.heap.size, 0, none⟩ (.int .u64 num')).setCell ⟨w.heap.size, 1, none⟩ (.slice a1 F'.length c1)).setCell ⟨w.heap.size, 2, none⟩ (.slice a2 tips'.length c2)).setCell ⟨w.heap.size, 3, none⟩ (.int .u64 t')).setCell ⟨w.heap.size, 4, none⟩ (.slice a3 U.length c3)) := (((((Chg.refl _ _).put _ _ (by simp)).put _ _ (by simp)).put _ _ (by simp)).put _ _ (by simp)).put _ _ (by simp)
    have hs4 : (((((w2.setCell ⟨w.heap.size, 0, none⟩ (.int .u64 num')).setCell ⟨w.heap.size, 1, none⟩ (.slice a1 F'.length c1)).setCell ⟨w.heap.size, 2, none⟩ (.slice a2 tips'.length c2)).setCell ⟨w.heap.size, 3, none⟩ (.int .u64 t')).setCell ⟨w.heap.size, 4, none⟩ (.slice a3 U.length c3)).heap.size = w2.heap.size := by simp
    have hs4' := Lib.hid hs4
    clear hs4
    generalize (((((w2.setCell ⟨w.heap.size, 0, none⟩ (.int .u64 num')).setCell ⟨w.heap.size, 1, none⟩ (.slice a1 F'.length c1)).setCell ⟨w.heap.size, 2, none⟩ (.slice a2 tips'.length c2)).setCell ⟨w.heap.size, 3, none⟩ (.int .u64 t')).setCell ⟨w.heap.size, 4, none⟩ (.slice a3 U.length c3)) = w4 at *
    have hF : ∀ k ∈ [w.heap.size], k < w1.heap.size := fun k hk => by rw [List.mem_singleton] at hk; subst hk; exact hz1
    have o1 := owns_chg Ho.out.f hC (fun k hk hm => by have := (owns_lt Ho.out.f k hk).1; simp at hm; omega)
    have o2 := owns_chg Ho.out.tips hC (fun k hk hm => by have := (owns_lt Ho.out.tips k hk).1; simp at hm; omega)
    have o3 := OwnT.chg hC hF Ho.out.tr
    have hB4 : Below w.heap.size w w4 := E.out.bel.trans (hC.below hz (by simp))
    have hw4 : Below w4.heap.size w4 ((w4.alloc (.map #[] 0)).alloc (.cells (gcells num' a1 F'.length c1 a2 tips'.length c2 t' a3 U.length c3 w4.heap.size a1 F'.length c1) 118)) := ((Below.refl _ _).alloc (Nat.le_refl _) _).alloc (by simp) _
    have hG : GrAt ((w4.alloc (.map #[] 0)).alloc (.cells (gcells num' a1 F'.length c1 a2 tips'.length c2 t' a3 U.length c3 w4.heap.size a1 F'.length c1) 118)) (w4.heap.size + 1) w4.heap.size w4 3 ⟨⟨num', F', tips', t', U⟩, a1, c1, a2, c2, a3, c3⟩ [] a1 c1 F' :=
      ⟨heap_new2 _ _ _, (MapN.made w4).below ((Below.refl _ _).alloc (Nat.le_refl _) _), ⟨by omega, by omega⟩, hw4, ⟨vec_of o1, vec_of o2, OwnT.rd o3, H.out.okf, H.out.okt, H.out.num, H.out.t⟩, fun v hv => (by cases hv), OwnD.base (OwnD.below o1 hw4) (Nat.zero_le _), H.out.okf, List.nodup_nil, fun v hv => (by cases hv), by decide, by dsimp only; omega, by dsimp only; omega, by omega, HPb.out, fun v hv => (by cases hv)⟩
    have HOw := Lib.hid (show OwnB w4 w.heap.size ⟨⟨num', F', tips', t', U⟩, a1, c1, a2, c2, a3, c3⟩ from ⟨OwnD.base o1 hz0, OwnD.base o2 hz0, OwnT.base hz0 o3⟩)
    have HG := Lib.hid hG
    have HBF := Lib.hid (hB4.trans (hw4.mono hB4.size))
    have hsz4 := hB4.size
    clear hC o1 o2 o3 hB4 hw4 hG hF
    have hG2 := HG.out
    have hB2 := HBF.out
    rw [hs4'.out] at hG2 hB2
    exact bodyPost_ret (v := .tuple #[.pointer (some ⟨w2.heap.size + 1, 0, none⟩), .int .i64 0]) (by simp [results, Tryz.results54, go_sem]; try rfl) rfl (.inl ⟨HP.out, w2.heap.size + 1, w2.heap.size, w4, ⟨⟨num', F', tips', t', U⟩, a1, c1, a2, c2, a3, c3⟩, a1, c1, rfl, ⟨rfl, rfl, rfl, rfl, Hs.out⟩, hG2, hB2, hsz4, HOw.out⟩)
theorem OwnB.chg {w w' : World} {base : Nat} {F : List Nat} {v : Bw} (h : OwnB w base v) (hc : Chg F w w') (hF : ∀ k ∈ F, k < base) : OwnB w' base v :=
  ⟨owns_chg h.f hc (fun k hk hm => by have := (owns_lt h.f k hk).1; have := hF k hm; omega), owns_chg h.tips hc (fun k hk hm => by have := (owns_lt h.tips k hk).1; have := hF k hm; omega), OwnT.chg hc hF h.tr⟩
/-- blocks are changed that are no part of a graph: it stays, read in an older world that is made anew -/
theorem GrAt.tell {F : List Nat} {w w' : World} {pg mb : Nat} {w0 : World} {b : Bw} {L : List Cw} {va : Option Addr} {vc : Nat} {vv : List Dt} {base : Nat} (h : GrAt w pg mb w0 3 b L va vc vv) (ho : OwnB w0 base b) (hc : Chg F w w') (hF : ∀ k ∈ F, k < base ∨ w0.heap.size ≤ k) (hn : NoRow w F) (hp : pg ∉ F) (hm : mb ∉ F) :
    ∃ w1 : World, w1.heap.size = w0.heap.size ∧ GrAt w' pg mb w1 3 b L va vc vv ∧ OwnB w1 base b := by
  have hs1 := h.bel.size
  have hs2 := hc.size
  have hsz : ({ w' with heap := w'.heap.extract 0 w0.heap.size } : World).heap.size = w0.heap.size := by
    show (w'.heap.extract 0 w0.heap.size).size = _
    simp; omega
  have hget : ∀ k, k < w0.heap.size → ({ w' with heap := w'.heap.extract 0 w0.heap.size } : World).heap[k]? = w'.heap[k]? := fun k hk => by
    show (w'.heap.extract 0 w0.heap.size)[k]? = _
    rw [Array.getElem?_extract]
    simp; omega
  have hchg : Chg (F.filter fun k => decide (k < base)) w0 { w' with heap := w'.heap.extract 0 w0.heap.size } := by
    refine ⟨?_, ?_, ?_, by rw [hsz]; exact Nat.le_refl _, fun k hk hkF => ?_⟩
    · show w'.os = w0.os
      rw [hc.os, h.bel.os]
    · show w'.tape = w0.tape
      rw [hc.tape, h.bel.tape]
    · show w'.output = w0.output
      rw [hc.output, h.bel.output]
    · have hnF : k ∉ F := fun hm => by
        rcases hF k hm with h1 | h1
        · exact hkF (List.mem_filter.2 ⟨hm, decide_eq_true h1⟩)
        · omega
      rw [hget k hk, hc.block k (by omega) hnF, h.bel.block k hk]
  have hO := ho.chg hchg (fun k hk => by simpa using (List.mem_filter.1 hk).2)
  refine ⟨{ w' with heap := w'.heap.extract 0 w0.heap.size }, hsz, ?_, hO⟩
  exact ⟨heap_chg h.blk hc hp, h.map.chg hc hm, by rw [hsz]; exact h.old, ⟨rfl, rfl, rfl, by rw [hsz]; omega, fun k hk => by rw [hsz] at hk; exact (hget k hk).symm⟩,
    ⟨hO.f.vec, hO.tips.vec, OwnT.rd hO.tr, h.base.okf, h.base.okt, h.base.num, h.base.t⟩, fun v hv => (h.each v hv).chg hc hn, h.own.chg hc hn, h.okv, h.nodup, h.may, h.max, h.fmax, h.tmax, h.vmax, h.bp, h.out⟩
end Go.Proofs.YtaandcblndldmaaGreat

/- AudC -/
namespace Go.Proofs.YtaandcblndldmaaGreat
open Go.RowKit
set_option linter.unusedVariables false
set_option linter.unusedSimpArgs false

/-- a snapshot that may be -/
structure RecP (v : Sw) : Prop where
  who : whoB v = true
  base : BaseP v.b.b
  all : (auF v.b.b.f (cms v.l)).gone = []
  sorted : SortedC (cms v.l)
theorem InsTo.bel' {w w' : World} {pg mb : Nat} {w0 : World} {m : Nat} {b : Bw} {L : List Cw} {vv : List Dt} {c : Cm} {e : Ending} (h : InsTo w pg mb w0 m b L vv c e w') {B : Nat} (hB : B ≤ w.heap.size) (h1 : B ≤ pg) (h2 : B ≤ mb) : Below B w w' := by
  obtain ⟨_, ⟨_, hb⟩ | ⟨_, u, va', vc', _, _, hc⟩⟩ := h
  · exact hb.mono hB
  · exact hc.below hB (fun k hk => by simp at hk; rcases hk with rfl | rfl <;> assumption)
end Go.Proofs.YtaandcblndldmaaGreat

/- AudD -/
namespace Go.Proofs.YtaandcblndldmaaGreat
open Go.RowKit
set_option linter.unusedVariables false
set_option linter.unusedSimpArgs false

/-- types of the blocks in which one that is told keeps what it is told -/
def TellTy (t : TypeId) : Prop := t = 42 ∨ t = 77 ∨ t = 78 ∨ t = 3
def TellB (w : World) (F : List Nat) : Prop := ∀ k ∈ F, ∃ C t fr, w.heap[k]? = some (.cells C t fr) ∧ TellTy t
theorem TellB.noRow {w : World} {F : List Nat} (h : TellB w F) : NoRow w F := fun k hk C t fr hh => by
  obtain ⟨C1, t1, fr1, h1, h2⟩ := h k hk
  rw [hh] at h1
  injection h1 with h1
  injection h1 with _ h1 _
  subst h1
  rcases h2 with rfl | rfl | rfl | rfl <;> exact ⟨by decide, by decide⟩
theorem TellB.ne {w : World} {F : List Nat} (h : TellB w F) {k : Nat} {C : Array Value} {t : TypeId} {fr : Nat × Nat} (hk : w.heap[k]? = some (.cells C t fr)) (ht : ¬ TellTy t) : k ∉ F := fun hm => by
  obtain ⟨C1, t1, fr1, h1, h2⟩ := h k hm
  rw [hk] at h1
  injection h1 with h1
  injection h1 with _ h1 _
  subst h1
  exact ht h2
theorem TellB.neM {w : World} {F : List Nat} (h : TellB w F) {k : Nat} {es : Array MapEntry} {c : Nat} (hk : w.heap[k]? = some (.map es c)) : k ∉ F := fun hm => by
  obtain ⟨C1, t1, fr1, h1, h2⟩ := h k hm
  rw [hk] at h1
  cases h1
theorem not_tell {t : TypeId} (h : t = 35 ∨ t = 118 ∨ t = 54) : ¬ TellTy t := by
  unfold TellTy
  rcases h with rfl | rfl | rfl <;> decide
/-- one that is told of flaws: what it keeps stays when others change other blocks; being told it changes its own alone -/
structure TellS (fn : FuncId) (cap : Array Value) (K0 : List Nat) (base : Nat) (Inv : Nat → World → List Fw → Prop) : Prop where
  enters : ∀ args w, (callFunc fn args).run Tryz.prog w = .ok (.enter fn args) w
  low : ∀ k ∈ K0, k < base
  chg : ∀ N W W' l G, Inv N W l → Chg G W W' → (∀ k ∈ G, ∀ C t fr, W.heap[k]? = some (.cells C t fr) → ¬ TellTy t) → Inv N W' l
  tell : ∀ N W l (i e : Int), Inv N W l → N ≤ W.heap.size → base ≤ N → l.length ≤ 2000000 → Calls Tryz.prog fn (#[.int .i64 i, .int .i64 e] ++ cap) W (fun en W' => en = .returned (.tuple #[]) ∧ Inv N W' (l ++ [(i, e)]) ∧ ∃ F, Chg F W W' ∧ TellB W F ∧ ∀ k ∈ F, k ∈ K0 ∨ N ≤ k)
def flw (l : List (Nat × Int)) : List Fw := l.map fun x => ((x.1 : Int), x.2)
theorem flw_snoc (l : List (Nat × Int)) (x : Nat × Int) : flw (l ++ [x]) = flw l ++ [((x.1 : Int), x.2)] := by unfold flw; simp
theorem auF_flen (F : List Dt) (cs : List Cm) : (auF F cs).fl.length ≤ cs.length := by
  induction cs using snoc_rec with
  | h0 => exact Nat.zero_le _
  | h1 cs c ih =>
    rw [auF_snoc]
    unfold auStep
    split
    · dsimp only
      split
      · simp; omega
      · simp; omega
    · simp; omega
/-- while commits go in -/
structure InsA (w wr : World) (C : Array Value) (K0 : List Nat) (pg mb : Nat) (w0 : World) (b : Bw) (L : List Cw) (va : Option Addr) (vc : Nat) (vv : List Dt) (s : Au) : Prop where
  blk : wr.heap[w.heap.size]? = some (.cells C 35 (0, 0))
  chg : Chg K0 w wr
  gr : GrAt wr pg mb w0 3 b L va vc vv
  own : OwnB w0 w.heap.size b
  old : w.heap.size < w0.heap.size
  au : s.L = cms L
  hist : HistP b.b.f (cms L) vv
theorem InsA.below {w wr w' : World} {C : Array Value} {K0 : List Nat} {pg mb : Nat} {w0 : World} {b : Bw} {L : List Cw} {va : Option Addr} {vc : Nat} {vv : List Dt} {s : Au} (h : InsA w wr C K0 pg mb w0 b L va vc vv s) (hb : Below wr.heap.size wr w') : InsA w w' C K0 pg mb w0 b L va vc vv s :=
  ⟨(hb.block _ (heap_lt h.blk)).trans h.blk, h.chg.trans (Chg.of_below (F := []) hb) (fun x hx => by cases hx), h.gr.below hb, h.own, h.old, h.au, h.hist⟩
theorem InsA.ins {w wr w' : World} {C : Array Value} {K0 : List Nat} {pg mb : Nat} {w0 : World} {b : Bw} {L : List Cw} {va : Option Addr} {vc : Nat} {vv : List Dt} {s : Au} {c : Cm} {e : Ending} (h : InsA w wr C K0 pg mb w0 b L va vc vv s) (okc : okV c.vv) (hi : InsTo wr pg mb w0 3 b L vv c e w') (k : Nat) :
    e = .returned (.int .i64 (insE b.b.f (findC s.L) s.L.length c)) ∧ (∃ G, Chg G wr w' ∧ (∀ k ∈ G, ∀ C t fr, wr.heap[k]? = some (.cells C t fr) → ¬ TellTy t)) ∧
    ∃ (L' : List Cw) (va' : Option Addr) (vc' : Nat) (vv' : List Dt), InsA w w' C K0 pg mb w0 b L' va' vc' vv' (auStep b.b.f s k c) := by
  have hle : s.L.length = L.length := by rw [h.au]; simp [cms]
  have o1 := h.gr.old.1
  have o2 := h.gr.old.2
  have o3 := h.old
  have hB : Below (w.heap.size + 1) wr w' := hi.bel' (by have := heap_lt h.blk; omega) (by omega) (by omega)
  have hblk : w'.heap[w.heap.size]? = some (.cells C 35 (0, 0)) := (hB.block _ (by omega)).trans h.blk
  have hchg : Chg K0 w w' := ⟨hB.os.trans h.chg.os, hB.tape.trans h.chg.tape, hB.output.trans h.chg.output, Nat.le_trans h.chg.size hB.size, fun k hk hn => (hB.block k (by omega)).trans (h.chg.block k hk hn)⟩
  rw [hle, h.au]
  obtain ⟨rfl, ⟨hz, hb⟩ | ⟨hz, u, va', vc', hu, hG, hc⟩⟩ := hi
  · refine ⟨rfl, ⟨[], Chg.of_below hb, fun k hk => (by cases hk)⟩, L, va, vc, vv, hblk, hchg, h.gr.below hb, h.own, h.old, ?_, h.hist⟩
    unfold auStep
    rw [hle, h.au, if_neg hz]
  · refine ⟨rfl, ⟨[pg, mb], hc, fun k hk C' t fr hh => ?_⟩, L ++ [u], va', vc', joinV vv c.vv, hblk, hchg, hG, h.own, h.old, ?_, ?_⟩
    · simp at hk
      rcases hk with rfl | rfl
      · rw [h.gr.blk] at hh
        injection hh with hh
        injection hh with _ hh _
        subst hh
        exact not_tell (.inr (.inl rfl))
      · obtain ⟨es, clock, hm⟩ := h.gr.map.block
        rw [hm] at hh
        cases hh
    · unfold auStep
      rw [hle, h.au, if_pos hz]
      simp [cms, hu]
    · have := h.hist.step h.gr.okv okc hz
      rw [show cms (L ++ [u]) = cms L ++ [c] by simp [cms, hu]]
      exact this
theorem InsA.tell {w wr w' : World} {C : Array Value} {K0 F : List Nat} {pg mb : Nat} {w0 : World} {b : Bw} {L : List Cw} {va : Option Addr} {vc : Nat} {vv : List Dt} {s : Au} (h : InsA w wr C K0 pg mb w0 b L va vc vv s) (hK : ∀ k ∈ K0, k < w.heap.size) (hc : Chg F wr w') (hT : TellB wr F) (hF : ∀ k ∈ F, k ∈ K0 ∨ w0.heap.size ≤ k) :
    ∃ w1 : World, w1.heap.size = w0.heap.size ∧ InsA w w' C K0 pg mb w1 b L va vc vv s := by
  have o3 := h.old
  obtain ⟨es, clock, hm⟩ := h.gr.map.block
  obtain ⟨w1, hs, hG, hO⟩ := h.gr.tell h.own hc (fun k hk => (hF k hk).imp (hK k) id) hT.noRow (hT.ne h.gr.blk (not_tell (.inr (.inl rfl)))) (hT.neM hm)
  refine ⟨w1, hs, heap_chg h.blk hc (hT.ne h.blk (not_tell (.inl rfl))), h.chg.trans hc (fun k hk hlt => ?_), hG, hO, by omega, h.au, h.hist⟩
  rcases hF k hk with h1 | h1
  · exact h1
  · omega
/-- the commit that was inserted last, as a pointer into the snapshot's row -/
def LastP (l : List Cw) (la : Option Addr) (last : Option Cm) (x : Value) : Prop :=
  (last = none ∧ x = .pointer none) ∨ ∃ (ad : Addr) (i : Nat) (u : Cw), last = some u.c ∧ x = .pointer (some (ad.add (i * 11))) ∧ la = some ad ∧ l[i]? = some u
theorem auS_ne {F : List Dt} {s : Au} {k : Nat} {c : Cm} (h : insE F (findC s.L) s.L.length c ≠ 0) : (auStep F s k c).last = s.last ∧ flw (auStep F s k c).fl = flw s.fl ++ [((k : Int), insE F (findC s.L) s.L.length c)] := by
  unfold auStep
  rw [if_neg h]
  exact ⟨rfl, flw_snoc _ _⟩
theorem auS_bad {F : List Dt} {s : Au} {k : Nat} {c : Cm} (h : insE F (findC s.L) s.L.length c = 0) (hb : auBad s.last c = true) : (auStep F s k c).last = some c ∧ flw (auStep F s k c).fl = flw s.fl ++ [((k : Int), 16)] := by
  unfold auStep
  rw [if_pos h, if_pos hb]
  exact ⟨rfl, flw_snoc _ _⟩
theorem auS_ok {F : List Dt} {s : Au} {k : Nat} {c : Cm} (h : insE F (findC s.L) s.L.length c = 0) (hb : auBad s.last c = false) : (auStep F s k c).last = some c ∧ flw (auStep F s k c).fl = flw s.fl := by
  unfold auStep
  rw [if_pos h, if_neg (by rw [hb]; simp)]
  exact ⟨rfl, rfl⟩
def InsATo (w : World) (v : Sw) (K0 : List Nat) (Inv : Nat → World → List Fw → Prop) (l0 : List Fw) (e : Ending) (w' : World) : Prop :=
  (¬ BaseP v.b.b ∧ e = .returned (.pointer none) ∧ Below w.heap.size w w' ∧ (∀ N, Inv N w' l0)) ∨
  (BaseP v.b.b ∧ ∃ (pg mb : Nat) (w0 : World) (b : Bw) (L : List Cw) (va : Option Addr) (vc : Nat) (vv : List Dt), e = .returned (.pointer (some ⟨pg, 0, none⟩)) ∧ SameBw v.b.b b.b ∧ GrAt w' pg mb w0 3 b L va vc vv ∧ w.heap.size ≤ w0.heap.size ∧ cms L = (auF v.b.b.f (cms v.l)).L ∧ Inv w0.heap.size w' (l0 ++ flw (auF v.b.b.f (cms v.l)).fl) ∧ Chg K0 w w' ∧ HistP b.b.f (cms L) vv)

set_option maxRecDepth 100000 in
set_option maxHeartbeats 16000000 in
theorem insertA_any (v : Sw) (m : Nat) (wS w : World) (fn : FuncId) (cap : Array Value) (K0 : List Nat) (Inv : Nat → World → List Fw → Prop) (l0 : List Fw) (h : SwAt wS m v) (hS : Below wS.heap.size wS w) (hN : SwN v) (S : TellS fn cap K0 w.heap.size Inv) (hK : ∀ k ∈ K0, wS.heap.size ≤ k) (hI : ∀ N, Inv N w l0) (hl0 : l0.length ≤ 2) :
    Calls Tryz.prog 32 #[.agg (swcells v), .func (.func fn) #[] cap] w (InsATo w v K0 Inv l0) := by
  obtain ⟨k, ip, ia, ic, incs, ⟨⟨num, F, tips, t, tr⟩, fa, fc, ta, tc, ra, rc⟩, la, lc, l⟩ := v
  have H := Lib.hid h
  have HN := Lib.hid hN
  have HS := Lib.hid S
  have BS := Lib.hid hS
  have HK := Lib.hid hK
  have HI0 := Lib.hid hI
  have n2 := hN.f
  have n3 := hN.tips
  have n4 := hN.few
  have n5 := h.cms.sl.2.1
  dsimp only at n2 n3 n4 n5
  have he := S.enters
  have B0 : Hid (BoxE 35 w (w.alloc (.cells (sncells k ip ia incs.length ic num fa F.length fc ta tips.length tc t ra tr.length rc la l.length lc) 35)) (sncells k ip ia incs.length ic num fa F.length fc ta tips.length tc t ra tr.length rc la l.length lc)) := Lib.hid ⟨heap_new _ _, (Below.refl _ _).alloc (Nat.le_refl _) _⟩
  clear h hN S hS hK hI
  simp only [swcells]
  go_enter Tryz.func32, Tryz.ntmps32
  go_upto_region 1 with (fail)
  generalize (w.alloc (.cells (sncells k ip ia incs.length ic num fa F.length fc ta tips.length tc t ra tr.length rc la l.length lc) 35)) = wa at B0 ⊢
  have d0 := cells_at B0.out.blk
  simp only [sncells] at d0
  have z0 := heap_lt B0.out.blk
  go_wp2_with fail
  refine (newO_any ⟨⟨num, F, tips, t, tr⟩, fa, fc, ta, tc, ra, rc⟩ m _ (H.out.b.below (below2 BS.out B0.out.bel BS.out.size)) (by dsimp only; omega) (by dsimp only; omega) HN.out.tr).mono ?_
  intro e w3 hto
  rcases hto with ⟨hP, pg, mb, w0, b, va, vc, rfl, hsame, hG, hb, hold, hown⟩ | ⟨hn, rfl, hb⟩
  rotate_left
  · have B3 := Lib.hid (B0.out.step hb)
    have Hn := Lib.hid hn
    have HI3 := Lib.hid (fun N => HS.out.chg N w w3 l0 [] (HI0.out N) (Chg.of_below B3.out.bel) (fun k hk => by cases hk))
    clear hb hn
    go_wp2_with fail
    go_ret
    exact .inl ⟨Hn.out, rfl, B3.out.bel, HI3.out⟩
  have HP := Lib.hid hP
  have Hs := Lib.hid hsame
  have hz0 := B0.out.bel.size
  have hon := Lib.hid (show OwnB w0 w.heap.size b from ⟨hown.f.base hz0, hown.tips.base hz0, hown.tr.base hz0⟩)
  have hold2 : w.heap.size < w0.heap.size := Nat.lt_of_lt_of_le z0 hold
  have W0 : Hid (InsA w w3 (sncells k ip ia incs.length ic num fa F.length fc ta tips.length tc t ra tr.length rc la l.length lc) K0 pg mb w0 b [] va vc b.b.f (auF F ((cms l).take 0))) := Lib.hid ⟨(B0.out.step hb).blk, Chg.of_below (B0.out.step hb).bel, hG, hon.out, hold2, rfl, HistP.start hG.okv (by rw [Hs.out.f]; exact HP.out.canon)⟩
  have I0 : Hid (Inv w0.heap.size w3 (l0 ++ flw (auF F ((cms l).take 0)).fl)) := Lib.hid (by
    have h1 := HS.out.chg w0.heap.size w w3 l0 [] (HI0.out _) (Chg.of_below (B0.out.step hb).bel) (fun k hk => by cases hk)
    simpa [flw, auF_nil] using h1)
  have hbf := Lib.hid (show b.b.f = F from Hs.out.f)
  clear hb hG hsame hP hold hown HI0 d0 z0 B0
  generalize hn0 : w0.heap.size = n0 at I0
  have Hn0 := Lib.hid hn0
  clear hn0
  have hbase : w.heap.size ≤ n0 := by rw [← Hn0.out]; omega
  have d0 := cells_at W0.out.blk
  simp only [sncells] at d0
  have z0 := heap_lt W0.out.blk
  go_wp2_with fail
  generalize b.b.f = vv0 at W0
  go_loopw [22, 7] (fun j lp wr => ∃ (q : Nat) (w0 : World) (L : List Cw) (va' : Option Addr) (vc' : Nat) (vv : List Dt), q ≤ l.length ∧ j = .int .i64 q ∧ Hid (w0.heap.size = n0) ∧ Hid (LastP l la (auF F ((cms l).take q)).last lp) ∧ Hid (Inv n0 wr (l0 ++ flw (auF F ((cms l).take q)).fl)) ∧ Hid (InsA w wr (sncells k ip ia incs.length ic num fa F.length fc ta tips.length tc t ra tr.length rc la l.length lc) K0 pg mb w0 b L va' vc' vv (auF F ((cms l).take q)))) (fun j _ _ => l.length - (intOf j).toNat)
  case atStart => exact ⟨0, w0, [], va, vc, vv0, Nat.zero_le _, rfl, Hn0, Lib.hid (.inl ⟨rfl, rfl⟩), I0, W0⟩
  case round =>
    obtain ⟨q, w0, L, va', vc', vv, hq, rfl, Hn0, HL, HI, W⟩ := hrel
    clear W0 I0 d0 z0
    have BW := Lib.hid (show Below wS.heap.size wS wr from BS.out.trans (W.out.chg.below BS.out.size HK.out))
    by_cases hlt : q < l.length
    rotate_left
    · have hqq := Lib.hid (show (cms l).take q = cms l from List.take_of_length_le (by unfold cms; simp; omega))
      go_wp2_with fail
      go_ret
      exact .inr ⟨HP.out, pg, mb, w0, b, L, va', vc', vv, rfl, Hs.out, W.out.gr, Nat.le_of_lt W.out.old, by rw [← W.out.au, hqq.out], by rw [Hn0.out]; have h1 := HI.out; rw [hqq.out] at h1; exact h1, W.out.chg, W.out.hist⟩
    obtain ⟨v, hv⟩ : ∃ v, l[q]? = some v := ⟨l[q], by simp [hlt]⟩
    have Hv := Lib.hid hv
    have Hcv := Lib.hid (cms_i hv)
    obtain ⟨ae, hae, ⟨c0, c1, c2, c3, c4, c5, c6, c7, c8, c9, c10⟩, hlb⟩ := (H.out.cms.below BW.out).at_ hv
    dsimp only at hae
    subst hae
    have Hat := Lib.hid (H.out.cms.each v (List.mem_of_getElem? hv))
    have Hn := Lib.hid (HN.out.each v (List.mem_of_getElem? hv))
    clear hv
    obtain ⟨⟨⟨⟨r, i⟩, s⟩, ps, uu, t1, ⟨kk, n, x, p, ds⟩⟩, qa, qc, ua, uc, pa, pc, da, dc⟩ := v
    dsimp only at c0 c1 c2 c3 c4 c5 c6 c7 c8 c9 c10
    have hn2 := Hn.out.2.1
    dsimp only at hn2
    have HA : Hid (BoxE 54 wr (wr.alloc (.cells (ccells r i s qa ps.length qc ua uu.length uc t1 kk pa p.length pc n x da ds.length dc) 54)) (ccells r i s qa ps.length qc ua uu.length uc t1 kk pa p.length pc n x da ds.length dc)) := Lib.hid ⟨heap_new _ _, (Below.refl _ _).alloc (Nat.le_refl _) _⟩
    have WA := Lib.hid (W.out.below HA.out.bel)
    have IA := Lib.hid (HS.out.chg n0 _ _ _ [] HI.out (Chg.of_below HA.out.bel) (fun k hk => by cases hk))
    go_wp2_with fail
    refine (insert_G pg mb w0 3 b L va' vc' vv ⟨⟨((r, i), s), ps, uu, t1, ⟨kk, n, x, p, ds⟩⟩, qa, qc, ua, uc, pa, pc, da, dc⟩ _ WA.out.gr (Hat.out.below (below2 BW.out HA.out.bel BW.out.size)) (by dsimp only; omega)).mono ?_
    intro e w4 hto
    have HB4 := Lib.hid (hto.keep HA.out.blk (by have := heap_lt W.out.gr.blk; omega) (by have := W.out.gr.map.lt; omega))
    obtain ⟨rfl, ⟨G, hg1, hg2⟩, L2, va2, vc2, vv2, hW⟩ := WA.out.ins Hat.out.ok.vv hto q
    have I4 := Lib.hid (HS.out.chg n0 _ _ _ G IA.out hg1 hg2)
    rw [hbf.out] at hW
    rw [hbf.out]
    have Hst := Lib.hid (auF_take F Hcv.out)
    have W4 := Lib.hid hW
    clear hto hW hg1 hg2 c0 c1 c2 c3 c4 c5 c6 c7 c8 c9 c10 hlb WA IA HA HI W
    have hlenI : (l0 ++ flw (auF F ((cms l).take q)).fl).length ≤ 2000000 := by
      have h1 := auF_flen F ((cms l).take q)
      have h2 : ((cms l).take q).length ≤ q := by rw [List.length_take]; omega
      unfold flw
      simp
      omega
    have HlI := Lib.hid hlenI
    clear hlenI
    dsimp only at W4 Hst Hcv
    generalize hs0 : auF F ((cms l).take q) = s0 at *
    generalize hs1 : auF F ((cms l).take (q + 1)) = s1 at *
    have Hs1 := Lib.hid hs1
    clear hs0 hs1
    obtain ⟨X, hX⟩ : ∃ X, X = insE F (findC s0.L) s0.L.length ⟨((r, i), s), ps, uu, t1, ⟨kk, n, x, p, ds⟩⟩ := ⟨_, rfl⟩
    rw [← hX]
    have HX := Lib.hid hX
    clear hX
    have BW4 := Lib.hid (show Below wS.heap.size wS w4 from BS.out.trans (W4.out.chg.below BS.out.size HK.out))
    have hw4 : n0 ≤ w4.heap.size := by rw [← Hn0.out]; exact W4.out.gr.bel.size
    by_cases hz : X = 0
    rotate_left
    · have yz : (X != 0) = true := by rw [bne_iff_ne]; exact hz
      have Hn1 := Lib.hid (auS_ne (F := F) (s := s0) (k := q) (c := ⟨((r, i), s), ps, uu, t1, ⟨kk, n, x, p, ds⟩⟩) (by rw [← HX.out]; exact hz))
      go_wp2_with fail
      refine (HS.out.tell n0 w4 _ q X I4.out hw4 hbase HlI.out).mono ?_
      rintro e w5 ⟨rfl, hi, G5, hg1, hg2, hg3⟩
      obtain ⟨w6, hs6, hW⟩ := W4.out.tell HS.out.low hg1 hg2 (by rw [Hn0.out]; exact hg3)
      have I5 := Lib.hid (show Inv n0 w5 (l0 ++ flw s1.fl) by rw [Hst.out, Hn1.out.2, ← List.append_assoc, ← HX.out]; exact hi)
      have HL5 := Lib.hid (show LastP l (some ae) s1.last _ from by rw [Hst.out, Hn1.out.1]; exact HL.out)
      have W5 := Lib.hid (show InsA w w5 _ K0 pg mb w6 b L2 va2 vc2 vv2 s1 by rw [Hst.out]; exact hW)
      have Hn6 := Lib.hid (show w6.heap.size = n0 by rw [hs6]; exact Hn0.out)
      clear hi hg1 hg2 hg3 hW hs6
      go_wp2_with fail
      go_roundw
      case rel => exact ⟨q + 1, w6, L2, va2, vc2, vv2, by omega, by go_num, Hn6, by rw [Hs1.out]; exact HL5, by rw [Hs1.out]; exact I5, by rw [Hs1.out]; exact W5⟩
      case measure => simp [intOf]; omega
    have yz : (X != 0) = false := by rw [hz]; rfl
    have hXz := Lib.hid (show insE F (findC s0.L) s0.L.length ⟨((r, i), s), ps, uu, t1, ⟨kk, n, x, p, ds⟩⟩ = 0 by rw [← HX.out]; exact hz)
    have e0 := cells_at HB4.out
    simp only [ccells] at e0
    have z0 := heap_lt HB4.out
    have d0 := cells_at W4.out.blk
    simp only [sncells] at d0
    have z1 := heap_lt W4.out.blk
    have DW := Lib.hid (show Below w4.heap.size w4 w4.drew from (Below.refl _ _).drew)
    have hQQ := HL.out
    rcases hQQ with ⟨hl1, rfl⟩ | ⟨ad, ix, u, hl1, rfl, had, hu⟩
    · have Hn1 := Lib.hid (auS_ok (F := F) (s := s0) (k := q) (c := ⟨((r, i), s), ps, uu, t1, ⟨kk, n, x, p, ds⟩⟩) hXz.out (by rw [hl1]; rfl))
      have W4d := Lib.hid (W4.out.below DW.out)
      have I4d := Lib.hid (HS.out.chg n0 _ _ _ [] I4.out (Chg.of_below DW.out) (fun k hk => by cases hk))
      clear hl1
      go_wp2_with fail
      refine region_text [([0, 1, 2, 3, 4, 5, 6, 7, 8, 9], false)] mixed (by kernel_rfl) ?_
      simp only [wpSegs, List.map_cons, List.map_nil, List.getD_cons_succ, List.getD_cons_zero]
      go_wp2_with fail
      refine And.intro (by kernel_rfl) ?_
      have I9 := Lib.hid (show Inv n0 w4.drew (l0 ++ flw s1.fl) by rw [Hst.out, Hn1.out.2]; exact I4d.out)
      have HL9 := Lib.hid (show LastP l (some ae) s1.last (.pointer (some (ae.add (q * 11)))) from .inr ⟨ae, q, _, by rw [Hst.out, Hn1.out.1], rfl, rfl, Hv.out⟩)
      have W9 := Lib.hid (show InsA w w4.drew _ K0 pg mb w0 b L2 va2 vc2 vv2 s1 by rw [Hst.out]; exact W4d.out)
      have d9 := cells_at W9.out.blk
      simp only [sncells] at d9
      have z9 := heap_lt W9.out.blk
      go_wp2_with fail
      go_roundw
      case rel => exact ⟨q + 1, w0, L2, va2, vc2, vv2, by omega, by go_num, Hn0, by rw [Hs1.out]; exact HL9, by rw [Hs1.out]; exact I9, by rw [Hs1.out]; exact W9⟩
      case measure => simp [intOf]; omega
    · obtain rfl : ae = ad := by simpa using had
      clear had
      obtain ⟨af, haf, ⟨c0, c1, c2, c3, c4, c5, c6, c7, c8, c9, c10⟩, hlb⟩ := (H.out.cms.below BW4.out).at_ hu
      cases haf
      have Hbad := Lib.hid (show auBad s0.last ⟨((r, i), s), ps, uu, t1, ⟨kk, n, x, p, ds⟩⟩ = ltCb ⟨((r, i), s), ps, uu, t1, ⟨kk, n, x, p, ds⟩⟩ u.c by rw [hl1]; rfl)
      clear hl1 hu
      obtain ⟨⟨⟨⟨r', i'⟩, s'⟩, ps', uu', t', ⟨k', n', x', p', ds'⟩⟩, qa', qc', ua', uc', pa', pc', da', dc'⟩ := u
      dsimp only at c0 c1 c2 c3 c4 c5 c6 c7 c8 c9 c10
      go_wp2_with fail
      refine region_text [([0, 1, 2, 3, 4, 5, 6, 7, 8, 9], false)] mixed (by kernel_rfl) ?_
      simp only [wpSegs, List.map_cons, List.map_nil, List.getD_cons_succ, List.getD_cons_zero]
      go_wp2_with fail
      refine (ahead15_any ⟨⟨((r, i), s), ps, uu, t1, ⟨kk, n, x, p, ds⟩⟩, qa, qc, ua, uc, pa, pc, da, dc⟩ ⟨⟨((r', i'), s'), ps', uu', t', ⟨k', n', x', p', ds'⟩⟩, qa', qc', ua', uc', pa', pc', da', dc'⟩ _).mono ?_
      rintro e w5 ⟨rfl, hb⟩
      have D5 := Lib.hid (below2 DW.out hb DW.out.size)
      have W5 := Lib.hid (W4.out.below D5.out)
      have I5 := Lib.hid (HS.out.chg n0 _ _ _ [] I4.out (Chg.of_below D5.out) (fun k hk => by cases hk))
      have hw5 : n0 ≤ w5.heap.size := Nat.le_trans hw4 D5.out.size
      clear hb c0 c1 c2 c3 c4 c5 c6 c7 c8 c9 c10 hlb d0 e0 z0 z1
      try dsimp only at Hbad
      try dsimp only
      obtain ⟨bb, hbb⟩ : ∃ bb, bb = ltCb ⟨((r, i), s), ps, uu, t1, ⟨kk, n, x, p, ds⟩⟩ ⟨((r', i'), s'), ps', uu', t', ⟨k', n', x', p', ds'⟩⟩ := ⟨_, rfl⟩
      rw [← hbb]
      replace Hbad := Lib.hid (Hbad.out.trans hbb.symm)
      clear hbb
      have d0 := cells_at W5.out.blk
      simp only [sncells] at d0
      have z1 := heap_lt W5.out.blk
      cases bb
      case false =>
        have Hn1 := Lib.hid (auS_ok (F := F) (s := s0) (k := q) (c := ⟨((r, i), s), ps, uu, t1, ⟨kk, n, x, p, ds⟩⟩) hXz.out Hbad.out)
        go_wp2_with fail
        refine And.intro (by kernel_rfl) ?_
        have I9 := Lib.hid (show Inv n0 w5 (l0 ++ flw s1.fl) by rw [Hst.out, Hn1.out.2]; exact I5.out)
        have HL9 := Lib.hid (show LastP l (some ae) s1.last (.pointer (some (ae.add (q * 11)))) from .inr ⟨ae, q, _, by rw [Hst.out, Hn1.out.1], rfl, rfl, Hv.out⟩)
        have W9 := Lib.hid (show InsA w w5 _ K0 pg mb w0 b L2 va2 vc2 vv2 s1 by rw [Hst.out]; exact W5.out)
        have d9 := cells_at W9.out.blk
        simp only [sncells] at d9
        have z9 := heap_lt W9.out.blk
        go_wp2_with fail
        go_roundw
        case rel => exact ⟨q + 1, w0, L2, va2, vc2, vv2, by omega, by go_num, Hn0, by rw [Hs1.out]; exact HL9, by rw [Hs1.out]; exact I9, by rw [Hs1.out]; exact W9⟩
        case measure => simp [intOf]; omega
      case true =>
        have Hn1 := Lib.hid (auS_bad (F := F) (s := s0) (k := q) (c := ⟨((r, i), s), ps, uu, t1, ⟨kk, n, x, p, ds⟩⟩) hXz.out Hbad.out)
        go_wp2_with fail
        refine And.intro (by kernel_rfl) ?_
        go_wp2_with fail
        refine (HS.out.tell n0 w5 _ q 16 I5.out hw5 hbase HlI.out).mono ?_
        rintro e w7 ⟨rfl, hi, G5, hg1, hg2, hg3⟩
        obtain ⟨w6, hs6, hW⟩ := W5.out.tell HS.out.low hg1 hg2 (by rw [Hn0.out]; exact hg3)
        have I7 := Lib.hid hi
        have W7 := Lib.hid hW
        have Hn6 := Lib.hid (show w6.heap.size = n0 by rw [hs6]; exact Hn0.out)
        clear hi hg1 hg2 hg3 hW hs6 d0 z1
        have I9 := Lib.hid (show Inv n0 w7 (l0 ++ flw s1.fl) by rw [Hst.out, Hn1.out.2, ← List.append_assoc]; exact I7.out)
        have HL9 := Lib.hid (show LastP l (some ae) s1.last (.pointer (some (ae.add (q * 11)))) from .inr ⟨ae, q, _, by rw [Hst.out, Hn1.out.1], rfl, rfl, Hv.out⟩)
        have W9 := Lib.hid (show InsA w w7 _ K0 pg mb w6 b L2 va2 vc2 vv2 s1 by rw [Hst.out]; exact W7.out)
        have d9 := cells_at W9.out.blk
        simp only [sncells] at d9
        have z9 := heap_lt W9.out.blk
        go_wp2_with fail
        go_roundw
        case rel => exact ⟨q + 1, w6, L2, va2, vc2, vv2, by omega, by go_num, Hn6, by rw [Hs1.out]; exact HL9, by rw [Hs1.out]; exact I9, by rw [Hs1.out]; exact W9⟩
        case measure => simp [intOf]; omega
end Go.Proofs.YtaandcblndldmaaGreat

/- AudE -/
namespace Go.Proofs.YtaandcblndldmaaGreat
open Go.RowKit
set_option linter.unusedVariables false
set_option linter.unusedSimpArgs false

/-- what Check's closure keeps: a cell with the row of flaws; the row is as it was, or came later -/
def InvC (pb base : Nat) (K0 : List Nat) (N : Nat) (W : World) (l : List Fw) : Prop :=
  ∃ (a : Option Addr) (c : Nat), W.heap[pb]? = some (.cells #[.slice a l.length c] 42 (0, 0)) ∧ OwnFl W base a c l ∧ ∀ k ∈ ob a, k ∈ K0 ∨ N ≤ k
theorem ob_flaw {w : World} {base : Nat} {a : Option Addr} {c : Nat} {l : List Fw} (h : OwnFl w base a c l) {k : Nat} (hk : k ∈ ob a) : ∃ C fr, w.heap[k]? = some (.cells C 77 fr) := ob_row h k hk
theorem flaw_ne {w : World} {base : Nat} {a : Option Addr} {c : Nat} {l : List Fw} (h : OwnFl w base a c l) {pb : Nat} {C : Array Value} {fr : Nat × Nat} (hb : w.heap[pb]? = some (.cells C 42 fr)) : pb ∉ ob a := fun hm => by
  obtain ⟨C1, f1, h1⟩ := ob_flaw h hm
  rw [hb] at h1
  injection h1 with h1
  injection h1 with _ h1 _
  exact absurd h1 (by decide)
set_option maxRecDepth 100000 in
set_option maxHeartbeats 4000000 in
theorem check1_any (pb base : Nat) (K0 : List Nat) (hpb : pb ∈ K0) (N : Nat) (W : World) (l : List Fw) (i e : Int) (hI : InvC pb base K0 N W l) (hN : N ≤ W.heap.size) (hb0 : base ≤ W.heap.size) (hl : l.length ≤ 2000000) :
    Calls Tryz.prog 42 #[.int .i64 i, .int .i64 e, .pointer (some ⟨pb, 0, none⟩)] W (fun en W' => en = .returned (.tuple #[]) ∧ InvC pb base K0 N W' (l ++ [(i, e)]) ∧ ∃ F, Chg F W W' ∧ TellB W F ∧ ∀ k ∈ F, k ∈ K0 ∨ N ≤ k) := by
  obtain ⟨a, c, hblk, hown, hob⟩ := hI
  have HB := Lib.hid hblk
  have HO := Lib.hid hown
  have Hob := Lib.hid hob
  have d0 := cells_at hblk
  have z0 := heap_lt hblk
  have hA := Lib.hid (show Below W.heap.size W (W.alloc (.cells #[.int .i64 i, .int .i64 e] 77)) from (Below.refl _ _).alloc (Nat.le_refl _) _)
  clear hblk hown hob
  go_enter Tryz.func42, Tryz.ntmps42
  go_wp2_with (at_builtin; go_must (refine wpList_appFl rfl _ _ rfl base a c l rfl ?o1 (some ⟨W.heap.size, 0, none⟩) 1 [(i, e)] rfl (flv_one (heap_new _ _)) ?n1 ?b1 ?_))
  case o1 => exact HO.out.below hA.out
  case n1 => simp; omega
  case b1 => simp; omega
  intro v' a' c' w' hv ho hb hc hn
  have hx := flaw_ne (HO.out.below hA.out) ((hA.out.block _ z0).trans HB.out)
  have HB2 := Lib.hid (heap_chg ((hA.out.block _ z0).trans HB.out) hc hx)
  have Hv := Lib.hid hv
  have Ho := Lib.hid ho
  have Hc := Lib.hid hc
  have Hn := Lib.hid hn
  clear hv ho hb hc hn hx d0 z0
  have d0 := cells_at HB2.out
  have f0 := free_at HB2.out
  have z0 := heap_lt HB2.out
  go_wp2_with fail
  have hne : pb ∉ ob a' := flaw_ne Ho.out HB2.out
  have hfin : InvC pb base K0 N (w'.setCell ⟨pb, 0, none⟩ (.slice a' v'.length c')) (l ++ [(i, e)]) := by
    rw [← Hv.out]
    refine ⟨a', c', heap_setCell1 HB2.out, owns_chg Ho.out (Chg.setCell w' ⟨pb, 0, none⟩ _) (fun k hk hm => by simp at hm; subst hm; exact hne hk), fun k hk => ?_⟩
    rcases Hn.out k hk with h1 | h1
    · exact Hob.out k h1
    · have := hA.out.size
      exact .inr (by omega)
  have hcf : Chg (pb :: ob a) W (w'.setCell ⟨pb, 0, none⟩ (.slice a' v'.length c')) := by
    have h1 : Chg (pb :: ob a) W w' := (Chg.of_below hA.out).trans Hc.out (fun x hx _ => List.mem_cons_of_mem _ hx)
    exact h1.trans (Chg.setCell w' ⟨pb, 0, none⟩ _) (fun x hx _ => by simp at hx; subst hx; simp)
  have htb : TellB W (pb :: ob a) := fun k hk => by
    rcases List.mem_cons.1 hk with rfl | hk
    · exact ⟨_, _, _, HB.out, .inl rfl⟩
    · obtain ⟨C1, f1, h1⟩ := ob_flaw HO.out hk
      exact ⟨C1, _, f1, h1, .inr (.inl rfl)⟩
  go_end0
  exact ⟨rfl, hfin, pb :: ob a, hcf, htb, fun k hk => by
    rcases List.mem_cons.1 hk with rfl | hk
    · exact .inl hpb
    · exact Hob.out k hk⟩
theorem tellC (pb base : Nat) (K0 : List Nat) (hpb : pb ∈ K0) (B : Nat) (hb : base ≤ B) (hK : ∀ k ∈ K0, k < B) : TellS 42 #[.pointer (some ⟨pb, 0, none⟩)] K0 B (InvC pb base K0) where
  enters := enters_of Tryz.func42 (by kernel_rfl) rfl
  low := hK
  chg := fun N W W' l G hI hc hG => by
    obtain ⟨a, c, h1, h2, h3⟩ := hI
    exact ⟨a, c, heap_chg h1 hc (fun hm => hG pb hm _ _ _ h1 (.inl rfl)), owns_chg h2 hc (fun k hk hm => by
      obtain ⟨C1, f1, hh⟩ := ob_flaw h2 hk
      exact hG k hm _ _ _ hh (.inr (.inl rfl))), h3⟩
  tell := fun N W l i e hI hN hB hl => check1_any pb base K0 hpb N W l i e hI hN (by omega) hl
/-- a snapshot's flaws -/
def ChkTo (w : World) (v : Sw) (e : Ending) (w' : World) : Prop :=
  ∃ (a : Option Addr) (c : Nat) (q : Bool) (L : List Fw), e = .returned (.slice a L.length c) ∧ (q = true ↔ BaseP v.b.b) ∧ L = headL (whoB v) q ++ (if q = true then flw (auF v.b.b.f (cms v.l)).fl else []) ∧ OwnFl w' w.heap.size a c L ∧ Below w.heap.size w w'
theorem headL_len (x y : Bool) : (headL x y).length ≤ 2 := by cases x <;> cases y <;> decide
set_option maxRecDepth 100000 in
set_option maxHeartbeats 8000000 in
theorem check_any (v : Sw) (m : Nat) (w : World) (h : SwAt w m v) (hN : SwN v) : Calls Tryz.prog 11 #[.agg (swcells v)] w (ChkTo w v) := by
  have H := Lib.hid h
  have HN := Lib.hid hN
  have B0 : Hid (BoxE 35 w (w.alloc (.cells (swcells v) 35)) (swcells v)) := Lib.hid ⟨heap_new _ _, (Below.refl _ _).alloc (Nat.le_refl _) _⟩
  clear h hN
  go_enter Tryz.func11, Tryz.ntmps11
  go_upto_region 1 with (fail)
  generalize (w.alloc (.cells (swcells v) 35)) = wa at B0 ⊢
  have d0 := cells_at B0.out.blk
  have z0 := heap_lt B0.out.blk
  simp only [swcells, sncells] at d0
  go_wp2_with fail
  refine (headA_any v m _ (H.out.below B0.out.bel) HN.out).mono ?_
  rintro e w1 ⟨a, c, q, L, rfl, hL, hq, ho, hb⟩
  have hLl : L.length ≤ 2 := by rw [hL]; exact headL_len _ _
  have B1 := Lib.hid (B0.out.step hb)
  have HL := Lib.hid hL
  have Hq := Lib.hid hq
  have Ho := Lib.hid (OwnFl.base ho B0.out.bel.size)
  clear hb hL hq ho d0 z0
  have d0 := cells_at B1.out.blk
  have z0 := heap_lt B1.out.blk
  simp only [swcells, sncells] at d0
  go_upto_region 2 with (fail)
  have hA : Below w1.heap.size w1 (w1.alloc (.cells #[.slice a L.length c] 42)) := (Below.refl _ _).alloc (Nat.le_refl _) _
  have hn1 : (w1.alloc (.cells #[.slice a L.length c] 42)).heap[w1.heap.size]? = some (.cells #[.slice a L.length c] 42 (0, 0)) := heap_new _ _
  have B2 := Lib.hid (B1.out.step hA)
  have Ho2 := Lib.hid (Ho.out.below hA)
  have hpl := heap_lt hn1
  have Hn1 := Lib.hid hn1
  clear hA hn1 d0
  have hpb : w.heap.size ≤ w1.heap.size := B1.out.bel.size
  generalize (w1.alloc (.cells #[.slice a L.length c] 42)) = w2 at B2 Ho2 Hn1 hpl ⊢
  generalize w1.heap.size = pb at Hn1 hpl hpb ⊢
  have hK1 : ∀ k ∈ pb :: ob a, w.heap.size ≤ k := fun k hk => by
    rcases List.mem_cons.1 hk with rfl | hk
    · exact hpb
    · exact (owns_lt Ho2.out k hk).1
  have hK2 : ∀ k ∈ pb :: ob a, k < w2.heap.size := fun k hk => by
    rcases List.mem_cons.1 hk with rfl | hk
    · exact hpl
    · exact (owns_lt Ho2.out k hk).2
  have HK1 := Lib.hid hK1
  have HK2 := Lib.hid hK2
  clear hK1 hK2
  have d0 := cells_at B2.out.blk
  simp only [swcells, sncells] at d0
  have z1 := heap_lt B2.out.blk
  go_wp2_with fail
  refine (insertA_any v m w _ 42 #[.pointer (some ⟨pb, 0, none⟩)] (pb :: ob a) (InvC pb w.heap.size (pb :: ob a)) L H.out B2.out.bel HN.out (tellC pb w.heap.size (pb :: ob a) (by simp) _ B2.out.bel.size HK2.out) HK1.out (fun N => ⟨a, c, Hn1.out, Ho2.out, fun k hk => .inl (List.mem_cons_of_mem _ hk)⟩) hLl).mono ?_
  intro e w3 hto
  rcases hto with ⟨hnb, rfl, hb, hi⟩ | ⟨hbp, pg, mb, w0, b, L2, va, vc, vv, rfl, hs, hG, hold, hcms, hi, hc, hhist⟩
  · obtain ⟨a2, c2, h1, h2, _⟩ := hi 0
    have B3 := Lib.hid (below2 B2.out.bel hb B2.out.bel.size)
    have H2 := Lib.hid h2
    have Hnb := Lib.hid hnb
    clear hb hi h2 hnb d0 z1 z0
    have d0 := cells_at h1
    have z0 := heap_lt h1
    clear h1
    go_wp2_with fail
    go_ret
    exact ⟨a2, c2, q, L, rfl, Hq.out, by
      cases q with
      | false => simpa using HL.out
      | true => exact absurd (Hq.out.1 rfl) Hnb.out, H2.out, B3.out⟩
  · obtain ⟨a2, c2, h1, h2, _⟩ := hi
    generalize hL9 : L ++ flw (auF v.b.b.f (cms v.l)).fl = L9 at h1 h2
    have HL9 := Lib.hid hL9
    clear hL9
    have B3 := Lib.hid (B2.out.bel.trans (hc.below B2.out.bel.size HK1.out))
    have H2 := Lib.hid h2
    have Hbp := Lib.hid hbp
    clear h2 hbp d0 z1 z0 hs hG hcms hc
    have d0 := cells_at h1
    have z0 := heap_lt h1
    clear h1
    go_wp2_with fail
    go_ret
    exact ⟨a2, c2, q, L9, rfl, Hq.out, by
      cases q with
      | false => exact absurd (Hq.out.2 Hbp.out) (by simp)
      | true => rw [← HL9.out, ← HL.out]; rfl, H2.out, B3.out⟩
end Go.Proofs.YtaandcblndldmaaGreat

/- AudG -/
namespace Go.Proofs.YtaandcblndldmaaGreat
open Go.RowKit
set_option linter.unusedVariables false
set_option linter.unusedSimpArgs false

def kO1 : Opn := ⟨1, 1, ⟨#[]⟩, [⟨#[97]⟩], []⟩
def kC1 : Cm := ⟨kD, [], [kD], 1, kO1⟩
theorem kO1_may : MayOpn kO1 := by
  refine ⟨by decide, ⟨by decide, by decide, fun s hs => ?_⟩, by decide, by decide, fun _ => ⟨by decide, by decide, by decide, rfl⟩, fun h => absurd rfl h⟩
  simp [kO1] at hs
  subst hs
  refine ⟨by decide, by decide, fun j hj => ?_⟩
  have : j = 0 := by have h2 : j < 1 := hj; omega
  subst this
  left; exact ⟨by show 97 ≤ (97 : UInt8).toNat; decide, by show (97 : UInt8).toNat ≤ 122; decide⟩
theorem kC1_may : CmP kC1 := ⟨by decide, by decide, by decide, kO1_may, by decide +kernel, by decide +kernel, by decide, ⟨List.Pairwise.nil, fun x hx => by cases hx⟩, ⟨List.Pairwise.nil, fun x hx => by cases hx⟩⟩
theorem kC1_ok : insE [] (findC []) 0 kC1 = 0 := by
  have hk : ∀ x, knN [] (findC []) kC1 kC1.ps x = getN [kD] x := fun x => by
    show max (min (getN [kD] x) (getN [] x)) (getN [kD] x) = _
    have h1 := (getN_bd [kD] x).1
    have h2 : getN [] x = 0 := rfl
    omega
  refine insE_ok kC1_may (hasG_nil _) ⟨fun p hp => (by cases hp), fun h => absurd h (by decide), fun x => ?_⟩ ⟨fun x => ?_, ⟨.inl rfl, fun p hp => (by cases hp)⟩⟩ (by decide)
  · rw [hk]; exact Int.le_refl _
  · rw [hk]; exact Int.le_refl _
theorem kC1_has : hasG [] (findC [kC1]) kD = true := by
  unfold hasG
  have : findC [kC1] kD = some kC1 := findC_mem (L := [kC1]) (by simp) (c := kC1) (by simp)
  rw [this]; rfl
theorem kC1_twice (n : Nat) : insE [] (findC [kC1]) n kC1 = 8 := insE_twice kC1_may kC1_has
theorem k1_fl : (auF [] [kC1, kC1]).fl = [(1, 8)] := by
  have h1 : auStep [] ⟨[], none, [], []⟩ 0 kC1 = ⟨[kC1], some kC1, [], []⟩ := by
    unfold auStep
    dsimp only
    rw [if_pos (show insE [] (findC []) ([] : List Cm).length kC1 = 0 from kC1_ok)]
    rfl
  have h2 : auStep [] ⟨[kC1], some kC1, [], []⟩ 1 kC1 = ⟨[kC1], some kC1, [(1, 8)], [1]⟩ := by
    unfold auStep
    dsimp only
    rw [if_neg (by rw [kC1_twice]; decide), kC1_twice]
    rfl
  show (auFrom [] 2 (auStep [] (auStep [] ⟨[], none, [], []⟩ 0 kC1) 1 kC1) []).fl = _
  rw [h1, h2]
  rfl
def cwK (s : Nat) : Cw := ⟨kC1, none, 0, some ⟨s + 1, 0, none⟩, 1, some ⟨s + 1 + 1, 0, none⟩, 1, none, 0⟩
def bwZ : Bw := ⟨⟨0, [], [], 0, []⟩, none, 0, none, 0, none, 0⟩
def swK (s : Nat) : Sw := ⟨0, 1, some ⟨s + 1 + 1 + 1 + 1, 0, none⟩, 1, [1], bwZ, some ⟨s + 1 + 1 + 1 + 1 + 1, 0, none⟩, 2, [cwK s, cwK s]⟩
def swZ : Sw := ⟨0, 0, none, 0, [], bwZ, none, 0, []⟩
theorem bwZ_at (w : World) : BwAt w 0 bwZ := ⟨Sl.nil _ _, Sl.nil _ _, ⟨rfl, Sl.nil _ _⟩, fun d hd => (by cases hd), fun d hd => (by cases hd), ⟨by decide, by decide⟩, ⟨by decide, by decide⟩⟩
theorem cwK_at {s : Nat} {w : World} (h1 : w.heap[s + 1]? = some (.cells #[.int .u8 0, .int .u32 1, .int .u64 1] 49 (0, 0))) (h2 : w.heap[s + 1 + 1]? = some (.cells #[.string ⟨#[97]⟩] 9 (0, 0))) : CwAt w (cwK s) :=
  ⟨Sl.nil _ _, Sl.blk (n := 1) (size := 3) h1 rfl (by decide), Sl.blk (n := 1) (size := 1) h2 rfl (by decide), Sl.nil _ _, okD_k, fun d hd => (by cases hd), fun d hd => (by simp [cwK, kC1] at hd; subst hd; exact okD_k), ⟨by show (0 : Int) ≤ 1; decide, by show (1 : Int) ≤ 18446744073709551615; decide⟩, fun d hd => (by cases hd)⟩
theorem swK_at {s : Nat} {w : World} (h1 : w.heap[s + 1]? = some (.cells #[.int .u8 0, .int .u32 1, .int .u64 1] 49 (0, 0))) (h2 : w.heap[s + 1 + 1]? = some (.cells #[.string ⟨#[97]⟩] 9 (0, 0)))
    (h4 : w.heap[s + 1 + 1 + 1 + 1]? = some (.cells #[.int .u32 1] 22 (0, 0))) (h5 : w.heap[s + 1 + 1 + 1 + 1 + 1]? = some (.cells (cwcells (cwK s) ++ cwcells (cwK s)) 54 (0, 0))) : SwAt w 0 (swK s) :=
  ⟨Sl.blk (n := 1) (size := 1) h4 rfl (by decide), bwZ_at w, ⟨Sl.blk (n := 2) (size := 11) h5 rfl (by decide), fun v hv => (by
    simp [swK] at hv
    subst hv
    exact cwK_at h1 h2)⟩, by show 0 ≤ 255; decide, ⟨by show (0 : Int) ≤ 1; decide, by show (1 : Int) ≤ 4294967295; decide⟩⟩
theorem swZ_at (w : World) : SwAt w 0 swZ := ⟨Sl.nil _ _, bwZ_at w, ⟨Sl.nil _ _, fun v hv => (by cases hv)⟩, by decide, ⟨by decide, by decide⟩⟩
theorem swK_n (s : Nat) : SwN (swK s) := ⟨by show 1 ≤ 1100000; decide, by show 0 ≤ 1100000; decide, by show 0 ≤ 1100000; decide, ⟨by show 0 ≤ 1100000; decide, fun x hx => (by cases hx)⟩, by show 2 ≤ 1100000; decide, fun v hv => by
  simp [swK] at hv
  subst hv
  exact ⟨by show 0 ≤ 1100000; decide, by show 1 ≤ 1100000; decide, by show 1 ≤ 1100000; decide, by show 0 ≤ 1100000; decide⟩⟩
theorem swZ_n : SwN swZ := ⟨by decide, by decide, by decide, ⟨by decide, fun x hx => (by cases hx)⟩, by decide, fun v hv => (by cases hv)⟩
theorem kn1 {q : Bool} {L : List Fw} {s : Nat} (hq : q = true ↔ BaseP (swK s).b.b) (hL : L = headL (whoB (swK s)) q ++ (if q = true then flw (auF (swK s).b.b.f (cms (swK s).l)).fl else [])) : L = [(1, 8)] := by
  obtain rfl : q = true := hq.2 BaseP.empty
  have h1 : whoB (swK s) = true := by show mayK ⟨0, 1, [1], []⟩ 1 = true; decide +kernel
  rw [hL, h1]
  show ([] ++ []) ++ flw (auF [] [kC1, kC1]).fl = _
  rw [k1_fl]
  rfl
theorem kn2 {q : Bool} {L : List Fw} (hq : q = true ↔ BaseP swZ.b.b) (hL : L = headL (whoB swZ) q ++ (if q = true then flw (auF swZ.b.b.f (cms swZ.l)).fl else [])) : L = [(-1, 2)] := by
  obtain rfl : q = true := hq.2 BaseP.empty
  have h1 : whoB swZ = false := by show mayK ⟨0, 0, [], []⟩ 0 = false; decide +kernel
  rw [hL, h1]
  rfl
theorem OwnFl.ptr {w : World} {base : Nat} {a : Option Addr} {c : Nat} {M : List Fw} (h : OwnFl w base a c M) (h0 : 0 < M.length) : ∃ g, a = some ⟨g, 0, none⟩ := by
  rcases h.2 with ⟨h1, h2⟩ | ⟨g, cap, cur, h1, _⟩
  · simp at h1; omega
  · simp at h1; exact ⟨g, h1.1⟩
theorem OwnFl.one {w : World} {base : Nat} {a : Option Addr} {c : Nat} {x y : Int} (h : OwnFl w base a c [(x, y)]) : ∃ g, a = some ⟨g, 0, none⟩ ∧ w.cell? ⟨g, 0, none⟩ = some (.int .i64 x) ∧ w.cell? ⟨g, 1, none⟩ = some (.int .i64 y) ∧ g < w.heap.size := by
  obtain ⟨g, rfl⟩ := h.ptr (by simp)
  exact ⟨g, rfl, World.ownsRow.cellAt (g := g) h 0 (by show 0 < 1 * 2; decide), World.ownsRow.cellAt (g := g) h 1 (by show 1 < 1 * 2; decide), (owns_lt h g (by simp [ob])).2⟩
set_option maxRecDepth 100000 in
set_option maxHeartbeats 8000000 in
theorem known36_any (w : World) : Calls Tryz.prog 7 #[] w fun e w' => e = .returned (.bool true) ∧ Below w.heap.size w w' := by
  go_enter Tryz.func7, Tryz.ntmps7
  go_wp2_with fail
  refine (check_any (swK w.heap.size) 0 _ ?h ?n).mono ?_
  case n => exact swK_n _
  case h => exact swK_at ((heap_old _ _ (by simp <;> omega)).trans ((heap_old _ _ (by simp <;> omega)).trans ((heap_old _ _ (by simp <;> omega)).trans ((heap_old _ _ (by simp <;> omega)).trans (heap_at _ _ (by simp)))))) ((heap_old _ _ (by simp <;> omega)).trans ((heap_old _ _ (by simp <;> omega)).trans ((heap_old _ _ (by simp <;> omega)).trans (heap_at _ _ (by simp))))) ((heap_old _ _ (by simp <;> omega)).trans (heap_at _ _ (by simp))) (heap_at _ _ (by simp))
  rintro e w7 ⟨a, c, q, L, rfl, hq, hL, ho, hb⟩
  obtain rfl : L = [(1, 8)] := kn1 hq hL
  have B7 : Hid (Below w.heap.size w w7) := Lib.hid (Below.trans (((((((Below.refl w.heap.size w).alloc (Nat.le_refl _) _).alloc (by simp) _).alloc (by simp <;> omega) _).alloc (by simp <;> omega) _).alloc (by simp <;> omega) _).alloc (by simp <;> omega) _) (hb.mono (by simp <;> omega)))
  have Ho := Lib.hid ho
  clear hb ho hq hL
  go_wp2_with fail
  refine (check_any swZ 0 _ (swZ_at _) swZ_n).mono ?_
  rintro e w8 ⟨a2, c2, q2, L2, rfl, hq, hL, ho, hb⟩
  obtain rfl : L2 = [(-1, 2)] := kn2 hq hL
  have B8 := Lib.hid (below2 B7.out hb B7.out.size)
  obtain ⟨ge, rfl, e0, e1, ze⟩ := ho.one
  obtain ⟨gd, rfl, c0, c1, zd⟩ := (Ho.out.below hb).one
  clear hb ho hq hL Ho
  go_wp2_with fail
  go_ret
  exact ⟨rfl, B8.out⟩
end Go.Proofs.YtaandcblndldmaaGreat

/- LwC -/
namespace Go.Proofs.YtaandcblndldmaaGreat
open Go.RowKit
set_option linter.unusedVariables false
set_option linter.unusedSimpArgs false

end Go.Proofs.YtaandcblndldmaaGreat
