/- The reference's tree.Apply. -/
import Derived.Test.YtmabjghjkgicgaaGreatAskC
import Derived.Test.YtmabjghjkgicgaaGreatAqB
namespace Go.Proofs.YtmabjghjkgicgaaGreat
open Go.RowKit
set_option linter.unusedVariables false
set_option linter.unusedSimpArgs false

/-- the leaf of a path and a type, or a bare one -/
def atP (T : List Nd) (p : List ByteArray) (k : Int) : Lv := (lookP T p k).getD (bareV k)
theorem atP_of {T : List Nd} {p : List ByteArray} {k : Int} {v : Lv} {z : Bool} (h1 : z = true → lookP T p k = some v) (h2 : z = false → lookP T p k = none ∧ v = bareV k) : v = atP T p k := by
  unfold atP
  cases z with
  | true => rw [h1 rfl]; rfl
  | false => rw [(h2 rfl).1, (h2 rfl).2]; rfl
theorem atP_rd {w : World} {m : Nat} {a : Option Addr} {c : Nat} {T : List Nd} {p : List ByteArray} {k : Int} (hT : TrRd w m a c T) (h1 : 1 ≤ k) (h4 : k ≤ 4) : LvRd w (atP T p k) := by
  unfold atP
  cases e : lookP T p k with
  | none => exact bareV_rd w h1 h4
  | some v => exact look_rd hT e
theorem atP_may {n : Nat} {T : List Nd} {p : List ByteArray} {k : Int} (hT : MayT n T) (h1 : 1 ≤ k) (h4 : k ≤ 4) : MayLf (atP T p k).l ∧ (atP T p k).l.k = k := by
  unfold atP
  cases e : lookP T p k with
  | none => exact ⟨may_bare ⟨h1, h4⟩, rfl⟩
  | some v => exact look_may hT e
theorem wrap_twice (n : Int) : IntKind.wrap .i64 (IntKind.wrap .i64 n) = IntKind.wrap .i64 n := by
  have := wrap_add n 0
  simpa using this
theorem wrap_apply {l : Lf} {e : Ev} (h : IntKind.wrap .i64 l.n = l.n) : IntKind.wrap .i64 (applyP l e).n = (applyP l e).n := by
  unfold applyP
  split
  · exact wrap_twice _
  · repeat' split
    all_goals exact h
theorem type_in {k : Int} (h : typeOf k ≠ 0) : 1 ≤ typeOf k ∧ typeOf k ≤ 4 := by
  unfold typeOf at h ⊢
  repeat' split
  all_goals first | omega | (simp_all; done)
def RAppTo (w : World) (T : List Nd) (v : Ew) (e : Ending) (w' : World) : Prop :=
  ((∃ code : Int, code ≠ 0 ∧ e = .returned (.tuple #[.slice none 0 0, .int .i64 code]) ∧ ¬ MayEvX v) ∨
   (∃ a' c' T' m' M, e = .returned (.tuple #[.slice a' (List.length T') c', .int .i64 0]) ∧ MayEvX v ∧ LayT 3 T v.pl M T' ∧ M.l = applyP (atP T v.pl (typeOf v.e.k)).l v.e ∧ M.l.k = typeOf v.e.k ∧ cntT 3 T' ≤ cntT 3 T + 4 ∧ BdT 1000000 3 T' ∧ TrRd w' m' a' c' T')) ∧ Below w.heap.size w w'
structure ApTE (w W : World) (v : Ew) (b6 : Nat) (L : Lv) : Prop where
  ev : EvBlk W w.heap.size v
  lf : LvBlk W b6 L
  lo : w.heap.size < b6
  bel : Below w.heap.size w W
theorem lv_put {W : World} {b : Nat} (h : W.heap[b]? = some (.cells zcells1 48 (0, 0))) (x : Lv) :
    LvBlk (((((((((W.setCell ⟨b, 0, none⟩ (.int .u8 x.l.k)).setCell ⟨b, 1, none⟩ (.int .i64 x.l.n)).setCell ⟨b, 2, none⟩ (.int .u64 x.l.t)).setCell ⟨b, 3, none⟩ (.int .u8 x.l.d.1.1)).setCell ⟨b, 4, none⟩ (.int .u32 x.l.d.1.2)).setCell ⟨b, 5, none⟩ (.int .u64 x.l.d.2)).setCell ⟨b, 6, none⟩ (.string x.l.x)).setCell ⟨b, 7, none⟩ (.slice x.ia x.l.items.length x.ic)).setCell ⟨b, 8, none⟩ (.slice x.ta x.l.tombs.length x.tc)) b x := by
  have h0 := heap_set (heap_set (heap_set (heap_set (heap_set (heap_set (heap_set (heap_set (heap_set h 0 (.int .u8 x.l.k)) 1 (.int .i64 x.l.n)) 2 (.int .u64 x.l.t)) 3 (.int .u8 x.l.d.1.1)) 4 (.int .u32 x.l.d.1.2)) 5 (.int .u64 x.l.d.2)) 6 (.string x.l.x)) 7 (.slice x.ia x.l.items.length x.ic)) 8 (.slice x.ta x.l.tombs.length x.tc)
  simp only [zcells1, List.setIfInBounds_toArray, List.set_cons_zero, List.set_cons_succ] at h0
  exact h0
theorem ApTE.put {w W : World} {v : Ew} {b : Nat} (hev : EvBlk W w.heap.size v) (h : W.heap[b]? = some (.cells zcells1 48 (0, 0))) (hlo : w.heap.size < b) (hb : Below w.heap.size w W) (x : Lv) :
    ApTE w (((((((((W.setCell ⟨b, 0, none⟩ (.int .u8 x.l.k)).setCell ⟨b, 1, none⟩ (.int .i64 x.l.n)).setCell ⟨b, 2, none⟩ (.int .u64 x.l.t)).setCell ⟨b, 3, none⟩ (.int .u8 x.l.d.1.1)).setCell ⟨b, 4, none⟩ (.int .u32 x.l.d.1.2)).setCell ⟨b, 5, none⟩ (.int .u64 x.l.d.2)).setCell ⟨b, 6, none⟩ (.string x.l.x)).setCell ⟨b, 7, none⟩ (.slice x.ia x.l.items.length x.ic)).setCell ⟨b, 8, none⟩ (.slice x.ta x.l.tombs.length x.tc)) v b x :=
  ⟨((chg_nine' b W _ _ _ _ _ _ _ _ _).block _ (heap_lt hev) (by simp; omega)).trans hev, lv_put h x, hlo, fin9 hb (by omega) _ _ _ _ _ _ _ _ _⟩
set_option maxRecDepth 100000 in
set_option maxHeartbeats 2000000 in
theorem rapplyT_any (m : Nat) (a : Option Addr) (c : Nat) (T : List Nd) (v : Ew) (w : World) (hT : TrRd w m a c T) (hB : BdT 1000000 3 T) (hM : MayT 3 T) (hv : EwAt w v) (hds : v.e.ds.length ≤ 100) (hcnt : cntT 3 T ≤ 100000)
    (hI : ∀ u, lookP T v.pl (typeOf v.e.k) = some u → u.l.items.length ≤ 900000 ∧ u.l.tombs.length ≤ 900000) :
    Calls Tryz.prog 27 #[.slice a T.length c, .agg #[.int .u8 v.e.d.1.1, .int .u32 v.e.d.1.2, .int .u64 v.e.d.2, .int .u64 v.e.t, .int .u8 v.e.k, .slice v.pa v.pl.length v.pc, .int .i64 v.e.n, .string v.e.x, .slice v.da v.e.ds.length v.dc]] w (RAppTo w T v) := by
  have HT := Lib.hid hT
  have HBd := Lib.hid hB
  have HM := Lib.hid hM
  have HV := Lib.hid hv
  have Hc := Lib.hid hcnt
  have HIt := Lib.hid hI
  clear hT hB hM hv hcnt hI
  go_enter Tryz.func27, Tryz.ntmps27
  go_wp2_with fail
  refine (rmayTop_any m a c T _ (HT.out.below ((Below.refl _ _).alloc (Nat.le_refl _) _)) HBd.out).mono ?_
  intro e w1 hto
  obtain ⟨z, rfl, hz, hb⟩ := hto
  obtain rfl : z = true := hz.2 HM.out
  have hx0 : EvBlk w1 w.heap.size v := (new1 hb).1
  have HX := Lib.hid hx0
  have HB := Lib.hid (new1 hb).2.2
  have d0 := cells_at hx0
  have z0 := heap_lt hx0
  simp only [ecells] at d0
  clear hz hb hx0
  go_wp2_with fail
  refine (mayEventX_any v _ (HV.out.below HB.out)).mono ?_
  intro e w2 hto
  obtain ⟨z, rfl, hz, hb⟩ := hto
  have Hz := Lib.hid hz
  have hx2 := HX.out.below hb
  have HX2 := Lib.hid hx2
  have HB2 := Lib.hid (below2 HB.out hb HB.out.size)
  clear hz hb d0 z0 HX HB
  have d0 := cells_at hx2
  have z0 := heap_lt hx2
  simp only [ecells] at d0
  clear hx2
  cases z with
  | false =>
    have Hn := Lib.hid (show ¬ MayEvX v from fun h => by have := Hz.out.2 h; cases this)
    go_wp2_with fail
    exact bodyPost_ret (v := .tuple #[.slice none 0 0, .int .i64 2]) (by simp [results, Tryz.results27, go_sem]; try rfl) rfl ⟨.inl ⟨2, by decide, rfl, Hn.out⟩, HB2.out⟩
  | true =>
    have HE := Lib.hid (Hz.out.1 rfl)
    have hty := type_in HE.out.op.kind
    have hk1 := hty.1
    have hk4 := hty.2
    clear Hz hty
    go_upto_region 3 with (fail)
    go_cut [6] (fun x6 wx => ∃ b6 : Nat, x6 = .pointer (some ⟨b6, 0, none⟩) ∧ Hid (ApTE w wx v b6 (atP T v.pl (typeOf v.e.k))))
    case first =>
      refine region_tree_at (fun k => k = w.heap.size) (.seg [0, 1, 2, 3, 4, 5, 6] false (.fork (.seg [7] true (.fork (.seg [8, 9, 10, 11, 12, 13, 14] false .done) (.seg [12, 8, 9, 10, 11, 13, 14] false .done))) (.seg [12] false (.seg [7] true (.seg [8, 9, 10, 11, 13, 14] false .done))))) mixed (by kernel_rfl) ?_
      simp only [wpSgB, List.map_cons, List.map_nil, List.getD_cons_succ, List.getD_cons_zero]
      go_wp2_with fail
      refine And.intro ?_ ?_
      · go_wp2_with fail
        refine (type_any v.e.k _).mono ?_
        rintro e w3 ⟨rfl, hb3⟩
        have hb3' := ((Below.refl _ w2).drew).trans hb3
        have hHeld : Held (fun k => k = w.heap.size) _ _ := Held.of_chg (w := w2.drew) HX2.out (Chg.of_below (F := []) hb3) (by simp)
        have HX3 := Lib.hid (HX2.out.below hb3')
        have HB3 := Lib.hid (below2 HB2.out hb3' HB2.out.size)
        clear d0 z0 hb3 hb3'
        go_wp2_with fail
        refine And.intro hHeld ?_
        clear hHeld
        refine And.intro ?_ ?_
        · go_wp2_with fail
          refine (rleafT_any m a c T v.pa v.pc v.pl (typeOf v.e.k) _ (HT.out.below HB3.out) (HV.out.below HB3.out).pt hk1 hk4).mono ?_
          intro e w4 hto
          obtain ⟨L, z, rfl, hz1, hz2, hrd, hb4⟩ := hto
          have hL := atP_of hz1 hz2
          clear hz1 hz2
          subst hL
          have HE4 := Lib.hid (show ApTE w (w4.alloc (.cells (lcells (atP T v.pl (typeOf v.e.k)).l (atP T v.pl (typeOf v.e.k)).ia (atP T v.pl (typeOf v.e.k)).ic (atP T v.pl (typeOf v.e.k)).ta (atP T v.pl (typeOf v.e.k)).tc) 48)) v w4.heap.size (atP T v.pl (typeOf v.e.k)) from by
            exact ⟨(HX3.out.below hb4).below ((Below.refl _ _).alloc (Nat.le_refl _) _), heap_new _ _, Nat.lt_of_lt_of_le (heap_lt HX3.out) hb4.size, (below2 HB3.out hb4 HB3.out.size).alloc (by have := HB3.out.size; have := hb4.size; omega) _⟩)
          clear hb4 hrd
          go_wp2_with fail
          refine And.intro (And.intro (by kernel_rfl) (reads_of ?rds)) ?_
          case rds => exact ⟨trivial, trivial, trivial, rfl, trivial, trivial, rfl, trivial, trivial, trivial, trivial, trivial, trivial, trivial, trivial, trivial⟩
          go_wp2_with fail
          go_meet
          exact ⟨_, rfl, HE4⟩
        · have hBz : Below w.heap.size w (w3.alloc (.cells zcells1 48)) := HB3.out.alloc HB3.out.size _
          go_wp2_with fail
          refine (rleafT_any m a c T v.pa v.pc v.pl (typeOf v.e.k) _ (HT.out.below hBz) (HV.out.below hBz).pt hk1 hk4).mono ?_
          intro e w4 hto
          obtain ⟨L, z, rfl, hz1, hz2, hrd, hb4⟩ := hto
          have hL := atP_of hz1 hz2
          clear hz1 hz2
          subst hL
          obtain ⟨y4, s4, B4⟩ := new1 hb4
          have HE4 := Lib.hid (ApTE.put ((HX3.out.below B4)) y4 (heap_lt HX3.out) (below2 HB3.out B4 HB3.out.size) (atP T v.pl (typeOf v.e.k)))
          have d4 := cells_at y4
          have g4 := free_at y4
          have z4 := heap_lt y4
          simp only [zcells1] at d4
          clear hb4 hrd y4 B4
          go_wp2_with fail
          refine And.intro (And.intro (by kernel_rfl) (reads_of ?rds)) ?_
          case rds => exact ⟨trivial, trivial, trivial, rfl, trivial, trivial, rfl, trivial, trivial, trivial, trivial, trivial, trivial, trivial, trivial, trivial⟩
          go_wp2_with fail
          go_meet
          exact ⟨_, rfl, HE4⟩
      · go_wp2_with fail
        refine (type_any v.e.k _).mono ?_
        rintro e w3 ⟨rfl, hb3⟩
        have hW : Below w2.heap.size w2 (w2.alloc (.cells zcells1 48)).drew := ((Below.refl _ _).alloc (Nat.le_refl _) _).drew
        have y2 : (w2.alloc (.cells zcells1 48)).drew.heap[w2.heap.size]? = some (.cells zcells1 48 (0, 0)) := heap_new _ _
        have hHeld : Held (fun k => k = w.heap.size) _ _ := Held.of_chg (HX2.out.below hW) (Chg.of_below (F := []) hb3) (by simp)
        have Y3 := Lib.hid ((hb3.block _ (heap_lt y2)).trans y2)
        have HX3 := Lib.hid ((HX2.out.below hW).below hb3)
        have HB3 := Lib.hid (below2 (below2 HB2.out hW HB2.out.size) hb3 (by have := HB2.out.size; simp; omega))
        have hBz := HB3.out
        clear d0 z0 hb3 hW y2
        go_wp2_with fail
        refine And.intro hHeld ?_
        clear hHeld
        go_wp2_with fail
        refine (rleafT_any m a c T v.pa v.pc v.pl (typeOf v.e.k) _ (HT.out.below hBz) (HV.out.below hBz).pt hk1 hk4).mono ?_
        intro e w4 hto
        obtain ⟨L, z, rfl, hz1, hz2, hrd, hb4⟩ := hto
        have hL := atP_of hz1 hz2
        clear hz1 hz2
        subst hL
        have HE4 := Lib.hid (ApTE.put (HX3.out.below hb4) ((hb4.block _ (heap_lt Y3.out)).trans Y3.out) (heap_lt HX2.out) (below2 HB3.out hb4 HB3.out.size) (atP T v.pl (typeOf v.e.k)))
        have y4 := (hb4.block _ (heap_lt Y3.out)).trans Y3.out
        have d4 := cells_at y4
        have g4 := free_at y4
        have z4 := heap_lt y4
        simp only [zcells1] at d4
        clear hb4 hrd y4
        go_wp2_with fail
        refine And.intro (And.intro (by kernel_rfl) (reads_of ?rds)) ?_
        case rds => exact ⟨trivial, trivial, trivial, rfl, trivial, trivial, rfl, trivial, trivial, trivial, trivial, trivial, trivial, trivial, trivial, trivial⟩
        go_wp2_with fail
        go_meet
        exact ⟨_, rfl, HE4⟩
    case rest =>
      obtain ⟨b6, rfl, E⟩ := hcut
      have HL := Lib.hid (atP_rd (p := v.pl) (k := typeOf v.e.k) HT.out hk1 hk4)
      have HLm := Lib.hid (atP_may (p := v.pl) (k := typeOf v.e.k) HM.out hk1 hk4)
      have HLb := Lib.hid (show (atP T v.pl (typeOf v.e.k)).l.items.length ≤ 900000 ∧ (atP T v.pl (typeOf v.e.k)).l.tombs.length ≤ 900000 from by
        unfold atP
        cases e : lookP T v.pl (typeOf v.e.k) with
        | none => exact ⟨Nat.zero_le _, Nat.zero_le _⟩
        | some u => exact HIt.out u e)
      obtain ⟨L, HLe⟩ : ∃ L, L = atP T v.pl (typeOf v.e.k) := ⟨_, rfl⟩
      replace HLe := Lib.hid HLe
      rw [← HLe.out] at E HL HLm HLb
      obtain ⟨wa, hwa⟩ : ∃ wa, wa = wc := ⟨_, rfl⟩
      subst hwa
      clear d0 z0
      have d0 := cells_at E.out.ev
      have d6 := cells_at E.out.lf
      have z0 := heap_lt E.out.ev
      have z6 := heap_lt E.out.lf
      simp only [ecells] at d0
      simp only [lcells] at d6
      go_wp2_with fail
      have hrd2 := HL.out.below E.out.bel
      refine (apply_any L v _ ⟨hrd2.1.its, hrd2.1.tms, by have := HLb.out.1; omega, by have := HLb.out.2; omega⟩ hrd2.1.ok (HV.out.below E.out.bel) HLb.out.1 HLb.out.2 hds).mono ?_
      intro e w3 hto
      obtain ⟨hto, hb3⟩ := hto
      rcases hto with ⟨code, _, _, hno⟩ | ⟨M, rfl, hMl, hme, hty, hM⟩
      · exact absurd ⟨HLm.out.1, HE.out, HLm.out.2.symm⟩ hno
      · have HX3 := Lib.hid (E.out.ev.below hb3)
        have HB3 := Lib.hid (below2 E.out.bel hb3 E.out.bel.size)
        have HMl := Lib.hid hMl
        have HMa := Lib.hid hM
        clear hb3 hMl hM d0 d6 z0 z6
        have d0 := cells_at HX3.out
        have z0 := heap_lt HX3.out
        simp only [ecells] at d0
        go_wp2_with fail
        have hW : Below w3.heap.size w3 (w3.alloc (.cells (lcells M.l M.ia M.ic M.ta M.tc) 48)) := (Below.refl _ _).alloc (Nat.le_refl _) _
        have hBW : Below w.heap.size w (w3.alloc (.cells (lcells M.l M.ia M.ic M.ta M.tc) 48)) := below2 HB3.out hW HB3.out.size
        have hokM : okL M.l := by rw [HMl.out]; exact ok_apply HL.out.1.ok HV.out.ok
        have hmyM : MayLf M.l := by rw [HMl.out]; exact may_apply HLm.out.1 hme hty
        have hnM : IntKind.wrap .i64 M.l.n = M.l.n := by rw [HMl.out]; exact wrap_apply HL.out.2
        have hkM : M.l.k = typeOf v.e.k := by rw [HMl.out, apply_k, HLm.out.2]
        have hrdM : LvRd (w3.alloc (.cells (lcells M.l M.ia M.ic M.ta M.tc) 48)) M := ⟨⟨(HMa.out.below hW).its, (HMa.out.below hW).tms, hokM⟩, hnM⟩
        have Hk := Lib.hid hkM
        refine (rlayT_any 3 m a c T v.pa v.pc v.pl M _ _ (HT.out.below hBW) HM.out HBd.out (HV.out.below hBW).pt HE.out.op.path.1 HE.out.op.path.2.1 HE.out.op.path.2.2 hrdM (Below.refl _ _) hmyM ⟨HMa.out.li, HMa.out.lt⟩ Hc.out).mono ?_
        intro e w4 hto
        obtain ⟨a', c', T', m', rfl, h1, h2, h3, h4, hb4⟩ := hto
        have HF := Lib.hid (show TrRd w4 m' a' c' T' from h4 w4 fun k _ _ => rfl)
        have HB4 := Lib.hid (below2 hBW hb4 hBW.size)
        have H1 := Lib.hid h1
        have H2 := Lib.hid (show cntT 3 T' ≤ cntT 3 T + 4 from by have := HE.out.op.path.2.1; omega)
        have H3 := Lib.hid h3
        clear hW hBW hokM hmyM hnM hkM hrdM h1 h2 h3 h4 hb4
        go_wp2_with fail
        exact bodyPost_ret (v := .tuple #[.slice a' T'.length c', .int .i64 0]) (by simp [results, Tryz.results27, go_sem]; try rfl) rfl ⟨.inr ⟨a', c', T', m', M, rfl, HE.out, H1.out, by rw [← HLe.out]; exact HMl.out, Hk.out, H2.out, H3.out, HF.out⟩, HB4.out⟩
end Go.Proofs.YtmabjghjkgicgaaGreat
