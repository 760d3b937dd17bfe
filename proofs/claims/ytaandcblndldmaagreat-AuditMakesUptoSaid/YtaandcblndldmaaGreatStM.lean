/- varveref12.Graph: VV, Heads; varvelaw12.again: the contracts. | varveref36.Lost: the contract (genaudq.py). | What is lost, by the program and by the document, is the same. No program in sight. | audit.Salvage and varveref36.Salvage, each in one word, and that they tell the same. | Rows of commits' own, paths and vectors of which may hold anything. -/
import Derived.Test.YtaandcblndldmaaGreatFilP
import Derived.Test.YtaandcblndldmaaGreatGraV
import Derived.Test.YtaandcblndldmaaGreatRgE
import Derived.Test.YtaandcblndldmaaGreatAudO
import Derived.Test.YtaandcblndldmaaGreatVec4
import Derived.Test.YtaandcblndldmaaGreatLwV
import Derived.Test.YtaandcblndldmaaGreatLwL
/- RgVv -/
namespace Go.Proofs.YtaandcblndldmaaGreat
open Go.RowKit
set_option linter.unusedVariables false
set_option linter.unusedSimpArgs false

/-- the join of a vector and the first commits' vectors -/
def jnS (F : List Dt) (C : List Cm) : List Dt := C.foldl (fun v c => joinV v c.vv) (canonV F)
theorem jnS_snoc (F : List Dt) (C : List Cm) (c : Cm) : jnS F (C ++ [c]) = joinV (jnS F C) c.vv := by unfold jnS; rw [List.foldl_append]; rfl
theorem jn_ok (C : List Cm) : ∀ v : List Dt, okV v → v.length ≤ 64 → (∀ c ∈ C, okV c.vv) → okV (C.foldl (fun v c => joinV v c.vv) v) ∧ (C.foldl (fun v c => joinV v c.vv) v).length ≤ 64 := by
  induction C with
  | nil => intro v h1 h2 _; exact ⟨h1, h2⟩
  | cons c C ih =>
    intro v h1 h2 h3
    exact ih (joinV v c.vv) (okV_joinV h1 (h3 c (by simp))) (vecOf_length _) fun d hd => h3 d (List.mem_cons_of_mem _ hd)
theorem okV_canon {v : List Dt} (h : okV v) : okV (canonV v) := by
  have h1 := okV_joinV h h
  have e : joinV v v = canonV v := by
    unfold joinV canonV
    congr 1
    funext x
    exact Int.max_self _
  rwa [e] at h1
theorem jnS_ok {F : List Dt} (hF : okV F) {C : List Cm} (hC : ∀ c ∈ C, okV c.vv) : okV (jnS F C) ∧ (jnS F C).length ≤ 64 := jn_ok C _ (okV_canon hF) (vecOf_length _) hC
set_option maxRecDepth 100000 in
set_option maxHeartbeats 8000000 in
theorem vv_R (pw : Nat) (w0 : World) (m : Nat) (b : Bw) (S : List Cw) (la : Option Addr) (lc : Nat) (w : World) (h : RgAt w pw w0 m b S la lc) :
    Calls Tryz.prog 52 #[.pointer (some ⟨pw, 0, none⟩)] w (VVTo w (jnS b.b.f (cms S))) := by
  have H := Lib.hid h
  have hfl := h.flen
  have hfew := h.few
  have Hokf := Lib.hid h.base.okf
  have g0 := cells_at h.blk
  simp only [rgcells] at g0
  have gz := heap_lt h.blk
  have Hoks : Hid (∀ q, ∀ c ∈ (cms S).take q, okV c.vv) := Lib.hid (fun q c hc => by
    obtain ⟨v, hv, rfl⟩ := List.mem_map.1 (List.mem_of_mem_take hc)
    exact (h.each v hv).ok.vv)
  clear h
  go_enter Tryz.func52, Tryz.ntmps52
  go_wp2_with fail
  refine (rcanon_any b.fa b.fc b.b.f _ H.out.f Hokf.out (by omega)).mono ?_
  rintro e w1 ⟨ja, jc, rfl, ho, hb⟩
  have Ho := Lib.hid (show OwnD w1 w.heap.size ja jc (jnS b.b.f ((cms S).take 0)) from ho)
  have HB := Lib.hid hb
  have he0 : (canonV b.b.f).length = (jnS b.b.f ((cms S).take 0)).length := rfl
  rw [he0]
  clear ho hb g0 gz he0
  go_wp2_with fail
  go_loopw [3, 4] (fun o j wr => ∃ (q : Nat) (ia : Option Addr) (ic : Nat), q ≤ S.length ∧ j = .int .i64 q ∧ o = .slice ia (jnS b.b.f ((cms S).take q)).length ic ∧ Hid (OwnD wr w.heap.size ia ic (jnS b.b.f ((cms S).take q))) ∧ Hid (Below w.heap.size w wr)) (fun _ j _ => S.length - (intOf j).toNat)
  case atStart => exact ⟨0, ja, jc, Nat.zero_le _, rfl, rfl, Ho, HB⟩
  case round =>
    obtain ⟨q, ia, ic, hq, rfl, rfl, HO, B⟩ := hrel
    clear Ho HB
    have RB := Lib.hid (H.out.below B.out)
    have g0 := cells_at RB.out.blk
    simp only [rgcells] at g0
    have gz := heap_lt RB.out.blk
    by_cases hlt : q < S.length
    · obtain ⟨u, hu⟩ : ∃ u, S[q]? = some u := ⟨S[q], by simp [hlt]⟩
      obtain ⟨ad, had, ⟨c0, c1, c2, c3, c4, c5, c6, c7, c8, c9, c10⟩, hlb⟩ := RB.out.rows.at_ hu
      subst had
      have Hat := Lib.hid (RB.out.rows.each u (List.mem_of_getElem? hu))
      have hul := (H.out.may u (List.mem_of_getElem? hu)).vlen
      have HN : Hid (jnS b.b.f ((cms S).take (q + 1)) = joinV (jnS b.b.f ((cms S).take q)) u.c.vv) := Lib.hid (by rw [take_snoc' (cms_at hu), jnS_snoc])
      clear hu c3 c5 c6 c7 c8 c9 c10
      obtain ⟨⟨⟨⟨r1, i1⟩, s1⟩, ps1, uu1, t1, ⟨k1, n1, x1', p1, ds1⟩⟩, qa1, qc1, ua1, uc1, pa1, pc1, da1, dc1⟩ := u
      dsimp only at c0 c1 c2 c4 hul
      have hjl := (jnS_ok Hokf.out (Hoks.out q)).2
      have Hjo := Lib.hid (jnS_ok Hokf.out (Hoks.out q)).1
      generalize jnS b.b.f ((cms S).take q) = J at HO HN hjl Hjo ⊢
      dsimp only at HN
      go_wp2_with fail
      refine (rjoin_any ia ua1 ic uc1 J uu1 _ HO.out.vec Hat.out.vv Hjo.out Hat.out.ok.vv (by omega) (by omega)).mono ?_
      rintro e w2 ⟨ja2, jc2, rfl, ho, hb⟩
      have HO2 : Hid (OwnD w2 w.heap.size ja2 jc2 (jnS b.b.f ((cms S).take (q + 1)))) := Lib.hid (by rw [HN.out]; exact OwnD.base ho B.out.size)
      have B2 := Lib.hid (below2 B.out hb B.out.size)
      have Hl2 := Lib.hid (show (joinV J uu1).length = (jnS b.b.f ((cms S).take (q + 1))).length by rw [HN.out])
      clear ho hb c0 c1 c2 c4 g0 gz hlb
      rw [Hl2.out]
      go_wp2_with fail
      go_roundw
      case rel => exact ⟨q + 1, ja2, jc2, by omega, by go_num, rfl, HO2, B2⟩
      case measure => simp [intOf]; omega
    · have hqq : (cms S).take q = cms S := List.take_of_length_le (by unfold cms; rw [List.length_map]; omega)
      rw [hqq] at HO ⊢
      clear hqq
      go_wp2_with fail
      go_ret
      exact ⟨ia, ic, rfl, HO.out, B.out⟩
theorem jn_up (x : Ac) (C : List Cm) : ∀ v : List Dt, okV v → (∀ c ∈ C, okV c.vv) → getN v x ≤ getN (C.foldl (fun v c => joinV v c.vv) v) x ∧ ∀ c ∈ C, getN c.vv x ≤ getN (C.foldl (fun v c => joinV v c.vv) v) x := by
  induction C with
  | nil => intro v _ _; exact ⟨Int.le_refl _, fun c hc => (by cases hc)⟩
  | cons d C ih =>
    intro v hv hC
    have hd := hC d (by simp)
    obtain ⟨h1, h2⟩ := ih (joinV v d.vv) (okV_joinV hv hd) fun c hc => hC c (List.mem_cons_of_mem _ hc)
    rw [getN_joinV hv hd] at h1
    refine ⟨Int.le_trans (Int.le_max_left _ _) h1, fun c hc => ?_⟩
    rcases List.mem_cons.1 hc with rfl | hc
    · exact Int.le_trans (Int.le_max_right _ _) h1
    · exact h2 c hc
theorem jn_low (x : Ac) (N : Int) (C : List Cm) : ∀ v : List Dt, okV v → (∀ c ∈ C, okV c.vv) → getN v x ≤ N → (∀ c ∈ C, getN c.vv x ≤ N) → getN (C.foldl (fun v c => joinV v c.vv) v) x ≤ N := by
  induction C with
  | nil => intro v _ _ h _; exact h
  | cons d C ih =>
    intro v hv hC h1 h2
    have hd := hC d (by simp)
    exact ih (joinV v d.vv) (okV_joinV hv hd) (fun c hc => hC c (List.mem_cons_of_mem _ hc)) (by rw [getN_joinV hv hd]; have := h2 d (by simp); omega) fun c hc => h2 c (List.mem_cons_of_mem _ hc)
theorem jn_canon (C : List Cm) : ∀ v : List Dt, okV v → canonV v = v → (∀ c ∈ C, okV c.vv) → canonV (C.foldl (fun v c => joinV v c.vv) v) = C.foldl (fun v c => joinV v c.vv) v := by
  induction C with
  | nil => intro v _ h _; exact h
  | cons d C ih =>
    intro v hv h hC
    have hd := hC d (by simp)
    refine ih (joinV v d.vv) (okV_joinV hv hd) ?_ fun c hc => hC c (List.mem_cons_of_mem _ hc)
    unfold canonV joinV
    congr 1
    funext x
    have h1 := getN_joinV hv hd x
    unfold joinV at h1
    exact h1
/-- the join of all is the graph's vector -/
theorem jnS_eq {F : List Dt} {C : List Cm} {vv : List Dt} (h : HistP F C vv) (hF : canonV F = F) (hC : ∀ c ∈ C, okV c.vv) : jnS F C = vv := by
  unfold jnS
  rw [hF]
  have hc := jn_canon C F h.okF hF hC
  rw [← hc, ← h.canon]
  unfold canonV
  congr 1
  funext x
  obtain ⟨h1, h2⟩ := jn_up x C F h.okF hC
  refine Int.le_antisymm (jn_low x _ C F h.okF hC (h.base x) fun c hc => h.up c hc x) ?_
  by_cases h0 : 1 ≤ getN vv x
  · rcases hasG_cases (h.low x (getN vv x) h0 (Int.le_refl _)) with ⟨c, hc, e, _⟩ | h3
    · have h4 := (h.may c hc).own
      have h5 := h2 c hc
      rw [e] at h4
      have h6 : getN c.vv x = getN vv x := h4
      omega
    · have h4 := (hasV_iff.1 h3).2
      have h5 : getN vv x ≤ getN F x := h4
      omega
  · have h6 := (getN_bd F x).1
    omega
end Go.Proofs.YtaandcblndldmaaGreat

/- AudQ -/
namespace Go.Proofs.YtaandcblndldmaaGreat
open Go.RowKit
set_option linter.unusedVariables false
set_option linter.unusedSimpArgs false

def lostR (vv l : List Dt) : List Dt := l.filter fun d => !hasV vv d
def RLostTo (w : World) (v : Sw) (e : Ending) (w' : World) : Prop :=
  ∃ (a : Option Addr) (c : Nat) (V : List Dt), e = .returned (.slice a (List.length V) c) ∧ OwnD w' w.heap.size a c V ∧ Below w.heap.size w w' ∧ ((¬ (whoB v = true ∧ BaseP v.b.b) ∧ V = []) ∨ (whoB v = true ∧ BaseP v.b.b ∧ ∃ S : List Cm, S.Perm (auF v.b.b.f (cms v.l)).L ∧ V = lostR (jnS v.b.b.f S) (allV (cms v.l))))
set_option maxRecDepth 100000 in
set_option maxHeartbeats 16000000 in
theorem lost36_any (v : Sw) (m : Nat) (w : World) (h : SwAt w m v) (hN : SwN v) (hfew : v.l.length ≤ 20) : Calls Tryz.prog 17 #[.agg (swcells v)] w (RLostTo w v) := by
  obtain ⟨k0, ip, ia, ic, incs, ⟨⟨num, F, tips, tt, tr⟩, fa, fc, ta, tc, ra, rc⟩, la, lc, l⟩ := v
  have H := Lib.hid h
  have HN := Lib.hid hN
  have m0 := h.cms.sl.2.1
  have m1 := h.cms.sl.2.2.1
  unfold maxLen at m1
  have B0 : Hid (BoxE 35 w (w.alloc (.cells (sncells k0 ip ia incs.length ic num fa F.length fc ta tips.length tc tt ra tr.length rc la l.length lc) 35)) (sncells k0 ip ia incs.length ic num fa F.length fc ta tips.length tc tt ra tr.length rc la l.length lc)) := Lib.hid ⟨heap_new _ _, (Below.refl _ _).alloc (Nat.le_refl _) _⟩
  have Hokc : Hid (∀ q, ∀ c ∈ (cms l).take q, okV c.vv) := Lib.hid (fun q c hc => by
    obtain ⟨u, hu, rfl⟩ := List.mem_map.1 (List.mem_of_mem_take hc)
    exact (h.cms.each u hu).ok.vv)
  dsimp only at m0 m1 hfew
  clear h hN
  simp only [swcells]
  go_enter Tryz.func17, Tryz.ntmps17
  go_upto_region 1 with (fail)
  generalize (w.alloc (.cells (sncells k0 ip ia incs.length ic num fa F.length fc ta tips.length tc tt ra tr.length rc la l.length lc) 35)) = wa at B0 ⊢
  have d0 := cells_at B0.out.blk
  have z0 := heap_lt B0.out.blk
  simp only [sncells] at d0
  go_wp2_with fail
  refine (salvage36_any ⟨k0, ip, ia, ic, incs, ⟨⟨num, F, tips, tt, tr⟩, fa, fc, ta, tc, ra, rc⟩, la, lc, l⟩ m _ (H.out.below B0.out.bel) HN.out hfew).mono ?_
  intro e w1 hto
  rcases hto with ⟨code, rfl, hwhy, hb⟩ | ⟨hw, hp, la1, lc1, S1, ga1, gc1, R1, rfl, _, _, _, _, _, _, _, hb⟩
  · have B1 := Lib.hid (B0.out.step hb)
    have Hw := Lib.hid (show ¬ (whoB ⟨k0, ip, ia, ic, incs, ⟨⟨num, F, tips, tt, tr⟩, fa, fc, ta, tc, ra, rc⟩, la, lc, l⟩ = true ∧ BaseP (⟨num, F, tips, tt, tr⟩ : Bs)) from fun h => by
      rcases hwhy with ⟨h1, _⟩ | ⟨_, h2, _⟩
      · rw [h.1] at h1; cases h1
      · exact h2 h.2)
    have Bx : Hid (Below w.heap.size w (w1.alloc (.cells zero9 35))) := Lib.hid (B1.out.bel.alloc B1.out.bel.size _)
    have hc0 : code = 2 ∨ code = 4 := by rcases hwhy with ⟨_, h⟩ | ⟨_, _, h⟩ <;> simp [h]
    clear hb hwhy d0 z0
    rcases hc0 with rfl | rfl
    · go_wp2_with fail
      go_ret
      exact ⟨none, 0, [], rfl, OwnD.nil _ _, Bx.out, .inl ⟨Hw.out, rfl⟩⟩
    · go_wp2_with fail
      go_ret
      exact ⟨none, 0, [], rfl, OwnD.nil _ _, Bx.out, .inl ⟨Hw.out, rfl⟩⟩
  have HW := Lib.hid hw
  have HP := Lib.hid hp
  have B1 := Lib.hid (B0.out.step (hb.alloc hb.size (.cells (sncells k0 ip ia incs.length ic num fa F.length fc ta tips.length tc tt ra tr.length rc la1 S1.length lc1) 35)))
  clear hb hw hp d0 z0
  go_upto_region 2 with (fail)
  generalize (w1.alloc (.cells (sncells k0 ip ia incs.length ic num fa F.length fc ta tips.length tc tt ra tr.length rc la1 S1.length lc1) 35)) = w2 at B1 ⊢
  have d0 := cells_at B1.out.blk
  have z0 := heap_lt B1.out.blk
  simp only [sncells] at d0
  go_wp2_with fail
  refine (walk36_any ⟨k0, ip, ia, ic, incs, ⟨⟨num, F, tips, tt, tr⟩, fa, fc, ta, tc, ra, rc⟩, la, lc, l⟩ m _ (H.out.below B1.out.bel) HN.out HP.out hfew).mono ?_
  rintro e w4 ⟨pg, S, la2, lc2, fa2, fc2, Fl, ga2, gc2, R, z, rfl, hPk, hE⟩
  have HG := Lib.hid hE.gr
  have HPm := Lib.hid hPk.perm
  have B4 := Lib.hid (B1.out.step hE.bel)
  have hJ := jnS_ok (F := F) HG.out.base.okf (C := cms S) (fun c hc => by
    obtain ⟨u, hu, rfl⟩ := List.mem_map.1 hc
    exact (HG.out.each u hu).ok.vv)
  have hJl := hJ.2
  clear hPk hE d0 z0 hJ
  have d0 := cells_at B4.out.blk
  have z0 := heap_lt B4.out.blk
  simp only [sncells] at d0
  go_wp2_with fail
  clear d0 z0
  go_loopw [11, 9] (fun j rv wr => ∃ (q : Nat) (aa : Option Addr) (ac : Nat), q ≤ l.length ∧ j = .int .i64 q ∧ rv = .slice aa (allV ((cms l).take q)).length ac ∧ Hid (Vec wr aa ac (allV ((cms l).take q))) ∧ Hid (Below w4.heap.size w4 wr)) (fun j _ _ => l.length - (intOf j).toNat)
  case atStart => exact ⟨0, none, 0, Nat.zero_le _, rfl, rfl, Lib.hid (Sl.nil _ _), Lib.hid (Below.refl _ _)⟩
  case round =>
    obtain ⟨q, aa, ac, hq, rfl, rfl, HA, BR⟩ := hrel
    have BS := Lib.hid (B4.out.step BR.out)
    have hA1 := (allV_ok ((cms l).take q) (Hokc.out q)).2.1
    have HA2 := Lib.hid (allV_ok ((cms l).take q) (Hokc.out q)).1
    have d0 := cells_at BS.out.blk
    have z0 := heap_lt BS.out.blk
    simp only [sncells] at d0
    by_cases hlt : q < l.length
    · obtain ⟨u, hu⟩ : ∃ u, l[q]? = some u := ⟨l[q], by simp [hlt]⟩
      obtain ⟨ae, hae, ⟨c0, c1, c2, c3, c4, c5, c6, c7, c8, c9, c10⟩, hlb⟩ := (H.out.cms.below BS.out.bel).at_ hu
      dsimp only at hae
      subst hae
      have Hat := Lib.hid (H.out.cms.each u (List.mem_of_getElem? hu))
      have Hn := Lib.hid (HN.out.each u (List.mem_of_getElem? hu))
      have Hcu := Lib.hid (cms_i hu)
      have Hu := Lib.hid hu
      clear hu
      obtain ⟨⟨⟨⟨r, i⟩, s⟩, ps, uu, t1, ⟨kk, n, x1, p, ds⟩⟩, qa, qc, ua, uc, pa, pc, da, dc⟩ := u
      dsimp only at c0 c1 c2 c3 c4 c5 c6 c7 c8 c9 c10
      have hn2 := Hn.out.2.1
      dsimp only at hn2
      go_wp2_with fail
      refine (rmayC_any ⟨⟨((r, i), s), ps, uu, t1, ⟨kk, n, x1, p, ds⟩⟩, qa, qc, ua, uc, pa, pc, da, dc⟩ _ (Hat.out.below BS.out.bel) (by dsimp only; omega)).mono ?_
      rintro e w5 ⟨z, rfl, hz, hb⟩
      have Hz := Lib.hid hz
      have BR5 := Lib.hid (below2 BR.out hb BR.out.size)
      have HA5 := Lib.hid (HA.out.below hb)
      have BS5 := Lib.hid (BS.out.step hb)
      clear hb hz c0 c1 c2 c3 c4 c5 c6 c7 c8 c9 c10 hlb d0 z0
      have d0 := cells_at BS5.out.blk
      have z0 := heap_lt BS5.out.blk
      simp only [sncells] at d0
      cases z
      case false =>
        have hnx := Lib.hid (show allV ((cms l).take (q + 1)) = allV ((cms l).take q) by
          rw [take_snoc' Hcu.out]; exact allV_no (fun hc => by have := Hz.out.2 hc; cases this))
        go_wp2_with fail
        go_roundw
        case rel => exact ⟨q + 1, aa, ac, by omega, by go_num, by rw [hnx.out], by rw [hnx.out]; exact HA5, BR5⟩
        case measure => simp [intOf]; omega
      case true =>
        have hC := Lib.hid (Hz.out.1 rfl)
        have hul : uu.length ≤ 64 := by have h1 := hC.out.canon; dsimp only at h1; rw [← h1]; exact vecOf_length _
        have hnx := Lib.hid (show allV ((cms l).take (q + 1)) = joinV (allV ((cms l).take q)) uu by
          rw [take_snoc' Hcu.out]; exact allV_yes hC.out)
        obtain ⟨af, haf, ⟨c0, c1, c2, c3, c4, c5, c6, c7, c8, c9, c10⟩, hlb⟩ := (H.out.cms.below BS5.out.bel).at_ Hu.out
        cases haf
        dsimp only at c0 c1 c2 c3 c4 c5 c6 c7 c8 c9 c10
        clear c0 c1 c2 c3 c5 c6 c7 c8 c9 c10
        go_wp2_with fail
        refine (rjoin_any aa ua ac uc (allV ((cms l).take q)) uu _ HA5.out (Hat.out.vv.below BS5.out.bel) HA2.out Hat.out.ok.vv (by omega) (by omega)).mono ?_
        rintro e w6 ⟨ja, jc, rfl, ho, hb⟩
        have BR6 := Lib.hid (below2 BR5.out hb BR5.out.size)
        have HJ := Lib.hid (vec_of ho)
        clear ho hb d0 z0 c4 hlb
        go_wp2_with fail
        go_roundw
        case rel => exact ⟨q + 1, ja, jc, by omega, by go_num, by rw [hnx.out], by rw [hnx.out]; exact HJ, BR6⟩
        case measure => simp [intOf]; omega
    · have hall := Lib.hid (show (cms l).take q = cms l from List.take_of_length_le (by unfold cms; simp; omega))
      have HAf := Lib.hid (show Vec wr aa ac (allV (cms l)) by rw [← hall.out]; exact HA.out)
      have hal := hA1
      rw [hall.out] at hal ⊢
      have Hokv2 := Lib.hid (show okV (allV (cms l)) from (allV_ok (cms l) (fun c hc => Hokc.out q c (by rw [hall.out]; exact hc))).1)
      clear hA1 HA HA2
      generalize hA9 : allV (cms l) = A at HAf hal Hokv2 ⊢
      have HA9 := Lib.hid hA9
      clear hA9
      have HG2 := Lib.hid (HG.out.below BR.out)
      obtain ⟨wm, hwm⟩ : ∃ wm, wm = wr := ⟨_, rfl⟩
      rw [← hwm] at HAf HG2 BS BR
      go_wp2_with fail
      rw [← hwm]
      clear hwm d0 z0
      go_loopw [12, 10] (fun j rv wx => ∃ (y : Nat) (V : List Dt) (oa : Option Addr) (oc : Nat), y ≤ A.length ∧ j = .int .i64 y ∧ rv = .slice oa V.length oc ∧ V.length ≤ y ∧ Hid (V = lostR (jnS F (cms S)) (A.take y)) ∧ Hid (OwnD wx wm.heap.size oa oc V) ∧ Hid (Below wm.heap.size wm wx)) (fun j _ _ => A.length - (intOf j).toNat)
      case atStart => exact ⟨0, [], none, 0, Nat.zero_le _, rfl, rfl, Nat.le_refl _, Lib.hid rfl, Lib.hid (OwnD.nil _ _), Lib.hid (Below.refl _ _)⟩
      case round =>
        obtain ⟨y, V, oa, oc, hy, rfl, rfl, hVy, HVl, HVo, BX⟩ := hrel
        by_cases hlt2 : y < A.length
        rotate_left
        · have BF := Lib.hid (below2 BS.out.bel BX.out BS.out.bel.size)
          have HF := Lib.hid (show V = lostR (jnS F (cms S)) (allV (cms l)) by rw [HA9.out]; have h1 := HVl.out; rwa [List.take_of_length_le (by omega)] at h1)
          have HOf := Lib.hid (OwnD.base HVo.out BS.out.bel.size)
          go_wp2_with fail
          go_ret
          exact ⟨oa, oc, V, rfl, HOf.out, BF.out, .inr ⟨HW.out, HP.out, cms S, HPm.out, HF.out⟩⟩
        obtain ⟨⟨⟨r, i⟩, s⟩, hx⟩ : ∃ x, A[y]? = some x := ⟨A[y], by simp [hlt2]⟩
        obtain ⟨ad, had, c0, c1, c2, hl0⟩ := (HAf.out.below BX.out).at hx
        dsimp only at c0 c1 c2
        subst had
        have Hx := Lib.hid hx
        clear hx
        have BXd := Lib.hid (BX.out.trans (Below.refl _ _).drew)
        go_wp2_with fail
        refine region_text [([0, 2, 3, 4, 5], false), ([1], true), ([6, 7], false)] mixed (by kernel_rfl) ?_
        simp only [wpSegs, List.map_cons, List.map_nil, List.getD_cons_succ, List.getD_cons_zero]
        go_wp2_with fail
        refine (vv_R pg _ m ⟨⟨num, F, tips, tt, tr⟩, fa, fc, ta, tc, ra, rc⟩ S la2 lc2 _ (HG2.out.below BXd.out)).mono ?_
        rintro e w6 ⟨na, nc, rfl, ho, hb⟩
        have hAg := Agree.of_below hb
        have BX6 := Lib.hid (below2 BXd.out hb BXd.out.size)
        have HVo6 := Lib.hid ((HVo.out.below (Below.refl _ _).drew).below hb)
        have HV := Lib.hid ho.vec
        clear ho hb c0 c1 c2 hl0
        go_wp2_with fail
        refine And.intro hAg ?_
        clear hAg
        go_wp2_with fail
        refine (rhas_any na nc (jnS F (cms S)) r i s _ HV.out (by omega)).mono ?_
        rintro e w7 ⟨rfl, hb⟩
        have BX7 := Lib.hid (below2 BX6.out hb BX6.out.size)
        have HVo7 := Lib.hid (HVo6.out.below hb)
        clear hb
        obtain ⟨hh, hhe⟩ : ∃ hh, hh = hasV (jnS F (cms S)) ((r, i), s) := ⟨_, rfl⟩
        rw [← hhe]
        have Hhh := Lib.hid hhe
        clear hhe
        cases hh
        case false =>
          have hnx := Lib.hid (show lostR (jnS F (cms S)) (A.take (y + 1)) = V ++ [((r, i), s)] by
            rw [take_snoc' Hx.out, HVl.out]; unfold lostR; rw [List.filter_append]; congr 1; simp [← Hhh.out])
          obtain ⟨ad2, had2, c0, c1, c2, hl0⟩ := (HAf.out.below BX7.out).at Hx.out
          cases had2
          dsimp only at c0 c1 c2
          go_wp2_with fail
          refine And.intro (by kernel_rfl) ?_
          go_wp2_with (at_builtin; go_must (refine wpList_appV rfl _ _ rfl wm.heap.size oa oc V rfl ?o1 (some ⟨w7.heap.size, 0, none⟩) 1 [((r, i), s)] rfl (vec_one (heap_new _ _)) ?n1 ?b1 ?_))
          case o1 => exact HVo7.out.below ((Below.refl _ _).alloc (Nat.le_refl _) _)
          case n1 => simp; omega
          case b1 => have := BX7.out.size; simp; omega
          intro v9 aq cq w9 hv9 ho9 hb9 hc9
          have HF9 := Lib.hid (show v9 = lostR (jnS F (cms S)) (A.take (y + 1)) by rw [hnx.out, hv9])
          have HO9 := Lib.hid ho9
          have BX9 := Lib.hid ((BX7.out.alloc BX7.out.size _).trans hb9)
          have hlv : v9.length ≤ y + 1 := by rw [hv9]; simp; omega
          clear hv9 ho9 hb9 hc9 c0 c1 c2 hl0
          go_wp2_with fail
          go_roundw
          case rel => exact ⟨y + 1, v9, aq, cq, by omega, by go_num, rfl, hlv, HF9, HO9, BX9⟩
          case measure => simp [intOf]; omega
        case true =>
          have hnx := Lib.hid (show V = lostR (jnS F (cms S)) (A.take (y + 1)) by
            rw [take_snoc' Hx.out, HVl.out]; unfold lostR; rw [List.filter_append]; simp [← Hhh.out])
          go_wp2_with fail
          refine And.intro (by kernel_rfl) ?_
          go_wp2_with fail
          go_roundw
          case rel => exact ⟨y + 1, V, oa, oc, by omega, by go_num, rfl, by omega, hnx, HVo7, BX7⟩
          case measure => simp [intOf]; omega
end Go.Proofs.YtaandcblndldmaaGreat

/- AudR -/
namespace Go.Proofs.YtaandcblndldmaaGreat
open Go.RowKit
set_option linter.unusedVariables false
set_option linter.unusedSimpArgs false

theorem allV_pos (cs : List Cm) : ∀ d ∈ allV cs, 0 < d.2 := by
  induction cs using snoc_rec with
  | h0 => intro d hd; cases hd
  | h1 cs c ih =>
    intro d hd
    by_cases hc : CmP c
    · rw [allV_yes hc] at hd
      unfold joinV vecOf at hd
      obtain ⟨a, ha, rfl⟩ := List.mem_map.1 hd
      simpa using (List.mem_filter.1 ha).2
    · rw [allV_no hc] at hd
      exact ih d hd
theorem allV_may {cs : List Cm} (h : ∀ c ∈ cs, okV c.vv) : ∀ d ∈ allV cs, may d = true := by
  intro d hd
  have h1 := allV_pos cs d hd
  have h2 := (allV_ok cs h).2.2 d hd
  obtain ⟨e, _, e2, e3, e4⟩ := getN_mem (v := allV cs) (a := d.1) (by omega)
  have : e = d := Prod.ext e3 (by omega)
  rwa [← this]
theorem lost_same {F vv : List Dt} {S L cs : List Cm} (hh : HistP F L vv) (hp : S.Perm L) (hF : canonV F = F) (hS : ∀ c ∈ S, okV c.vv) (hcs : ∀ c ∈ cs, okV c.vv) : lostR (jnS F S) (allV cs) = lostF vv (allV cs) := by
  rw [jnS_eq (hh.perm hp.symm) hF hS]
  unfold lostR lostF
  refine List.filter_congr fun d hd => ?_
  have h1 := allV_may hcs d hd
  unfold hasV
  rw [h1, Bool.true_and]
  by_cases hlt : getN vv d.1 < d.2
  · rw [decide_eq_false (show ¬ d.2 ≤ getN vv d.1 by omega), decide_eq_true hlt]; rfl
  · rw [decide_eq_true (show d.2 ≤ getN vv d.1 by omega), decide_eq_false hlt]; rfl
end Go.Proofs.YtaandcblndldmaaGreat

/- AudS -/
namespace Go.Proofs.YtaandcblndldmaaGreat
open Go.RowKit
set_option linter.unusedVariables false
set_option linter.unusedSimpArgs false

def zeroB : Bw := ⟨⟨0, [], [], 0, []⟩, none, 0, none, 0, none, 0⟩
def zeroS : Sw := ⟨0, 0, none, 0, [], zeroB, none, 0, []⟩
theorem zeroS_at (w : World) (m : Nat) : SwAt w m zeroS :=
  ⟨Sl.nil _ _, ⟨Sl.nil _ _, Sl.nil _ _, TrRd.nil _ _, fun d hd => (by cases hd), fun d hd => (by cases hd), ⟨by decide, by decide⟩, ⟨by decide, by decide⟩⟩, ⟨Sl.nil _ _, fun u hu => (by cases hu)⟩, Nat.zero_le _, ⟨by decide, by decide⟩⟩
theorem zeroS_bw : SameBw zeroB.b zeroB.b := ⟨rfl, rfl, rfl, rfl, ⟨rfl, fun i x y h => by simp [zeroB] at h⟩⟩
theorem zeroS_bd : BdA 1100000 3 zeroS.b.b.tr := by
  unfold BdA
  first | (constructor <;> simp [zeroS, zeroB]) | simp [zeroS, zeroB]
theorem zeroS_tr (w : World) (base : Nat) : OwnT w base 3 none 0 [] := by
  unfold OwnT
  first | exact ⟨World.ownsRow_nil _ _ _ _, fun x hx => (by cases hx)⟩ | simp
theorem zeroS_n : SwN zeroS := ⟨by decide, by decide, by decide, zeroS_bd, by decide, fun u hu => (by cases hu)⟩
/-- why nothing is saved, or 0 -/
def SvW (v : Sw) (code : Int) : Prop := (whoB v = false ∧ code = 2) ∨ (whoB v = true ∧ ¬ BaseP v.b.b ∧ code = 4) ∨ (whoB v = true ∧ BaseP v.b.b ∧ code = 0)
theorem SvW.eq {v : Sw} {c d : Int} (h : SvW v c) (h' : SvW v d) : c = d := by
  rcases h with ⟨h1, h2⟩ | ⟨h1, h2, h3⟩ | ⟨h1, h2, h3⟩ <;> rcases h' with ⟨k1, k2⟩ | ⟨k1, k2, k3⟩ | ⟨k1, k2, k3⟩ <;> first | omega | exact absurd k2 h2 | exact absurd h2 k2 | (rw [h1] at k1; cases k1)
/-- what the program tells -/
def SvA (v : Sw) (code : Int) (x : Sw) (R : List Cw) : Prop := SvW v code ∧ ((code ≠ 0 ∧ x = zeroS ∧ R = []) ∨ (code = 0 ∧ SalvP v x R ∧ SavP v x R))
/-- what the document tells -/
def SvB (v : Sw) (code : Int) (y : Sw) (R : List Cw) : Prop := SvW v code ∧ ((code ≠ 0 ∧ y = zeroS ∧ R = []) ∨ (code = 0 ∧ (∃ la lc S, y = ⟨v.k, v.ip, v.ia, v.ic, v.incs, v.b, la, lc, S⟩) ∧ (cms y.l).Perm (auF v.b.b.f (cms v.l)).L ∧ SortedC (cms y.l) ∧ cms R = (auF v.b.b.f (cms v.l)).gone.filterMap fun k => (cms v.l)[k]?))
theorem SvA.same {v x y : Sw} {c d : Int} {R Q : List Cw} (h : SvA v c x R) (h' : SvB v d y Q) : c = d ∧ SameSw x y ∧ cms R = cms Q := by
  have e := h.1.eq h'.1
  subst e
  rcases h.2 with ⟨n0, rfl, rfl⟩ | ⟨c0, hS, _⟩
  · rcases h'.2 with ⟨_, rfl, rfl⟩ | ⟨c1, _⟩
    · exact ⟨rfl, ⟨rfl, rfl, rfl, zeroS_bw, rfl⟩, rfl⟩
    · exact absurd c1 n0
  · rcases h'.2 with ⟨n1, _⟩ | ⟨_, ⟨la, lc, S, rfl⟩, hp, hs, hg⟩
    · exact absurd c0 n1
    · exact ⟨rfl, ⟨hS.k, hS.ip, hS.incs, hS.base.symm, sorted_uniq hS.perm hS.sorted hp hs⟩, hS.gone.trans hg.symm⟩
def SalvA (w : World) (v : Sw) (e : Ending) (w' : World) : Prop :=
  ∃ (x : Sw) (ga : Option Addr) (gc : Nat) (R : List Cw) (code : Int), e = .returned (.tuple #[.agg (swcells x), .slice ga (List.length R) gc, .int .i64 code]) ∧ SvA v code x R ∧ SwOwn w' w.heap.size x ∧ SwAt w' 3 x ∧ SwN x ∧ x.l.length ≤ 20 ∧ OwnC w' w.heap.size ga gc R ∧ (∀ u ∈ R, CwOwn w' w.heap.size u) ∧ R.length ≤ 20 ∧ Below w.heap.size w w'
def SalvB (m : Nat) (w : World) (v : Sw) (e : Ending) (w' : World) : Prop :=
  ∃ (y : Sw) (ga : Option Addr) (gc : Nat) (R : List Cw) (code : Int), e = .returned (.tuple #[.agg (swcells y), .slice ga (List.length R) gc, .int .i64 code]) ∧ SvB v code y R ∧ SwAt w' m y ∧ Cms w' ga gc R ∧ Below w.heap.size w w'
theorem zeroS_own (w : World) (base : Nat) : SwOwn w base zeroS :=
  ⟨World.ownsRow_nil _ _ _ _, ⟨OwnD.nil _ _, OwnD.nil _ _, zeroS_tr w base⟩, OwnC.nil _ _, fun u hu => (by cases hu)⟩
theorem salvA_any (v : Sw) (m : Nat) (w : World) (h : SwAt w m v) (hN : SwN v) (hfew : v.l.length ≤ 20) : Calls Tryz.prog 8 #[.agg (swcells v)] w (SalvA w v) := by
  refine (salvage_any v m w h hN hfew).mono ?_
  rintro e w' (⟨code, rfl, hc, hb⟩ | ⟨hw, hP, x, ga, gc, R, rfl, hS, ho, hr, he, hb⟩)
  · refine ⟨zeroS, none, 0, [], code, rfl, ⟨?_, .inl ⟨?_, rfl, rfl⟩⟩, zeroS_own _ _, zeroS_at _ _, zeroS_n, by decide, OwnC.nil _ _, fun u hu => (by cases hu), by decide, hb⟩
    · rcases hc with h | h
      · exact .inl h
      · exact .inr (.inl h)
    · rcases hc with ⟨_, h⟩ | ⟨_, _, h⟩ <;> omega
  · have hs := hS.sav h hN hw hP hfew
    exact ⟨x, ga, gc, R, 0, rfl, ⟨.inr (.inr ⟨hw, hP, rfl⟩), .inr ⟨rfl, hS, hs⟩⟩, ho, ho.at_ hS h, hs.n, hs.few, hr, he, by have := hs.len; omega, hb⟩
theorem salvB_any (v : Sw) (m : Nat) (w : World) (h : SwAt w m v) (hN : SwN v) (hfew : v.l.length ≤ 20) : Calls Tryz.prog 9 #[.agg (swcells v)] w (SalvB m w v) := by
  refine (salvage36_any v m w h hN hfew).mono ?_
  rintro e w' (⟨code, rfl, hc, hb⟩ | ⟨hw, hP, la, lc, S, ga, gc, R, rfl, hp, hs, hg, hS, hR, _, _, hb⟩)
  · refine ⟨zeroS, none, 0, [], code, rfl, ⟨?_, .inl ⟨?_, rfl, rfl⟩⟩, zeroS_at _ _, ⟨Sl.nil _ _, fun u hu => (by cases hu)⟩, hb⟩
    · rcases hc with h | h
      · exact .inl h
      · exact .inr (.inl h)
    · rcases hc with ⟨_, h⟩ | ⟨_, _, h⟩ <;> omega
  · have h2 := h.below hb
    exact ⟨_, ga, gc, R, 0, rfl, ⟨.inr (.inr ⟨hw, hP, rfl⟩), .inr ⟨rfl, ⟨la, lc, S, rfl⟩, hp, hs, hg⟩⟩, ⟨h2.inc, h2.b, hS, h2.k, h2.ip⟩, hR, hb⟩
theorem flaws_same {v : Sw} {q q' : Bool} {L M : List Fw} (h : q = true ↔ BaseP v.b.b) (h' : q' = true ↔ BaseP v.b.b) (hL : L = headL (whoB v) q ++ (if q = true then flw (auF v.b.b.f (cms v.l)).fl else [])) (hM : M = headL (whoB v) q' ++ (if q' = true then flw (auF v.b.b.f (cms v.l)).fl else [])) : L = M := by
  have e : q = q' := by rw [Bool.eq_iff_iff, h, h']
  rw [hL, hM, e]
theorem losts_same {v : Sw} {w : World} {m : Nat} (hv : SwAt w m v) {V U : List Dt} (h : (¬ (whoB v = true ∧ BaseP v.b.b) ∧ V = []) ∨ (whoB v = true ∧ BaseP v.b.b ∧ ∃ vv, HistP v.b.b.f (auF v.b.b.f (cms v.l)).L vv ∧ V = lostF vv (allV (cms v.l))))
    (h' : (¬ (whoB v = true ∧ BaseP v.b.b) ∧ U = []) ∨ (whoB v = true ∧ BaseP v.b.b ∧ ∃ S : List Cm, S.Perm (auF v.b.b.f (cms v.l)).L ∧ U = lostR (jnS v.b.b.f S) (allV (cms v.l)))) : V = U := by
  have hok : ∀ c ∈ cms v.l, okV c.vv := fun c hc => by
    obtain ⟨u, hu, rfl⟩ := List.mem_map.1 hc
    exact (hv.cms.each u hu).ok.vv
  rcases h with ⟨h1, h2⟩ | ⟨h1, h2, vv, h3, h4⟩
  · rcases h' with ⟨_, k2⟩ | ⟨k1, k2, _⟩
    · rw [h2, k2]
    · exact absurd ⟨k1, k2⟩ h1
  · rcases h' with ⟨k1, _⟩ | ⟨_, _, S, k3, k4⟩
    · exact absurd ⟨h1, h2⟩ k1
    · rw [h4, k4]
      exact (lost_same h3 k3 h2.canon (fun c hc => hok c ((auF_P v.b.b.f (cms v.l)).sub.subset (k3.mem_iff.1 hc))) hok).symm
theorem lostF_len {vv : List Dt} {cs : List Cm} (h : ∀ c ∈ cs, okV c.vv) : (lostF vv (allV cs)).length ≤ 64 := by
  have h1 := (allV_ok cs h).2.1
  unfold lostF
  have h2 := List.length_filter_le (fun d : Dt => decide (getN vv d.1 < d.2)) (allV cs)
  omega
end Go.Proofs.YtaandcblndldmaaGreat

/- StM -/
namespace Go.Proofs.YtaandcblndldmaaGreat
open Go.RowKit
set_option linter.unusedVariables false
set_option linter.unusedSimpArgs false

/-- a row of one's own, whatever it holds -/
def RowW (w : World) (base : Nat) (e : TypeId) (size : Nat) (a : Option Addr) (n c : Nat) : Prop := ∃ xs, w.ownsRow base e size (.slice a n c) n xs
theorem RowW.chg {w w' : World} {base : Nat} {e : TypeId} {size : Nat} {a : Option Addr} {n c : Nat} {F : List Nat} (h : RowW w base e size a n c) (hc : Chg F w w') (hF : ∀ k ∈ ob a, k ∉ F) : RowW w' base e size a n c := by
  obtain ⟨xs, h⟩ := h
  exact ⟨xs, owns_chg h hc hF⟩
theorem RowW.put {w : World} {base : Nat} {e : TypeId} {size : Nat} {a : Option Addr} {n c : Nat} (h : RowW w base e size a n c) (g off : Nat) (x : Value) : RowW (w.setCell ⟨g, off, none⟩ x) base e size a n c := by
  have hC : Chg [g] w (w.setCell ⟨g, off, none⟩ x) := (Chg.refl _ _).put _ _ (by simp)
  by_cases e0 : a = some ⟨g, 0, none⟩
  · subst e0
    obtain ⟨xs, h⟩ := h
    exact ⟨_, (h.stored off x).1⟩
  · refine h.chg hC (fun k hk hm => ?_)
    rw [List.mem_singleton] at hm
    subst hm
    obtain ⟨xs, h⟩ := h
    rcases h.2 with ⟨h2, _⟩ | ⟨g2, cap, cur, h2, _⟩
    · simp at h2
      rw [h2.1] at hk
      cases hk
    · injection h2 with h2 _ _
      subst h2
      have h1 : k = g2 := by simpa [ob] using hk
      exact e0 (by rw [h1])
structure StM (w0 wx : World) (base : Nat) (ra : Option Addr) (rc : Nat) (V : List Cw) : Prop where
  row : OwnC wx base ra rc V
  vv : ∀ u ∈ V, RowW wx base 49 3 u.va u.c.vv.length u.vc
  pt : ∀ u ∈ V, RowW wx base 9 1 u.pa u.c.o.p.length u.pc
  bel : Below base w0 wx
  low : base ≤ w0.heap.size
theorem StM.below {w0 wx w' : World} {base : Nat} {ra : Option Addr} {rc : Nat} {V : List Cw} (h : StM w0 wx base ra rc V) (hb : Below wx.heap.size wx w') : StM w0 w' base ra rc V :=
  ⟨h.row.below hb, fun u hu => (h.vv u hu).chg (F := []) (Chg.of_below hb) (by simp), fun u hu => (h.pt u hu).chg (F := []) (Chg.of_below hb) (by simp), h.bel.trans (hb.mono (Nat.le_trans h.low h.bel.size)), h.low⟩
theorem StM.put {w0 wx : World} {base : Nat} {ra : Option Addr} {rc : Nat} {V : List Cw} (h : StM w0 wx base ra rc V) {g off : Nat} {x : Value} {C : Array Value} {t : TypeId} {f : Nat × Nat} (hg : wx.heap[g]? = some (.cells C t f)) (ht : t ≠ 54) (hl : base ≤ g) : StM w0 (wx.setCell ⟨g, off, none⟩ x) base ra rc V := by
  have hC : Chg [g] wx (wx.setCell ⟨g, off, none⟩ x) := (Chg.refl _ _).put _ _ (by simp)
  refine ⟨h.row.chg hC (fun k hk hm => ?_), fun u hu => (h.vv u hu).put g off x, fun u hu => (h.pt u hu).put g off x, h.bel.trans (hC.below (Nat.le_trans h.low h.bel.size) (by simpa using hl)), h.low⟩
  rw [List.mem_singleton] at hm
  subst hm
  obtain ⟨C1, f1, q1⟩ := ob_row h.row k hk
  rw [q1] at hg
  injection hg with hg
  injection hg with _ hg _
  exact ht hg.symm
theorem RowW.at_ {w : World} {base : Nat} {e : TypeId} {size : Nat} {a : Option Addr} {n c j : Nat} (h : RowW w base e size a n c) (hj : j < n * size) (h0 : 0 < n) :
    ∃ g C f, ∃ x : Value, a = some ⟨g, 0, none⟩ ∧ w.heap[g]? = some (.cells C e f) ∧ base ≤ g ∧ g < w.heap.size ∧ w.frozen? ⟨g, j, none⟩ = false ∧ w.cell? ⟨g, j, none⟩ = some x := by
  obtain ⟨xs, h⟩ := h
  have hlen := h.1
  obtain ⟨g, rfl⟩ : ∃ g, a = some ⟨g, 0, none⟩ := by
    rcases h.2 with ⟨h2, _⟩ | ⟨g2, cap, cur, h2, _⟩
    · simp at h2; omega
    · injection h2 with h2 _ _
      exact ⟨g2, h2⟩
  obtain ⟨C, f, hg⟩ := ob_row h g (by simp [ob])
  have hl := owns_lt h g (by simp [ob])
  have hx : j < xs.length := by omega
  exact ⟨g, C, f, xs[j], rfl, hg, hl.1, hl.2, World.ownsRow.frozenAt h j, by rw [World.ownsRow.cellAt (g := g) h j hj]; simp [hx]⟩
end Go.Proofs.YtaandcblndldmaaGreat
