/- graph.Insert: contract. -/
import Derived.Test.YthdmoplclllhjaaGreatGraH
namespace Go.Proofs.YthdmoplclllhjaaGreat
open Go.RowKit
set_option linter.unusedVariables false
set_option linter.unusedSimpArgs false

/-- what Insert leaves behind -/
def InsTo (w : World) (pg mb : Nat) (w0 : World) (m : Nat) (b : Bw) (L : List Cw) (vv : List Dt) (c : Cm) (e : Ending) (w' : World) : Prop :=
  e = .returned (.int .i64 (insE b.b.f (findC (cms L)) L.length c)) ∧ ((insE b.b.f (findC (cms L)) L.length c ≠ 0 ∧ Below w.heap.size w w') ∨
    (insE b.b.f (findC (cms L)) L.length c = 0 ∧ ∃ (u : Cw) (va' : Option Addr) (vc' : Nat), u.c = c ∧ GrAt w' pg mb w0 m b (L ++ [u]) va' vc' (joinV vv c.vv) ∧ Chg [pg, mb] w w'))
theorem InsTo.no {w : World} {pg mb : Nat} {w0 : World} {m : Nat} {b : Bw} {L : List Cw} {vv : List Dt} {c : Cm} {w' : World} {k : Int} (h : insE b.b.f (findC (cms L)) L.length c = k) (hk : k ≠ 0) (hb : Below w.heap.size w w') : InsTo w pg mb w0 m b L vv c (.returned (.int .i64 k)) w' :=
  ⟨by rw [h], .inl ⟨by rw [h]; exact hk, hb⟩⟩
/-- two new blocks: the graph's pointer, the commit -/
structure InE (w wr : World) (pg : Nat) (C : Array Value) : Prop where
  b0 : wr.heap[w.heap.size]? = some (.cells #[.pointer (some ⟨pg, 0, none⟩)] 33 (0, 0))
  b1 : wr.heap[w.heap.size + 1]? = some (.cells C 46 (0, 0))
  bel : Below w.heap.size w wr
theorem InE.step {w wr w' : World} {pg : Nat} {C : Array Value} (h : InE w wr pg C) (hb : Below wr.heap.size wr w') : InE w w' pg C := ⟨(hb.block _ (heap_lt h.b0)).trans h.b0, (hb.block _ (heap_lt h.b1)).trans h.b1, below2 h.bel hb h.bel.size⟩
theorem fvW_snoc {L : List Cw} {u : Cw} (hf : fdW L u.c.d = none) (d : Dt) : (if d = u.c.d then some (cwv u) else fvW L d) = fvW (L ++ [u]) d := by
  unfold fvW
  unfold fdW at hf ⊢
  rw [List.find?_append]
  by_cases e : d = u.c.d
  · subst e
    rw [if_pos rfl, hf]
    simp
  · rw [if_neg e]
    cases L.find? (fun x => decide (x.c.d = d)) with
    | some x => rfl
    | none => simp; exact fun h => e h.symm
theorem noRow_map {w : World} {mb : Nat} {n : Nat} {f : Dt → Option Value} (h : MapN w mb n f) : NoRow w [mb] := fun k hk C t fr hh => by
  rw [List.mem_singleton] at hk
  subst hk
  obtain ⟨es, clock, h2⟩ := h.block
  rw [h2] at hh
  cases hh
theorem noRow_graph {w : World} {pg : Nat} {C : Array Value} {fr : Nat × Nat} (h : w.heap[pg]? = some (.cells C 79 fr)) : NoRow w [pg] := fun k hk C' t fr' hh => by
  rw [List.mem_singleton] at hk
  subst hk
  rw [h] at hh
  injection hh with hh
  injection hh with _ h2 _
  subst h2
  exact ⟨by decide, by decide⟩
theorem GrAt.insert {w w9 w10 w11 : World} {pg mb : Nat} {w0 : World} {m : Nat} {b : Bw} {L : List Cw} {va va' : Option Addr} {vc vc' : Nat} {vv : List Dt} {u : Cw} {base : Nat} (hb0 : Below w.heap.size w w9) (h : GrAt w9 pg mb w0 m b L va vc vv) (hf : fdW L u.c.d = none) (hu : CwOwn w9 base u) (hM : CmP u.c) (hL : L.length < 200)
    (hm : MapN w10 mb (L.length + 1) (fun d => if d = u.c.d then some (cwv u) else fvW L d)) (hc : Chg [mb] w9 w10) (hb : Below w10.heap.size w10 w11) (ho : OwnD w11 w10.heap.size va' vc' (joinV vv u.c.vv)) (hlt : pg < w.heap.size ∧ mb < w.heap.size) (hO : hasV b.b.f u.c.d = false) :
    GrAt (w11.setCell ⟨pg, 6, none⟩ (.slice va' (joinV vv u.c.vv).length vc')) pg mb w0 m b (L ++ [u]) va' vc' (joinV vv u.c.vv) ∧ Chg [pg, mb] w (w11.setCell ⟨pg, 6, none⟩ (.slice va' (joinV vv u.c.vv).length vc')) := by
  have hne := h.ne
  have p10 := heap_chg h.blk hc (by simpa using hne)
  have p11 := (hb.block _ (heap_lt p10)).trans p10
  have hC := Chg.setCell w11 ⟨pg, 6, none⟩ (.slice va' (joinV vv u.c.vv).length vc')
  have n9 := noRow_map h.map
  have n11 := noRow_graph p11
  have m11 := hm.below hb
  have ow : ∀ v, CwOwn w9 0 v → CwOwn (w11.setCell ⟨pg, 6, none⟩ (.slice va' (joinV vv u.c.vv).length vc')) 0 v := fun v hv => ((hv.chg hc n9).below hb).chg hC n11
  have hcd : findC (cms L) u.c.d = none := by rw [← fdW_c, hf]; rfl
  refine ⟨⟨heap_setC p11 6 _, ?_, h.old, ?_, h.base, fun v hv => ?_, OwnD.base (OwnD.chg ho hC n11) (Nat.zero_le _), okV_joinV h.okv hu.ok.vv, ?_, fun v hv => ?_, ?_, h.fmax, h.tmax, Nat.le_trans (vecOf_length _) (by decide), h.bp, fun v hv => ?_⟩, ?_⟩
  · rw [List.length_append]
    exact (m11.chg hC (by simpa using fun e => hne e.symm)).congr fun d _ => fvW_snoc hf d
  · exact ((h.bel.trans (hc.below h.bel.size (by simpa using h.old.2))).trans (hb.mono (by have := hc.size; have := h.bel.size; omega))).trans (hC.below (by have := hb.size; have := hc.size; have := h.bel.size; omega) (by simpa using h.old.1))
  · rcases List.mem_append.1 hv with hv | hv
    · exact ow v (h.each v hv)
    · rw [List.mem_singleton] at hv; subst hv; exact ow _ (hu.base (Nat.zero_le _))
  · unfold cms
    rw [List.map_append, List.map_append, List.nodup_append]
    refine ⟨h.nodup, by simp, fun a ha c hc => ?_⟩
    simp at hc
    subst hc
    intro e
    obtain ⟨y, hy, rfl⟩ := List.mem_map.1 ha
    exact (findC_none.1 hcd) y hy e
  · rcases List.mem_append.1 hv with hv | hv
    · exact h.may v hv
    · rw [List.mem_singleton] at hv; subst hv; exact hM
  · rw [List.length_append]; simp; omega
  · rcases List.mem_append.1 hv with hv | hv
    · exact h.out v hv
    · rw [List.mem_singleton] at hv; subst hv; exact hO
  · refine (((Chg.of_below (F := [pg, mb]) hb0).trans hc (fun x hx _ => by simp at hx; simp [hx])).trans (Chg.of_below (F := []) hb) (fun x hx => by cases hx)).trans hC (fun x hx _ => by simp at hx; simp [hx])
theorem Sl.chgM {w w' : World} {mb size : Nat} {a : Option Addr} {n c : Nat} {xs : List Value} (h : Sl w size a n c xs) (hc : Chg [mb] w w') (hm : ∃ es clock, w.heap[mb]? = some (.map es clock)) : Sl w' size a n c xs := by
  obtain ⟨h1, h2, h3, h4⟩ := h
  refine ⟨h1, h2, h3, ?_⟩
  rcases h4 with h4 | ⟨b, rfl, hx⟩
  · exact .inl h4
  · refine .inr ⟨b, rfl, fun j u hu => ?_⟩
    have h5 := hx j u hu
    have hlt := World.block_lt_of_cell? w _ h5
    obtain ⟨es, clock, hm⟩ := hm
    have hne : (b.add j).block ≠ mb := fun e => by
      unfold World.cell? at h5
      rw [e, hm] at h5
      simp at h5
    unfold World.cell? at h5 ⊢
    rw [hc.block _ hlt (by simpa using hne)]
    exact h5
structure In5 (w wr : World) (pg : Nat) (C AD : Array Value) (ab : Nat) (ka : Option Addr) (kc : Nat) (K : List Dt) : Prop where
  e : InE w wr pg C
  a : wr.heap[ab]? = some (.cells AD 41 (0, 0))
  k : Vec wr ka kc K
theorem In5.step {w wr w' : World} {pg : Nat} {C AD : Array Value} {ab : Nat} {ka : Option Addr} {kc : Nat} {K : List Dt} (h : In5 w wr pg C AD ab ka kc K) (hb : Below wr.heap.size wr w') : In5 w w' pg C AD ab ka kc K := ⟨h.e.step hb, (hb.block _ (heap_lt h.a)).trans h.a, h.k.below hb⟩
set_option maxRecDepth 100000 in
set_option maxHeartbeats 16000000 in
theorem insert_G (pg mb : Nat) (w0 : World) (m : Nat) (b : Bw) (L : List Cw) (va : Option Addr) (vc : Nat) (vv : List Dt) (v : Cw) (w : World) (h : GrAt w pg mb w0 m b L va vc vv) (hv : CwAt w v) (hn : v.c.vv.length ≤ 1000000) :
    Calls Tryz.prog 17 #[.pointer (some ⟨pg, 0, none⟩), .agg (cwcells v)] w (InsTo w pg mb w0 m b L vv v.c) := by
  obtain ⟨⟨⟨⟨r, i⟩, s⟩, ps, uu, t, ⟨k, n, x, p, ds⟩⟩, qa, qc, ua, uc, pa, pc, da, dc⟩ := v
  have H := Lib.hid h
  have HV := Lib.hid hv
  have hokd : okD ((r, i), s) := hv.ok.d
  dsimp only at hn
  have hE0 : InE w ((w.alloc (.cells #[.pointer (some ⟨pg, 0, none⟩)] 33)).alloc (.cells (ccells r i s qa ps.length qc ua uu.length uc t k pa p.length pc n x da ds.length dc) 46)) pg (ccells r i s qa ps.length qc ua uu.length uc t k pa p.length pc n x da ds.length dc) :=
    ⟨(heap_old _ _ (by simp)).trans (heap_new _ _), heap_new2 _ _ _, ((Below.refl _ _).alloc (Nat.le_refl _) _).alloc (by simp) _⟩
  have E := Lib.hid hE0
  have hem := enters_of Tryz.func75 (by kernel_rfl) rfl
  clear h hv hE0
  simp only [cwcells]
  go_enter Tryz.func17, Tryz.ntmps17
  go_wp2_with fail
  refine (none_some pg mb _ (H.out.below E.out.bel).c5).mono ?_
  rintro e w1 ⟨rfl, rfl⟩
  go_wp2_with fail
  refine (mayC_any ⟨⟨((r, i), s), ps, uu, t, ⟨k, n, x, p, ds⟩⟩, qa, qc, ua, uc, pa, pc, da, dc⟩ _ (HV.out.below E.out.bel) hn).mono ?_
  intro e w2 hto
  obtain ⟨z, rfl, hz, hb⟩ := hto
  replace E := Lib.hid (E.out.step hb)
  have Hz := Lib.hid hz
  have d0 := cells_at E.out.b0
  have d1 := cells_at E.out.b1
  simp only [ccells] at d1
  clear hb hz
  cases z with
  | false =>
    have Hn := Lib.hid (show ¬ CmP ⟨((r, i), s), ps, uu, t, ⟨k, n, x, p, ds⟩⟩ from fun h => by have := Hz.out.2 h; cases this)
    go_wp2_with fail
    go_ret
    exact InsTo.no (insE_may Hn.out) (by decide) E.out.bel
  | true =>
    have HM := Lib.hid (Hz.out.1 rfl)
    clear Hz
    go_wp2_with fail
    refine (has_G pg mb w0 m b L va vc vv r i s _ (H.out.below E.out.bel) hokd).mono ?_
    rintro e w3 ⟨rfl, hb⟩
    replace E := Lib.hid (E.out.step hb)
    clear hb d0 d1
    have d0 := cells_at E.out.b0
    have d1 := cells_at E.out.b1
    simp only [ccells] at d1
    cases hh : hasG b.b.f (findC (cms L)) ((r, i), s) with
    | true =>
      have Hh := Lib.hid hh
      go_wp2_with fail
      go_ret
      exact InsTo.no (insE_twice HM.out Hh.out) (by decide) E.out.bel
    | false =>
      have Hh := Lib.hid hh
      have hs1 : 1 ≤ s := ((may_iff _).1 HM.out.dot).2.1
      have hs2 : s ≤ 1048576 := ((may_iff _).1 HM.out.dot).2.2
      have hf1 : ps.length ≤ 64 := HM.out.few
      have hf2 : uu.length ≤ 64 := canon_few HM.out.canon
      have z0 := heap_lt E.out.b0
      have z1 := heap_lt E.out.b1
      clear hh hn
      go_wp2_with fail
      have hA1 : Below w3.heap.size w3 (w3.alloc (.cells #[.int .u8 r, .int .u32 i, .int .u64 (s - 1)] 41)) := (Below.refl _ _).alloc (Nat.le_refl _) _
      have HA1 := Lib.hid hA1
      refine (knows_G pg mb w0 m b L va vc vv ⟨⟨((r, i), s), ps, uu, t, ⟨k, n, x, p, ds⟩⟩, qa, qc, ua, uc, pa, pc, da, dc⟩ _ (H.out.below (below2 E.out.bel hA1 E.out.bel.size)) (HV.out.below (below2 E.out.bel hA1 E.out.bel.size)) (by dsimp only; omega) (by dsimp only; omega)).mono ?_
      intro e w5 hto
      obtain ⟨K, hN, okK, hlK, a5, c5, rfl, hown, hb⟩ := hto
      have E5 : Hid (In5 w w5 pg (ccells r i s qa ps.length qc ua uu.length uc t k pa p.length pc n x da ds.length dc) #[.int .u8 r, .int .u32 i, .int .u64 (s - 1)] w3.heap.size a5 c5 K) := Lib.hid ⟨(E.out.step hA1).step hb, (hb.block _ (by simp)).trans (heap_new _ _), vec_of hown⟩
      have HN := Lib.hid hN
      have HokK := Lib.hid okK
      clear hb hown hN okK hA1 HA1 E d0 d1 z0 z1
      have d0 := cells_at E5.out.e.b0
      have d1 := cells_at E5.out.e.b1
      simp only [ccells] at d1
      have d2 := cells_at E5.out.a
      go_wp2_with fail
      refine (containsD_fn 75 #[.pointer (some ⟨w.heap.size, 0, none⟩)] (fun d => !hasG b.b.f (findC (cms L)) d) qa qc ps _ (HV.out.ps.below E5.out.e.bel) (by omega) hem (fun r2 i2 s2 h2 W2 hW2 => missing_any pg mb w0 m b L va vc vv w.heap.size r2 i2 s2 W2 ((H.out.below E5.out.e.bel).below hW2) (by rw [(bcell hW2).1 _ _ (heap_lt E5.out.e.b0), cells_at E5.out.e.b0]; rfl) (HV.out.ok.ps _ h2))).mono ?_
      intro e w6 hto
      obtain ⟨z6, rfl, hz6, hb6⟩ := hto
      replace E5 := Lib.hid (E5.out.step hb6)
      have Hz6 := Lib.hid hz6
      clear hb6 hz6 d0 d1 d2
      have d0 := cells_at E5.out.e.b0
      have d1 := cells_at E5.out.e.b1
      simp only [ccells] at d1
      have d2 := cells_at E5.out.a
      cases z6 with
      | true =>
        have Hn := Lib.hid (show ¬ GapP b.b.f (findC (cms L)) ⟨((r, i), s), ps, uu, t, ⟨k, n, x, p, ds⟩⟩ from fun h => by
          obtain ⟨d, hd, h2⟩ := Hz6.out.1 rfl
          rw [h.ps d hd] at h2
          cases h2)
        go_wp2_with fail
        go_ret
        exact InsTo.no (insE_gap HM.out Hh.out Hn.out) (by decide) E5.out.e.bel
      | false =>
        have HG1 := Lib.hid (show ∀ d ∈ ps, hasG b.b.f (findC (cms L)) d = true from fun d hd => by
          cases h2 : hasG b.b.f (findC (cms L)) d with
          | true => rfl
          | false => have := Hz6.out.2 ⟨d, hd, by rw [h2]; rfl⟩; cases this)
        clear Hz6
        by_cases hs : 1 < s
        case' pos =>
          have Hs := Lib.hid hs
          go_wp2_with fail
          refine (missing_any pg mb w0 m b L va vc vv w.heap.size r i (s - 1) _ (H.out.below E5.out.e.bel) (by rw [cells_at E5.out.e.b0]; rfl) ⟨hokd.1, by omega, by omega⟩).mono ?_
          rintro e w7 ⟨rfl, hb7⟩
          replace E5 := Lib.hid (E5.out.step hb7)
          clear hb7 d0 d1 d2
          have d0 := cells_at E5.out.e.b0
          have d1 := cells_at E5.out.e.b1
          simp only [ccells] at d1
          have d2 := cells_at E5.out.a

          rcases Bool.eq_false_or_eq_true (hasG b.b.f (findC (cms L)) ((r, i), s - 1)) with hg2 | hg2
          rotate_left
          · have Hn := Lib.hid (show ¬ GapP b.b.f (findC (cms L)) ⟨((r, i), s), ps, uu, t, ⟨k, n, x, p, ds⟩⟩ from fun h => by have := h.own Hs.out; unfold aheadD at this; dsimp only at this; rw [hg2] at this; cases this)
            rw [hg2]
            go_wp2_with fail
            go_ret
            exact InsTo.no (insE_gap HM.out Hh.out Hn.out) (by decide) E5.out.e.bel
          have HG2 := Lib.hid (show 1 < s → hasG b.b.f (findC (cms L)) ((r, i), s - 1) = true from fun _ => hg2)
          rw [hg2]
          clear hg2
        case' neg =>
          have HG2 := Lib.hid (show 1 < s → hasG b.b.f (findC (cms L)) ((r, i), s - 1) = true from fun h => absurd h hs)
        all_goals
          go_wp2_with fail
          refine (within_any ua a5 uc c5 uu K _ (HV.out.vv.below E5.out.e.bel) E5.out.k HV.out.ok.vv HokK.out (by omega) (by omega)).mono ?_
          rintro e w8 ⟨rfl, hb8⟩
          replace E5 := Lib.hid (E5.out.step hb8)
          clear hb8 d0 d1 d2
          have d0 := cells_at E5.out.e.b0
          have d1 := cells_at E5.out.e.b1
          simp only [ccells] at d1
          have d2 := cells_at E5.out.a
          cases hw1 : withinV uu K with
          | false =>
            have Hn := Lib.hid (show ¬ GapP b.b.f (findC (cms L)) ⟨((r, i), s), ps, uu, t, ⟨k, n, x, p, ds⟩⟩ from fun h => by
              have : withinV uu K = true := (withinV_iff HV.out.ok.vv).2 (fun y => by rw [HN.out y]; exact h.knows y)
              rw [hw1] at this; cases this)
            go_wp2_with fail
            go_ret
            exact InsTo.no (insE_gap HM.out Hh.out Hn.out) (by decide) E5.out.e.bel
          | true =>
            have HG := Lib.hid (show GapP b.b.f (findC (cms L)) ⟨((r, i), s), ps, uu, t, ⟨k, n, x, p, ds⟩⟩ from ⟨HG1.out, HG2.out, fun y => by have h1 := (withinV_iff HV.out.ok.vv).1 hw1 y; have h2 := HN.out y; (try dsimp only at h1 h2 ⊢); omega⟩)
            clear hw1
            go_wp2_with fail
            refine (within_any a5 ua c5 uc K uu _ E5.out.k (HV.out.vv.below E5.out.e.bel) HokK.out HV.out.ok.vv (by omega) (by omega)).mono ?_
            rintro e w9 ⟨rfl, hb9⟩
            replace E5 := Lib.hid (E5.out.step hb9)
            clear hb9 d0 d1 d2
            have d0 := cells_at E5.out.e.b0
            have d1 := cells_at E5.out.e.b1
            simp only [ccells] at d1
            have d2 := cells_at E5.out.a
            cases hw2 : withinV K uu with
            | false =>
              have Hn := Lib.hid (show ¬ ((∀ y, knN b.b.f (findC (cms L)) ⟨((r, i), s), ps, uu, t, ⟨k, n, x, p, ds⟩⟩ ps y ≤ getN uu y) ∧ FollowsP b.b.f (findC (cms L)) ⟨((r, i), s), ps, uu, t, ⟨k, n, x, p, ds⟩⟩) from fun h => by
                have : withinV K uu = true := (withinV_iff HokK.out).2 (fun y => by rw [HN.out y]; exact h.1 y)
                rw [hw2] at this; cases this)
              go_wp2_with fail
              go_ret
              exact InsTo.no (insE_form HM.out Hh.out HG.out Hn.out) (by decide) E5.out.e.bel
            | true =>
              have HW2 := Lib.hid (show ∀ y, knN b.b.f (findC (cms L)) ⟨((r, i), s), ps, uu, t, ⟨k, n, x, p, ds⟩⟩ ps y ≤ getN uu y from fun y => by have h1 := (withinV_iff HokK.out).1 hw2 y; have h2 := HN.out y; (try dsimp only at h1 h2 ⊢); omega)
              clear hw2
              go_wp2_with fail
              refine (follows_G pg mb w0 m b L va vc vv r i s ps uu t k n x p ds qa qc ua uc pa pc da dc _ (H.out.below E5.out.e.bel) (HV.out.below E5.out.e.bel) (by omega)).mono ?_
              intro e w10 hto
              obtain ⟨z10, rfl, hz10, hb10⟩ := hto
              replace E5 := Lib.hid (E5.out.step hb10)
              have Hz10 := Lib.hid hz10
              clear hb10 hz10 d0 d1 d2
              have d0 := cells_at E5.out.e.b0
              have d1 := cells_at E5.out.e.b1
              simp only [ccells] at d1
              have d2 := cells_at E5.out.a
              cases z10 with
              | false =>
                have Hn := Lib.hid (show ¬ ((∀ y, knN b.b.f (findC (cms L)) ⟨((r, i), s), ps, uu, t, ⟨k, n, x, p, ds⟩⟩ ps y ≤ getN uu y) ∧ FollowsP b.b.f (findC (cms L)) ⟨((r, i), s), ps, uu, t, ⟨k, n, x, p, ds⟩⟩) from fun h => by have := Hz10.out.2 h.2; cases this)
                go_wp2_with fail
                go_ret
                exact InsTo.no (insE_form HM.out Hh.out HG.out Hn.out) (by decide) E5.out.e.bel
              | true =>
                have HB := Lib.hid (show (∀ y, knN b.b.f (findC (cms L)) ⟨((r, i), s), ps, uu, t, ⟨k, n, x, p, ds⟩⟩ ps y ≤ getN uu y) ∧ FollowsP b.b.f (findC (cms L)) ⟨((r, i), s), ps, uu, t, ⟨k, n, x, p, ds⟩⟩ from ⟨HW2.out, Hz10.out.1 rfl⟩)
                have HG10 := H.out.below E5.out.e.bel
                have g0 := cells_at HG10.blk
                simp only [gcells] at g0
                have hpg := heap_lt HG10.blk
                have hlen := fun ty => HG10.map.len Tryz.underlying77 ty
                have HL := Lib.hid HG10
                clear Hz10 HG10
                by_cases hL : 200 ≤ L.length
                · have Hl := Lib.hid hL
                  have e200 : decide ((200 : Int) ≤ (L.length : Int)) = true := by simp; omega
                  go_wp2_with fail
                  go_ret
                  exact InsTo.no (insE_full HM.out Hh.out HG.out HB.out Hl.out) (by decide) E5.out.e.bel
                · have Hl := Lib.hid (show L.length < 200 by omega)
                  have e200 : decide ((200 : Int) ≤ (L.length : Int)) = false := by simp; omega
                  go_wp2_with fail
                  refine region_text [([0, 1, 2, 3, 4, 5, 6], false), ([7], true), ([8], false)] mixed (by kernel_rfl) ?_
                  simp only [wpSegs, List.map_cons, List.map_nil, List.getD_cons_succ, List.getD_cons_zero]
                  go_wp2_with fail
                  refine (ownC_any ⟨⟨((r, i), s), ps, uu, t, ⟨k, n, x, p, ds⟩⟩, qa, qc, ua, uc, pa, pc, da, dc⟩ _ (HV.out.below E5.out.e.bel.drew) (by dsimp only; omega) (by dsimp only; omega) (by dsimp only; have := HM.out.op.path.2.1; dsimp only at this; omega) (by dsimp only; have := HM.out.op.few; dsimp only at this; omega)).mono ?_
                  intro e w11 hto
                  obtain ⟨⟨cc, a1, c1, a2, c2, a3, c3, a4, c4⟩, rfl, hcc, how, hb11⟩ := hto
                  dsimp only at hcc
                  subst hcc
                  have Hb11 := Lib.hid hb11
                  have Hd11 := Lib.hid (show Below w10.heap.size w10 w11 from ((Below.refl _ _).drew).trans hb11)
                  have How := Lib.hid how
                  have HL11 := Lib.hid (HL.out.below Hd11.out)
                  have hfn : fdW L ((r, i), s) = none := by
                    cases h2 : fdW L ((r, i), s) with
                    | none => rfl
                    | some y => have := hasG_some (F := b.b.f) h2; rw [Hh.out] at this; cases this
                  have Hfn := Lib.hid hfn
                  replace E5 := Lib.hid (E5.out.step Hd11.out)
                  clear hb11 how g0 hlen d0 d1 d2 hpg
                  obtain ⟨w12, hr, hm12, hc12⟩ := HL11.out.map.update Tryz.underlying77 (by unfold maxLen; omega) hokd (by unfold fvW; rw [hfn]; rfl) (.agg (cwcells ⟨⟨((r, i), s), ps, uu, t, ⟨k, n, x, p, ds⟩⟩, a1, c1, a2, c2, a3, c3, a4, c4⟩))
                  have Hm12 := Lib.hid hm12
                  have Hc12 := Lib.hid hc12
                  simp only [cwcells] at hr
                  clear hm12 hc12 hfn
                  go_wp2_with fail
                  refine And.intro (Agree.of_below Hb11.out) ?_
                  go_wp2_with fail
                  refine And.intro (by kernel_rfl) ?_
                  have hmw : mb < w.heap.size := H.out.map.lt
                  have hpw : pg < w.heap.size := heap_lt H.out.blk
                  have hne := H.out.ne
                  have p12 := heap_chg HL11.out.blk Hc12.out (by simpa using hne)
                  have b0 := heap_chg E5.out.e.b0 Hc12.out (by simp; omega)
                  have b1 := heap_chg E5.out.e.b1 Hc12.out (by simp; omega)
                  have g0 := cells_at p12
                  have gf := free_at p12
                  simp only [gcells] at g0
                  have d0 := cells_at b0
                  have d1 := cells_at b1
                  simp only [ccells] at d1
                  have hpg := heap_lt p12
                  have P12 := Lib.hid p12
                  have vo : OwnD w12 0 va vc vv := HL11.out.own.chg Hc12.out (noRow_map HL11.out.map)
                  have uo : Vec w12 ua uc uu := Sl.chgM (HV.out.vv.below E5.out.e.bel) Hc12.out HL11.out.map.block
                  have Vo := Lib.hid vo.vec
                  have Uo := Lib.hid uo
                  have hvm := HL11.out.vmax
                  clear p12 b0 b1 vo uo hr hne
                  go_wp2_with fail
                  refine region_text [([0, 1, 2, 3, 4, 5, 6], false), ([7], true), ([8, 9, 10], false)] mixed (by kernel_rfl) ?_
                  simp only [wpSegs, List.map_cons, List.map_nil, List.getD_cons_succ, List.getD_cons_zero]
                  go_wp2_with fail
                  refine (join_any va ua vc uc vv uu _ (Vo.out.below ((Below.refl _ _).drew)) (Uo.out.below ((Below.refl _ _).drew)) H.out.okv HV.out.ok.vv (by omega) (by omega)).mono ?_
                  rintro e w13 ⟨a6, c6, rfl, hown, hb13⟩
                  have Hb13 := Lib.hid hb13
                  have Hd13 := Lib.hid (show Below w12.heap.size w12 w13 from ((Below.refl _ _).drew).trans hb13)
                  have Ho13 := Lib.hid (show OwnD w13 w12.heap.size a6 c6 (joinV vv uu) from hown)
                  have p13 := (Hd13.out.block _ (heap_lt P12.out)).trans P12.out
                  have f13 := free_at p13
                  have g13 := cells_at p13
                  simp only [gcells] at g13
                  have hpg3 := heap_lt p13
                  clear hown hb13 d0 d1 g0 gf p13
                  go_wp2_with fail
                  refine And.intro (Agree.of_below Hb13.out) ?_
                  go_wp2_with fail
                  refine And.intro (by kernel_rfl) ?_
                  go_wp2_with fail
                  go_ret
                  exact ⟨by rw [insE_ok HM.out Hh.out HG.out HB.out Hl.out]; rfl, .inr ⟨insE_ok HM.out Hh.out HG.out HB.out Hl.out, ⟨⟨((r, i), s), ps, uu, t, ⟨k, n, x, p, ds⟩⟩, a1, c1, a2, c2, a3, c3, a4, c4⟩, a6, c6, rfl, GrAt.insert (E5.out.e.bel) HL11.out Hfn.out How.out HM.out Hl.out Hm12.out Hc12.out Hd13.out Ho13.out ⟨hpw, hmw⟩ (by have h5 := Hh.out; unfold hasG at h5; rw [Bool.or_eq_false_iff] at h5; exact h5.2)⟩⟩
end Go.Proofs.YthdmoplclllhjaaGreat
