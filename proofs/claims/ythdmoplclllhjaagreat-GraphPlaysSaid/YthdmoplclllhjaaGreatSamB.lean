/- maps.Clone of the commits' map: the contract. | varveref12.Graph: VV, Heads; varvelaw12.again: the contracts. | The reference's Bury, and Same on leaves (varveref05): contracts. | varveref07.Same where both trees are alike: the contract. | varveref12.SameBase where both are alike: the contract. -/
import Derived.Test.YthdmoplclllhjaaGreatGraV
import Derived.Test.YthdmoplclllhjaaGreatBasB
import Derived.Laws.Externs
import Derived.MapKept
import Derived.Test.YthdmoplclllhjaaGreatFilP
import Derived.Test.YthdmoplclllhjaaGreatRgA
import Derived.Test.YthdmoplclllhjaaGreatGraM
import Derived.Test.YthdmoplclllhjaaGreatRefLA
import Derived.Test.YthdmoplclllhjaaGreatOwtB
import Derived.Test.YthdmoplclllhjaaGreatMeanW
/- CopA -/
namespace Go.Proofs.YthdmoplclllhjaaGreat
open Go.RowKit
set_option linter.unusedVariables false
set_option linter.unusedSimpArgs false

theorem run_mclone {P : Program} {w : World} {r : Nat} {es : Array MapEntry} {clock : Nat} (t : TypeId) (hb : w.heap[r]? = some (.map es clock)) :
    (Extern.MapsClone.clone #[.iface t (.map (some r))]).run P w = .ok (.iface t (.map (some w.heap.size))) (w.alloc (.map es clock)) := by
  have e : Extern.MapsClone.clone #[.iface t (.map (some r))] = (getObj r >>= fun o => match o with
      | .map entries clock => (newObj (.map entries clock) >>= fun n => pure (.iface t (.map (some n))))
      | _ => stuck "maps.clone: a map expected") := rfl
  rw [e]
  simp [MapKept.run_getObj_map hb, Result.andThen, go_sem]
theorem run_asM (v : Value) (w : World) : (Instr.typeAssert (.iface 77 v) 20 77 false).run Tryz.prog w = .ok v w := by
  simp [Instr.typeAssert, run_underlying Tryz.underlying77, go_sem, Result.andThen]
set_option maxRecDepth 100000 in
set_option maxHeartbeats 4000000 in
theorem cloneM_any (b : Nat) (es : Array MapEntry) (clock : Nat) (w : World) (hb : w.heap[b]? = some (.map es clock)) :
    Calls Tryz.prog 104 #[.map (some b)] w fun e w' => e = .returned (.map (some w.heap.size)) ∧ w' = w.alloc (.map es clock) := by
  go_enter Tryz.func104, Tryz.ntmps104
  go_wp2_with fail
  rw [run_callFunc_extern Tryz.func158 (by kernel_rfl) (by kernel_rfl) (by kernel_rfl) (e := Extern.MapsClone.clone) (by kernel_rfl), run_mclone 77 hb]
  simp only [Result.andThen]
  rw [Oper.upon_value]
  go_wp2_with fail
  rw [run_asM]
  simp only [Result.andThen]
  rw [Oper.upon_value]
  go_wp2_with fail
  go_ret
  exact ⟨rfl, rfl⟩
/-- a graph of one's own, alike -/
def CopTo (w : World) (b : Bw) (L : List Cw) (vv : List Dt) (e : Ending) (w' : World) : Prop :=
  ∃ (pg mb : Nat) (w0 : World) (b' : Bw) (va : Option Addr) (vc : Nat), e = .returned (.pointer (some ⟨pg, 0, none⟩)) ∧ SameBw b.b b'.b ∧ GrAt w' pg mb w0 3 b' L va vc vv ∧ Below w.heap.size w w' ∧ w.heap.size ≤ w0.heap.size
set_option maxRecDepth 100000 in
set_option maxHeartbeats 16000000 in
theorem copy_G (pg mb : Nat) (w0 : World) (b : Bw) (L : List Cw) (va : Option Addr) (vc : Nat) (vv : List Dt) (w : World) (h : GrAt w pg mb w0 3 b L va vc vv) (hB : BdA 1100000 3 b.b.tr) :
    Calls Tryz.prog 29 #[.pointer (some ⟨pg, 0, none⟩)] w (CopTo w b L vv) := by
  obtain ⟨⟨num, F, tips, t, tr⟩, fa, fc, ta, tc, ra, rc⟩ := b
  have H := Lib.hid h
  have HBd := Lib.hid hB
  have hfm := h.fmax
  have htm := h.tmax
  have hvm := h.vmax
  dsimp only at hfm htm
  have g0 := cells_at h.blk
  simp only [gcells] at g0
  have hpg := heap_lt h.blk
  clear h hB
  have HD := Lib.hid (show Below w.heap.size w w.drew from (Below.refl _ _).drew)
  go_enter Tryz.func29, Tryz.ntmps29
  go_wp2_with fail
  refine (none_some pg mb _ ?c5).mono ?_
  case c5 => exact cells_at H.out.blk 5
  rintro e w1 ⟨rfl, rfl⟩
  go_wp2_with fail
  refine region_text [([0, 1, 2, 3, 5, 6, 7, 8, 10, 11, 12, 13], false), ([4], true), ([9], true), ([14, 15, 16, 17], false)] mixed (by kernel_rfl) ?_
  simp only [wpSegs, List.map_cons, List.map_nil, List.getD_cons_succ, List.getD_cons_zero]
  go_wp2_with fail
  refine (ownBase_any ⟨⟨num, F, tips, t, tr⟩, fa, fc, ta, tc, ra, rc⟩ _ ((BwAt.below H.out.base H.out.bel).below HD.out) (by dsimp only; omega) (by dsimp only; omega) HBd.out).mono ?_
  rintro e w2 ⟨⟨⟨num', F', tips', t', U⟩, a1, c1, a2, c2, a3, c3⟩, rfl, hs, ho, hb2⟩
  have HPb := Lib.hid (SameBw.base hs H.out.bp)
  obtain ⟨e1, e2, e3, e4, hs5⟩ := hs
  dsimp only at e1 e2 e3 e4 hs5
  subst e1 e2 e3 e4
  have hA2 := Agree.of_below hb2
  have B2 := Lib.hid (below2 HD.out hb2 HD.out.size)
  have Hs := Lib.hid hs5
  have Ho := Lib.hid ho
  have H2 := Lib.hid ((H.out.below HD.out).below hb2)
  obtain ⟨D, ⟨es, clock, hm1, hm2⟩, hm3⟩ := H2.out.map
  have Hm2 := Lib.hid (And.intro hm2 hm3)
  clear hs5 ho hb2 hm2 hm3
  simp only [bwcells]
  go_wp2_with fail
  first
    | (refine And.intro hA2 ?_
       clear hA2
       go_wp2_with fail)
    | clear hA2
  refine (cloneM_any mb es clock _ hm1).mono ?_
  rintro e w3 ⟨rfl, rfl⟩
  have hbA : Below w2.heap.size w2 (w2.alloc (.map es clock)) := (Below.refl _ _).alloc (Nat.le_refl _) _
  have HA := Lib.hid hbA
  have hmA : (w2.alloc (.map es clock)).heap[w2.heap.size]? = some (.map es clock) := heap_new _ _
  have HmA := Lib.hid hmA
  clear hm1 hmA g0
  go_wp2_with fail
  first
    | (refine And.intro (Agree.of_below hbA) ?_
       clear hbA
       go_wp2_with fail)
    | clear hbA
  refine (cloneV_any va vc vv _ (H2.out.own.vec.below HA.out) (by omega)).mono ?_
  rintro e w5 ⟨xa, xc, xv, rfl, hxv, hxo, hb5⟩
  subst hxv
  have Hx := Lib.hid (OwnD.base hxo (Nat.zero_le _))
  have B5 := Lib.hid (below2 HA.out hb5 HA.out.size)
  have Hm5 := Lib.hid ((hb5.block _ (by simp)).trans HmA.out)
  clear hxo hb5
  go_wp2_with fail
  refine And.intro (by kernel_rfl) ?_
  go_wp2_with fail
  have hW : Below w5.heap.size w5 (w5.alloc (.cells (gcells num' a1 F'.length c1 a2 tips'.length c2 t' a3 U.length c3 w2.heap.size xa xv.length xc) 79)) := (Below.refl _ _).alloc (Nat.le_refl _) _
  have hB2W := below2 B5.out hW B5.out.size
  have hGr : GrAt (w5.alloc (.cells (gcells num' a1 F'.length c1 a2 tips'.length c2 t' a3 U.length c3 w2.heap.size xa xv.length xc) 79)) w5.heap.size w2.heap.size w2 3 ⟨⟨num', F', tips', t', U⟩, a1, c1, a2, c2, a3, c3⟩ L xa xc xv :=
    ⟨heap_new _ _, ⟨D, ⟨es, clock, (hW.block _ (heap_lt Hm5.out)).trans Hm5.out, Hm2.out.1⟩, Hm2.out.2⟩, ⟨B5.out.size, Nat.le_refl _⟩, hB2W, ⟨Ho.out.f.vec, Ho.out.tips.vec, OwnT.rd Ho.out.tr, H.out.base.okf, H.out.base.okt, H.out.base.num, H.out.base.t⟩, fun v hv => (H2.out.each v hv).below hB2W, OwnD.below Hx.out hW, H.out.okv, H.out.nodup, H.out.may, H.out.max, hfm, htm, hvm, HPb.out, H.out.out⟩
  go_ret
  exact ⟨w5.heap.size, w2.heap.size, w2, ⟨⟨num', F', tips', t', U⟩, a1, c1, a2, c2, a3, c3⟩, xa, xc, rfl, ⟨rfl, rfl, rfl, rfl, Hs.out⟩, hGr, B2.out.trans (hB2W.mono B2.out.size), B2.out.size⟩
end Go.Proofs.YthdmoplclllhjaaGreat

/- RgV -/
namespace Go.Proofs.YthdmoplclllhjaaGreat
open Go.RowKit
set_option linter.unusedVariables false
set_option linter.unusedSimpArgs false

/-- the join of a vector and the first commits' vectors -/
def jnS (F : List Dt) (C : List Cm) : List Dt := C.foldl (fun v c => joinV v c.vv) (canonV F)
theorem jnS_snoc (F : List Dt) (C : List Cm) (c : Cm) : jnS F (C ++ [c]) = joinV (jnS F C) c.vv := by unfold jnS; rw [List.foldl_append]; rfl
theorem jn_ok (C : List Cm) : ∀ v : List Dt, okV v → v.length ≤ 64 → (∀ c ∈ C, okV c.vv) → okV (C.foldl (fun v c => joinV v c.vv) v) ∧ (C.foldl (fun v c => joinV v c.vv) v).length ≤ 64 := by
  induction C with
  | nil => intro v h1 h2 _; exact ⟨h1, h2⟩
  | cons c C ih =>
    intro v h1 h2 h3
    exact ih (joinV v c.vv) (okV_joinV h1 (h3 c (by simp))) (vecOf_length _) fun d hd => h3 d (List.mem_cons_of_mem _ hd)
theorem okV_canon {v : List Dt} (h : okV v) : okV (canonV v) := by
  have h1 := okV_joinV h h
  have e : joinV v v = canonV v := by
    unfold joinV canonV
    congr 1
    funext x
    exact Int.max_self _
  rwa [e] at h1
theorem jnS_ok {F : List Dt} (hF : okV F) {C : List Cm} (hC : ∀ c ∈ C, okV c.vv) : okV (jnS F C) ∧ (jnS F C).length ≤ 64 := jn_ok C _ (okV_canon hF) (vecOf_length _) hC
set_option maxRecDepth 100000 in
set_option maxHeartbeats 8000000 in
theorem vv_R (pw : Nat) (w0 : World) (m : Nat) (b : Bw) (S : List Cw) (la : Option Addr) (lc : Nat) (w : World) (h : RgAt w pw w0 m b S la lc) :
    Calls Tryz.prog 35 #[.pointer (some ⟨pw, 0, none⟩)] w (VVTo w (jnS b.b.f (cms S))) := by
  have H := Lib.hid h
  have hfl := h.flen
  have hfew := h.few
  have Hokf := Lib.hid h.base.okf
  have g0 := cells_at h.blk
  simp only [rgcells] at g0
  have gz := heap_lt h.blk
  have Hoks : Hid (∀ q, ∀ c ∈ (cms S).take q, okV c.vv) := Lib.hid (fun q c hc => by
    obtain ⟨v, hv, rfl⟩ := List.mem_map.1 (List.mem_of_mem_take hc)
    exact (h.each v hv).ok.vv)
  clear h
  go_enter Tryz.func35, Tryz.ntmps35
  go_wp2_with fail
  refine (rcanon_any b.fa b.fc b.b.f _ H.out.f Hokf.out (by omega)).mono ?_
  rintro e w1 ⟨ja, jc, rfl, ho, hb⟩
  have Ho := Lib.hid (show OwnD w1 w.heap.size ja jc (jnS b.b.f ((cms S).take 0)) from ho)
  have HB := Lib.hid hb
  have he0 : (canonV b.b.f).length = (jnS b.b.f ((cms S).take 0)).length := rfl
  rw [he0]
  clear ho hb g0 gz he0
  go_wp2_with fail
  go_loopw [3, 4] (fun o j wr => ∃ (q : Nat) (ia : Option Addr) (ic : Nat), q ≤ S.length ∧ j = .int .i64 q ∧ o = .slice ia (jnS b.b.f ((cms S).take q)).length ic ∧ Hid (OwnD wr w.heap.size ia ic (jnS b.b.f ((cms S).take q))) ∧ Hid (Below w.heap.size w wr)) (fun _ j _ => S.length - (intOf j).toNat)
  case atStart => exact ⟨0, ja, jc, Nat.zero_le _, rfl, rfl, Ho, HB⟩
  case round =>
    obtain ⟨q, ia, ic, hq, rfl, rfl, HO, B⟩ := hrel
    clear Ho HB
    have RB := Lib.hid (H.out.below B.out)
    have g0 := cells_at RB.out.blk
    simp only [rgcells] at g0
    have gz := heap_lt RB.out.blk
    by_cases hlt : q < S.length
    · obtain ⟨u, hu⟩ : ∃ u, S[q]? = some u := ⟨S[q], by simp [hlt]⟩
      obtain ⟨ad, had, ⟨c0, c1, c2, c3, c4, c5, c6, c7, c8, c9, c10⟩, hlb⟩ := RB.out.rows.at_ hu
      subst had
      have Hat := Lib.hid (RB.out.rows.each u (List.mem_of_getElem? hu))
      have hul := (H.out.may u (List.mem_of_getElem? hu)).vlen
      have HN : Hid (jnS b.b.f ((cms S).take (q + 1)) = joinV (jnS b.b.f ((cms S).take q)) u.c.vv) := Lib.hid (by rw [take_snoc' (cms_at hu), jnS_snoc])
      clear hu c3 c5 c6 c7 c8 c9 c10
      obtain ⟨⟨⟨⟨r1, i1⟩, s1⟩, ps1, uu1, t1, ⟨k1, n1, x1', p1, ds1⟩⟩, qa1, qc1, ua1, uc1, pa1, pc1, da1, dc1⟩ := u
      dsimp only at c0 c1 c2 c4 hul
      have hjl := (jnS_ok Hokf.out (Hoks.out q)).2
      have Hjo := Lib.hid (jnS_ok Hokf.out (Hoks.out q)).1
      generalize jnS b.b.f ((cms S).take q) = J at HO HN hjl Hjo ⊢
      dsimp only at HN
      go_wp2_with fail
      refine (rjoin_any ia ua1 ic uc1 J uu1 _ HO.out.vec Hat.out.vv Hjo.out Hat.out.ok.vv (by omega) (by omega)).mono ?_
      rintro e w2 ⟨ja2, jc2, rfl, ho, hb⟩
      have HO2 : Hid (OwnD w2 w.heap.size ja2 jc2 (jnS b.b.f ((cms S).take (q + 1)))) := Lib.hid (by rw [HN.out]; exact OwnD.base ho B.out.size)
      have B2 := Lib.hid (below2 B.out hb B.out.size)
      have Hl2 := Lib.hid (show (joinV J uu1).length = (jnS b.b.f ((cms S).take (q + 1))).length by rw [HN.out])
      clear ho hb c0 c1 c2 c4 g0 gz hlb
      rw [Hl2.out]
      go_wp2_with fail
      go_roundw
      case rel => exact ⟨q + 1, ja2, jc2, by omega, by go_num, rfl, HO2, B2⟩
      case measure => simp [intOf]; omega
    · have hqq : (cms S).take q = cms S := List.take_of_length_le (by unfold cms; rw [List.length_map]; omega)
      rw [hqq] at HO ⊢
      clear hqq
      go_wp2_with fail
      go_ret
      exact ⟨ia, ic, rfl, HO.out, B.out⟩
theorem again_any (k : Int) (w : World) : Calls Tryz.prog 31 #[.int .i64 k] w fun e w' => e = .returned (.int .i64 (if k = 0 then 8 else k)) ∧ w' = w := by
  go_enter Tryz.func31, Tryz.ntmps31
  by_cases h : k = 0
  · subst h
    go_wp2_with fail
    go_ret
    exact ⟨rfl, rfl⟩
  · have x1 : (k == 0) = false := by rw [beq_eq_false_iff_ne]; exact h
    have e : (if k = 0 then 8 else k) = k := if_neg h
    rw [e]
    clear e
    go_wp2_with fail
    go_ret
    exact ⟨rfl, rfl⟩
theorem grt_heads2 {S : List Cm} {tips : List Dt} (hn : (S.map (·.d)).Nodup) (ht : ∀ d ∈ tips, ∀ c ∈ S, c.d ≠ d) {v : List Dt} (h : GrtP (findC S) (tips ++ S.map (·.d)) v) : HeadsP tips S v := by
  refine ⟨h.1, fun d => ?_⟩
  rw [h.2 d]
  have e : overQ (findC S) (tips ++ S.map (·.d)) (tips ++ S.map (·.d)).length d = behindB S d := by
    rw [Bool.eq_iff_iff, behindB_iff]
    unfold overQ
    rw [List.take_length, List.any_eq_true]
    constructor
    · rintro ⟨k, hk, h1⟩
      rcases List.mem_append.1 hk with hk | hk
      · unfold overB at h1
        rw [findC_none.2 (ht k hk)] at h1
        simp at h1
      · obtain ⟨c, hc, rfl⟩ := List.mem_map.1 hk
        unfold overB at h1
        rw [findC_mem hn hc, Bool.and_eq_true] at h1
        refine ⟨c, hc, fun e => ?_, h1.2⟩
        have h2 := h1.1
        rw [(eqD_iff _ _).2 e] at h2; cases h2
    · rintro ⟨c, hc, h1, h2⟩
      refine ⟨c.d, List.mem_append_right _ (List.mem_map.2 ⟨c, hc, rfl⟩), ?_⟩
      unfold overB
      rw [findC_mem hn hc, Bool.and_eq_true]
      refine ⟨?_, h2⟩
      cases h3 : eqD c.d d with
      | true => exact absurd ((eqD_iff _ _).1 h3) h1
      | false => rfl
  rw [e, List.mem_append, List.mem_map]
structure HdE (w wr : World) (tips : List Dt) (S : List Cw) (q : Nat) (ia : Option Addr) (ic : Nat) (v : List Dt) : Prop where
  own : OwnD wr w.heap.size ia ic v
  val : v = tips ++ ((cms S).take q).map (·.d)
  bel : Below w.heap.size w wr
theorem HdE.below {w wr w' : World} {tips : List Dt} {S : List Cw} {q : Nat} {ia : Option Addr} {ic : Nat} {v : List Dt} (h : HdE w wr tips S q ia ic v) (hb : Below wr.heap.size wr w') : HdE w w' tips S q ia ic v :=
  ⟨OwnD.below h.own hb, h.val, below2 h.bel hb h.bel.size⟩
set_option maxRecDepth 100000 in
set_option maxHeartbeats 8000000 in
theorem heads_R (pw : Nat) (w0 : World) (m : Nat) (b : Bw) (S : List Cw) (la : Option Addr) (lc : Nat) (w : World) (h : RgAt w pw w0 m b S la lc) (hB : BaseP b.b) (hout : ∀ v ∈ S, hasV b.b.f v.c.d = false) :
    Calls Tryz.prog 34 #[.pointer (some ⟨pw, 0, none⟩)] w (HeadsTo w b.b.tips (cms S)) := by
  have H := Lib.hid h
  have hfew := h.few
  have htl := hB.few
  have HTv := Lib.hid (show Vec w b.ta b.tc b.b.tips from h.base.tips.below h.bel)
  have Hne : Hid (∀ d ∈ b.b.tips, ∀ c ∈ cms S, c.d ≠ d) := Lib.hid (fun d hd c hc e => by
    obtain ⟨v, hv, rfl⟩ := List.mem_map.1 hc
    have h1 := hout v hv
    rw [e, hB.within d hd] at h1; cases h1)
  have Hnt : Hid b.b.tips.Nodup := Lib.hid (by unfold List.Nodup; exact hB.rise.imp (fun hxy e => by subst e; exact ltD_irrefl _ hxy))
  have Hokt := Lib.hid h.base.okt
  have g0 := cells_at h.blk
  simp only [rgcells] at g0
  have gz := heap_lt h.blk
  clear h hB hout
  go_enter Tryz.func34, Tryz.ntmps34
  have A0 : Hid (Below w.heap.size w (w.alloc (.cells #[] 41))) := Lib.hid ((Below.refl _ _).alloc (Nat.le_refl _) _)
  go_wp2_with (at_builtin; go_must (refine wpList_appD rfl _ _ rfl w.heap.size (some ⟨w.heap.size, 0, none⟩) 0 [] rfl (OwnD.made w (Nat.le_refl _)) b.ta b.tc b.b.tips rfl (HTv.out.below A0.out) ?n1 ?b1 ?_))
  case n1 => simp; omega
  case b1 => exact A0.out.size
  intro v1 a1 c1 w1 hv1 ho1 hb1 hc1
  have E0 : Hid (HdE w w1 b.b.tips S 0 a1 c1 v1) := Lib.hid ⟨ho1, by rw [hv1]; simp, A0.out.trans hb1⟩
  clear hv1 ho1 hb1 hc1 g0 gz
  go_wp2_with fail
  go_loopw [3, 4] (fun o j wr => ∃ (q : Nat) (ia : Option Addr) (ic : Nat) (v : List Dt), q ≤ S.length ∧ j = .int .i64 q ∧ o = .slice ia (List.length v) ic ∧ Hid (HdE w wr b.b.tips S q ia ic v)) (fun _ j _ => S.length - (intOf j).toNat)
  case atStart => exact ⟨0, a1, c1, v1, Nat.zero_le _, rfl, rfl, E0⟩
  case round =>
    obtain ⟨q, ia, ic, v, hq, rfl, rfl, E⟩ := hrel
    clear E0
    have hvl : v.length ≤ 264 := by
      rw [E.out.val, List.length_append, List.length_map, List.length_take]
      omega
    have RB := Lib.hid (H.out.below E.out.bel)
    have g0 := cells_at RB.out.blk
    simp only [rgcells] at g0
    have gz := heap_lt RB.out.blk
    by_cases hlt : q < S.length
    · obtain ⟨u, hu⟩ : ∃ u, S[q]? = some u := ⟨S[q], by simp [hlt]⟩
      obtain ⟨ad, had, ⟨c0, c1, c2, c3, c4, c5, c6, c7, c8, c9, c10⟩, hlb⟩ := RB.out.rows.at_ hu
      subst had
      have HV2 := Lib.hid (show b.b.tips ++ ((cms S).take (q + 1)).map (·.d) = v ++ [u.c.d] from by rw [take_snoc' (cms_at hu), List.map_append, ← List.append_assoc, E.out.val]; rfl)
      clear hu c3 c4 c5 c6 c7 c8 c9 c10
      obtain ⟨⟨⟨⟨r1, i1⟩, s1⟩, ps1, uu1, t1, ⟨k1, n1, x1', p1, ds1⟩⟩, qa1, qc1, ua1, uc1, pa1, pc1, da1, dc1⟩ := u
      dsimp only at c0 c1 c2 HV2
      have A2 : Hid (Below wr.heap.size wr (wr.alloc (.cells #[.int .u8 r1, .int .u32 i1, .int .u64 s1] 41))) := Lib.hid ((Below.refl _ _).alloc (Nat.le_refl _) _)
      have E3 := Lib.hid (E.out.below A2.out)
      go_wp2_with (at_builtin; go_must (refine wpList_appD rfl _ _ rfl w.heap.size ia ic v rfl E3.out.own (some ⟨wr.heap.size, 0, none⟩) 1 [((r1, i1), s1)] rfl (vec_one (heap_new _ _)) ?n2 ?b2 ?_))
      case n2 => simp; omega
      case b2 => exact E3.out.bel.size
      intro v2 a2 c2' we hv2 ho2 hb2 hc2
      have E4 : Hid (HdE w we b.b.tips S (q + 1) a2 c2' v2) := Lib.hid ⟨ho2, by rw [hv2, HV2.out], E3.out.bel.trans hb2⟩
      clear hv2 ho2 hb2 hc2 c0 c1 c2 g0 gz hlb RB A2 E3
      go_wp2_with fail
      go_roundw
      case rel => exact ⟨q + 1, a2, c2', v2, by omega, by go_num, rfl, E4⟩
      case measure => simp [intOf]; omega
    · have Hv := Lib.hid (show v = b.b.tips ++ (cms S).map (·.d) from by rw [E.out.val, List.take_of_length_le (by unfold cms; rw [List.length_map]; omega)])
      have Hnd := Lib.hid (show v.Nodup from by
        rw [Hv.out, List.nodup_append]
        refine ⟨Hnt.out, H.out.nodup, fun a ha b' hb e => ?_⟩
        obtain ⟨c, hc, rfl⟩ := List.mem_map.1 hb
        exact Hne.out a ha c hc e.symm)
      have Hokv := Lib.hid (show okV v from by
        rw [Hv.out]
        intro d hd
        rcases List.mem_append.1 hd with hd | hd
        · exact Hokt.out d hd
        · obtain ⟨c, hc, rfl⟩ := List.mem_map.1 hd
          obtain ⟨u, hu, rfl⟩ := List.mem_map.1 hc
          exact (H.out.each u hu).ok.d)
      go_wp2_with fail
      refine (greatest_R pw w0 m b S la lc ia ic v _ RB.out E.out.own.vec (by omega) Hnd.out Hokv.out).mono ?_
      intro e w5 hto
      obtain ⟨a5, c5, g5, rfl, hg, hok5, hl5, ho5, hb5⟩ := hto
      have HG := Lib.hid (show HeadsP b.b.tips (cms S) g5 from grt_heads2 H.out.nodup Hne.out (by rw [← Hv.out]; exact hg))
      have Hok5 := Lib.hid hok5
      have Hl5 : g5.length ≤ 100200 := by omega
      have Ho5 := Lib.hid (OwnD.base (base' := w.heap.size) ho5 E.out.bel.size)
      have B5 := Lib.hid (below2 E.out.bel hb5 E.out.bel.size)
      clear hg hok5 ho5 hb5
      go_wp2_with fail
      go_ret
      exact ⟨a5, c5, g5, rfl, HG.out, Hok5.out, Hl5, Ho5.out, B5.out⟩
theorem sorted_last {C : List Cm} (hs : SortedC C) {k : Nat} {v : Cm} (hv : C[k]? = some v) (hk : k + 1 = C.length) : ∀ c ∈ C, c.t ≤ v.t := fun c hc => by
  obtain ⟨j, hj⟩ := List.getElem?_of_mem hc
  obtain ⟨h1, rfl⟩ := List.getElem?_eq_some_iff.1 hj
  obtain ⟨h2, rfl⟩ := List.getElem?_eq_some_iff.1 hv
  by_cases e : j = k
  · subst e; exact Int.le_refl _
  · have h3 := List.pairwise_iff_getElem.1 hs j k h1 h2 (by omega)
    unfold ltC at h3
    omega
set_option maxRecDepth 100000 in
set_option maxHeartbeats 8000000 in
theorem time_R (pw : Nat) (w0 : World) (m : Nat) (b : Bw) (S : List Cw) (la : Option Addr) (lc : Nat) (w : World) (h : RgAt w pw w0 m b S la lc) :
    Calls Tryz.prog 37 #[.pointer (some ⟨pw, 0, none⟩)] w fun e w' => ∃ n, e = .returned (.int .u64 n) ∧ TimeP b.b.t (cms S) n ∧ Below w.heap.size w w' := by
  have H := Lib.hid h
  have hfew := h.few
  have g0 := cells_at h.blk
  simp only [rgcells] at g0
  have gz := heap_lt h.blk
  have B0 := Lib.hid (show Below w.heap.size w w.drew from (Below.refl _ _).drew)
  have B1 := Lib.hid (show Below w.heap.size w w.drew.drew from (Below.refl _ _).drew.drew)
  go_enter Tryz.func37, Tryz.ntmps37
  by_cases h0 : S = []
  · subst h0
    simp only [List.length_nil] at g0
    clear h
    go_wp2_with fail
    refine region_text [([0, 1, 2, 3, 4, 5, 6, 7, 8, 9, 10, 11, 12, 13, 14, 15, 16, 17, 18, 19, 20, 21, 22, 23, 24, 25, 26], false)] mixed (by kernel_rfl) ?_
    simp only [wpSegs, List.map_cons, List.map_nil, List.getD_cons_succ, List.getD_cons_zero]
    go_wp2_with fail
    refine And.intro (by kernel_rfl) ?_
    go_wp2_with fail
    go_ret
    exact ⟨_, rfl, ⟨Int.le_refl _, fun c hc => (by cases hc), .inl rfl⟩, B0.out⟩
  · obtain ⟨k, hk⟩ : ∃ k, k + 1 = S.length := ⟨S.length - 1, by have := List.length_pos_iff.2 h0; omega⟩
    obtain ⟨v, hv⟩ : ∃ v, S[k]? = some v := ⟨S[k], by simp⟩
    have Hl := Lib.hid (sorted_last h.sorted (cms_at hv) (by unfold cms; rw [List.length_map]; exact hk))
    have Hm := Lib.hid (show v.c ∈ cms S from List.mem_of_getElem? (cms_at hv))
    have hn1 : (S.length : Int) - 1 = (k : Int) := by omega
    have hn2 : (0 : Int) < (S.length : Int) := by omega
    obtain ⟨ad, had, ⟨c0, c1, c2, c3, c4, c5, c6, c7, c8, c9, c10⟩, hlb⟩ := h.rows.at_ hv
    have hkl : k < S.length := by omega
    subst had
    clear h hv hk h0 c0 c1 c2 c3 c4 c6 c7 c8 c9 c10
    generalize v.c = vc at c5 Hl Hm
    obtain ⟨vd, vps, vvv, vt, vo⟩ := vc
    dsimp only at c5 Hl
    by_cases hb : b.b.t < vt
    · have x1 : decide (b.b.t < vt) = true := decide_eq_true hb
      go_wp2_with fail
      refine region_text [([0, 1, 2, 3, 4, 5, 6, 7, 8, 9, 10, 11, 12, 13, 14, 15, 16, 17, 18, 19, 20, 21, 22, 23, 24, 25, 26], false)] mixed (by kernel_rfl) ?_
      simp only [wpSegs, List.map_cons, List.map_nil, List.getD_cons_succ, List.getD_cons_zero]
      go_wp2_with fail
      refine And.intro (by kernel_rfl) ?_
      go_wp2_with fail
      refine region_text [([0, 1, 2, 3, 4, 5, 6, 7, 8, 9, 10, 11, 12, 13], false)] mixed (by kernel_rfl) ?_
      simp only [wpSegs, List.map_cons, List.map_nil, List.getD_cons_succ, List.getD_cons_zero]
      go_wp2_with fail
      refine And.intro (by kernel_rfl) ?_
      go_wp2_with fail
      go_ret
      exact ⟨_, rfl, ⟨by omega, Hl.out, .inr ⟨_, Hm.out, rfl⟩⟩, B1.out⟩
    · have x1 : decide (b.b.t < vt) = false := decide_eq_false hb
      go_wp2_with fail
      refine region_text [([0, 1, 2, 3, 4, 5, 6, 7, 8, 9, 10, 11, 12, 13, 14, 15, 16, 17, 18, 19, 20, 21, 22, 23, 24, 25, 26], false)] mixed (by kernel_rfl) ?_
      simp only [wpSegs, List.map_cons, List.map_nil, List.getD_cons_succ, List.getD_cons_zero]
      go_wp2_with fail
      refine And.intro (by kernel_rfl) ?_
      go_wp2_with fail
      go_ret
      exact ⟨_, rfl, ⟨Int.le_refl _, fun c hc => by have := Hl.out c hc; omega, .inl rfl⟩, B0.out⟩
theorem jn_up (x : Ac) (C : List Cm) : ∀ v : List Dt, okV v → (∀ c ∈ C, okV c.vv) → getN v x ≤ getN (C.foldl (fun v c => joinV v c.vv) v) x ∧ ∀ c ∈ C, getN c.vv x ≤ getN (C.foldl (fun v c => joinV v c.vv) v) x := by
  induction C with
  | nil => intro v _ _; exact ⟨Int.le_refl _, fun c hc => (by cases hc)⟩
  | cons d C ih =>
    intro v hv hC
    have hd := hC d (by simp)
    obtain ⟨h1, h2⟩ := ih (joinV v d.vv) (okV_joinV hv hd) fun c hc => hC c (List.mem_cons_of_mem _ hc)
    rw [getN_joinV hv hd] at h1
    refine ⟨Int.le_trans (Int.le_max_left _ _) h1, fun c hc => ?_⟩
    rcases List.mem_cons.1 hc with rfl | hc
    · exact Int.le_trans (Int.le_max_right _ _) h1
    · exact h2 c hc
theorem jn_low (x : Ac) (N : Int) (C : List Cm) : ∀ v : List Dt, okV v → (∀ c ∈ C, okV c.vv) → getN v x ≤ N → (∀ c ∈ C, getN c.vv x ≤ N) → getN (C.foldl (fun v c => joinV v c.vv) v) x ≤ N := by
  induction C with
  | nil => intro v _ _ h _; exact h
  | cons d C ih =>
    intro v hv hC h1 h2
    have hd := hC d (by simp)
    exact ih (joinV v d.vv) (okV_joinV hv hd) (fun c hc => hC c (List.mem_cons_of_mem _ hc)) (by rw [getN_joinV hv hd]; have := h2 d (by simp); omega) fun c hc => h2 c (List.mem_cons_of_mem _ hc)
theorem jn_canon (C : List Cm) : ∀ v : List Dt, okV v → canonV v = v → (∀ c ∈ C, okV c.vv) → canonV (C.foldl (fun v c => joinV v c.vv) v) = C.foldl (fun v c => joinV v c.vv) v := by
  induction C with
  | nil => intro v _ h _; exact h
  | cons d C ih =>
    intro v hv h hC
    have hd := hC d (by simp)
    refine ih (joinV v d.vv) (okV_joinV hv hd) ?_ fun c hc => hC c (List.mem_cons_of_mem _ hc)
    unfold canonV joinV
    congr 1
    funext x
    have h1 := getN_joinV hv hd x
    unfold joinV at h1
    exact h1
/-- the join of all is the graph's vector -/
theorem jnS_eq {F : List Dt} {C : List Cm} {vv : List Dt} (h : HistP F C vv) (hF : canonV F = F) (hC : ∀ c ∈ C, okV c.vv) : jnS F C = vv := by
  unfold jnS
  rw [hF]
  have hc := jn_canon C F h.okF hF hC
  rw [← hc, ← h.canon]
  unfold canonV
  congr 1
  funext x
  obtain ⟨h1, h2⟩ := jn_up x C F h.okF hC
  refine Int.le_antisymm (jn_low x _ C F h.okF hC (h.base x) fun c hc => h.up c hc x) ?_
  by_cases h0 : 1 ≤ getN vv x
  · rcases hasG_cases (h.low x (getN vv x) h0 (Int.le_refl _)) with ⟨c, hc, e, _⟩ | h3
    · have h4 := (h.may c hc).own
      have h5 := h2 c hc
      rw [e] at h4
      have h6 : getN c.vv x = getN vv x := h4
      omega
    · have h4 := (hasV_iff.1 h3).2
      have h5 : getN vv x ≤ getN F x := h4
      omega
  · have h6 := (getN_bd F x).1
    omega
end Go.Proofs.YthdmoplclllhjaaGreat

/- RefLD -/
namespace Go.Proofs.YthdmoplclllhjaaGreat
open Go.RowKit
set_option linter.unusedVariables false
set_option linter.unusedSimpArgs false

/-- two leaves' blocks came first -/
structure SM (w : World) (A B : Array Value) (W : World) : Prop where
  g : W.heap[w.heap.size]? = some (.cells A 157 (0, 0))
  h : W.heap[w.heap.size + 1]? = some (.cells B 157 (0, 0))
  bel : Below w.heap.size w W
  BEL : Below ((w.alloc (.cells A 157)).alloc (.cells B 157)).heap.size ((w.alloc (.cells A 157)).alloc (.cells B 157)) W
theorem SM.of {w W : World} {A B : Array Value} (h : Below ((w.alloc (.cells A 157)).alloc (.cells B 157)).heap.size ((w.alloc (.cells A 157)).alloc (.cells B 157)) W) : SM w A B W := ⟨(new2 h).1, (new2 h).2.1, (new2 h).2.2.2, h⟩
theorem SM.step {w W W' : World} {A B : Array Value} (h : SM w A B W) (hb : Below W.heap.size W W') : SM w A B W' := SM.of (below2 h.BEL hb h.BEL.size)
set_option maxRecDepth 100000 in
set_option maxHeartbeats 4000000 in
theorem rsameL_any (l m : Lf) (ia ta ja ua : Option Addr) (ic tc jc uc : Nat) (w : World) (hl : LfAt w l ia ic ta tc) (hm : LfAt w m ja jc ua uc) :
    Calls Tryz.prog 163 #[lval l ia ic ta tc, lval m ja jc ua uc] w fun e w' => ∃ q : Bool, e = .returned (.bool q) ∧ (q = true ↔ l = m) ∧ Below w.heap.size w w' := by
  obtain ⟨k, n, t, ⟨⟨r, i⟩, s⟩, x, is, ts⟩ := l
  obtain ⟨k', n', t', ⟨⟨r', i'⟩, s'⟩, x', is', ts'⟩ := m
  have hn1 := hl.li
  have hn2 := hm.li
  have hn3 := hl.lt
  have hn4 := hm.lt
  dsimp only at hn1 hn2 hn3 hn4
  have Hl := Lib.hid hl
  have Hm := Lib.hid hm
  clear hl hm
  simp only [lval]
  cases h0 : (k == k') with
  | false =>
    have He := Lib.hid (show ¬ (k = k') from by simpa using h0)
    have g0 : (k != k') = true := by rw [bne, h0]; rfl
    go_enter Tryz.func163, Tryz.ntmps163
    go_wp2_with fail
    go_ret
    exact ⟨false, rfl, ⟨fun h => (by cases h), fun h => absurd (show k = k' from congrArg Lf.k h) He.out⟩, ((Below.refl _ _).alloc (Nat.le_refl _) _).alloc (by simp) _⟩
  | true =>
    have g0 : (k != k') = false := by rw [bne, h0]; rfl
    cases h1 : (n == n') with
    | false =>
      have He := Lib.hid (show ¬ (n = n') from by simpa using h1)
      have g1 : (n != n') = true := by rw [bne, h1]; rfl
      go_enter Tryz.func163, Tryz.ntmps163
      go_wp2_with fail
      go_ret
      exact ⟨false, rfl, ⟨fun h => (by cases h), fun h => absurd (show n = n' from congrArg Lf.n h) He.out⟩, ((Below.refl _ _).alloc (Nat.le_refl _) _).alloc (by simp) _⟩
    | true =>
      have g1 : (n != n') = false := by rw [bne, h1]; rfl
      cases h2 : (t == t') with
      | false =>
        have He := Lib.hid (show ¬ (t = t') from by simpa using h2)
        have g2 : (t != t') = true := by rw [bne, h2]; rfl
        go_enter Tryz.func163, Tryz.ntmps163
        go_wp2_with fail
        go_ret
        exact ⟨false, rfl, ⟨fun h => (by cases h), fun h => absurd (show t = t' from congrArg Lf.t h) He.out⟩, ((Below.refl _ _).alloc (Nat.le_refl _) _).alloc (by simp) _⟩
      | true =>
        have g2 : (t != t') = false := by rw [bne, h2]; rfl
        cases h3 : eqD ((r, i), s) ((r', i'), s') with
        | false =>
          have He := Lib.hid (show ¬ (((r, i), s) = ((r', i'), s')) from fun e => by rw [(eqD_iff _ _).2 e] at h3; cases h3)
          go_enter Tryz.func163, Tryz.ntmps163
          go_wp2_with fail
          go_ret
          exact ⟨false, rfl, ⟨fun h => (by cases h), fun h => absurd (show ((r, i), s) = ((r', i'), s') from congrArg Lf.d h) He.out⟩, ((Below.refl _ _).alloc (Nat.le_refl _) _).alloc (by simp) _⟩
        | true =>
          cases h4 : (x.toList == x'.toList) with
          | false =>
            have He := Lib.hid (show ¬ (x = x') from fun e => by subst e; simp at h4)
            have g4 : (x.toList != x'.toList) = true := by rw [bne, h4]; rfl
            go_enter Tryz.func163, Tryz.ntmps163
            go_wp2_with fail
            go_ret
            exact ⟨false, rfl, ⟨fun h => (by cases h), fun h => absurd (show x = x' from congrArg Lf.x h) He.out⟩, ((Below.refl _ _).alloc (Nat.le_refl _) _).alloc (by simp) _⟩
          | true =>
            have g4 : (x.toList != x'.toList) = false := by rw [bne, h4]; rfl
            cases h5 : ((is.length : Int) == (is'.length : Int)) with
            | false =>
              have He := Lib.hid (show ¬ (is = is') from fun e => by subst e; simp at h5)
              have g5 : ((is.length : Int) != (is'.length : Int)) = true := by rw [bne, h5]; rfl
              go_enter Tryz.func163, Tryz.ntmps163
              go_wp2_with fail
              go_ret
              exact ⟨false, rfl, ⟨fun h => (by cases h), fun h => absurd (show is = is' from congrArg Lf.items h) He.out⟩, ((Below.refl _ _).alloc (Nat.le_refl _) _).alloc (by simp) _⟩
            | true =>
              have g5 : ((is.length : Int) != (is'.length : Int)) = false := by rw [bne, h5]; rfl
              cases h6 : ((ts.length : Int) == (ts'.length : Int)) with
              | false =>
                have He := Lib.hid (show ¬ (ts = ts') from fun e => by subst e; simp at h6)
                have g6 : ((ts.length : Int) != (ts'.length : Int)) = true := by rw [bne, h6]; rfl
                go_enter Tryz.func163, Tryz.ntmps163
                go_wp2_with fail
                go_ret
                exact ⟨false, rfl, ⟨fun h => (by cases h), fun h => absurd (show ts = ts' from congrArg Lf.tombs h) He.out⟩, ((Below.refl _ _).alloc (Nat.le_refl _) _).alloc (by simp) _⟩
              | true =>
                have g6 : ((ts.length : Int) != (ts'.length : Int)) = false := by rw [bne, h6]; rfl
                have E0 := Lib.hid (show k = k' by simpa using h0)
                have E1 := Lib.hid (show n = n' by simpa using h1)
                have E2 := Lib.hid (show t = t' by simpa using h2)
                have E3 := Lib.hid ((eqD_iff _ _).1 h3)
                have E4 := Lib.hid (show x = x' by rw [beq_bytes] at h4; simpa using h4)
                have E5 := Lib.hid (show is.length = is'.length by simp at h5; omega)
                have E6 := Lib.hid (show ts.length = ts'.length by simp at h6; omega)
                go_enter Tryz.func163, Tryz.ntmps163
                go_wp2_with fail
                go_loopw [5] (fun j wr => ∃ q : Nat, q ≤ is.length ∧ j = .int .i64 q ∧ Hid (is.take q = is'.take q) ∧ Hid (SM w (lcells ⟨k, n, t, ((r, i), s), x, is, ts⟩ ia ic ta tc) (lcells ⟨k', n', t', ((r', i'), s'), x', is', ts'⟩ ja jc ua uc) wr)) (fun j _ => is.length - (intOf j).toNat)
                case atStart => exact ⟨0, Nat.zero_le _, rfl, Lib.hid (by simp), Lib.hid (SM.of (Below.refl _ _))⟩
                case round =>
                  clear h0 h1 h2 h3 h4 h5 h6 g0 g1 g2 g4 g5 g6
                  obtain ⟨q, hq, rfl, hle, hE⟩ := hrel
                  have E := Lib.hid hE.out
                  have d0 := cells_at E.out.g
                  have d1 := cells_at E.out.h
                  simp only [lcells] at d0 d1
                  clear hE
                  by_cases hlt : q < is.length
                  · obtain ⟨⟨yt, ⟨⟨yr, yi⟩, ys⟩, yx⟩, hx⟩ : ∃ x, is[q]? = some x := ⟨is[q], by simp [hlt]⟩
                    obtain ⟨⟨zt, ⟨⟨zr, zi⟩, zs⟩, zx⟩, hy⟩ : ∃ y, is'[q]? = some y := ⟨is'[q]'(by have := E5.out; omega), List.getElem?_eq_getElem _⟩
                    obtain ⟨ad, had, ⟨c0, c1, c2, c3, c4⟩, hl0⟩ := (Hl.out.its.below E.out.bel).at hx
                    obtain ⟨ae, hae, ⟨e0, e1, e2, e3, e4⟩, hl1⟩ := (Hm.out.its.below E.out.bel).at hy
                    subst had hae
                    dsimp only at c0 c1 c2 c3 c4 e0 e1 e2 e3 e4
                    have Hx := Lib.hid hx
                    have Hy := Lib.hid hy
                    have hlm : q < is'.length := by have := E5.out; omega
                    clear hx hy
                    cases hq' : eqI ⟨yt, ((yr, yi), ys), yx⟩ ⟨zt, ((zr, zi), zs), zx⟩ with
                    | true =>
                      go_wp2_with fail
                      refine region_text [([0, 1, 2, 3, 4, 5, 6, 7, 8, 9, 10], false)] mixed (by kernel_rfl) ?_
                      simp only [wpSegs, List.map_cons, List.map_nil, List.getD_cons_succ, List.getD_cons_zero]
                      go_wp2_with fail
                      refine And.intro (by kernel_rfl) ?_
                      go_wp2_with fail
                      go_roundw
                      case rel => exact ⟨q + 1, by omega, by go_num, Lib.hid (by rw [take_snoc' Hx.out, take_snoc' Hy.out, hle.out, (eqI_iff _ _).1 hq']), Lib.hid (E.out.step (Below.refl _ _).drew)⟩
                      case measure => simp [intOf]; omega
                    | false =>
                      have He := Lib.hid (show ¬ is = is' by intro e; subst e; have := Hx.out.symm.trans Hy.out; rw [Option.some.injEq, ← eqI_iff, hq'] at this; cases this)
                      go_wp2_with fail
                      refine region_text [([0, 1, 2, 3, 4, 5, 6, 7, 8, 9, 10], false)] mixed (by kernel_rfl) ?_
                      simp only [wpSegs, List.map_cons, List.map_nil, List.getD_cons_succ, List.getD_cons_zero]
                      go_wp2_with fail
                      refine And.intro (by kernel_rfl) ?_
                      go_wp2_with fail
                      go_ret
                      exact ⟨false, rfl, ⟨fun h => (by cases h), fun h => absurd (show is = is' from congrArg Lf.items h) He.out⟩, E.out.bel.drew⟩
                  · have EI := Lib.hid (show is = is' from take_ext q E5.out (by omega) hle.out)
                    go_wp2_with fail
                    go_loopw [6] (fun j wr => ∃ q : Nat, q ≤ ts.length ∧ j = .int .i64 q ∧ Hid (ts.take q = ts'.take q) ∧ Hid (SM w (lcells ⟨k, n, t, ((r, i), s), x, is, ts⟩ ia ic ta tc) (lcells ⟨k', n', t', ((r', i'), s'), x', is', ts'⟩ ja jc ua uc) wr)) (fun j _ => ts.length - (intOf j).toNat)
                    case atStart => exact ⟨0, Nat.zero_le _, rfl, Lib.hid (by simp), E⟩
                    case round =>
                      clear E d0 d1 hlt hq hle
                      obtain ⟨q, hq, rfl, hle, hE⟩ := hrel
                      have E := Lib.hid hE.out
                      have d0 := cells_at E.out.g
                      have d1 := cells_at E.out.h
                      simp only [lcells] at d0 d1
                      clear hE
                      by_cases hlt : q < ts.length
                      · obtain ⟨⟨⟨yr, yi⟩, ys⟩, hx⟩ : ∃ x, ts[q]? = some x := ⟨ts[q], by simp [hlt]⟩
                        obtain ⟨⟨⟨zr, zi⟩, zs⟩, hy⟩ : ∃ y, ts'[q]? = some y := ⟨ts'[q]'(by have := E6.out; omega), List.getElem?_eq_getElem _⟩
                        obtain ⟨ad, had, c0, c1, c2, hl0⟩ := (Hl.out.tms.below E.out.bel).at hx
                        obtain ⟨ae, hae, e0, e1, e2, hl1⟩ := (Hm.out.tms.below E.out.bel).at hy
                        subst had hae
                        dsimp only at c0 c1 c2 e0 e1 e2
                        have Hx := Lib.hid hx
                        have Hy := Lib.hid hy
                        have hlm : q < ts'.length := by have := E6.out; omega
                        clear hx hy
                        cases hq' : eqD ((yr, yi), ys) ((zr, zi), zs) with
                        | true =>
                          go_wp2_with fail
                          refine region_text [([0, 1, 2, 3, 4, 5, 6, 7, 8, 9, 10], false)] mixed (by kernel_rfl) ?_
                          simp only [wpSegs, List.map_cons, List.map_nil, List.getD_cons_succ, List.getD_cons_zero]
                          go_wp2_with fail
                          refine And.intro (by kernel_rfl) ?_
                          go_wp2_with fail
                          go_roundw
                          case rel => exact ⟨q + 1, by omega, by go_num, Lib.hid (by rw [take_snoc' Hx.out, take_snoc' Hy.out, hle.out, (eqD_iff _ _).1 hq']), Lib.hid (E.out.step (Below.refl _ _).drew)⟩
                          case measure => simp [intOf]; omega
                        | false =>
                          have He := Lib.hid (show ¬ ts = ts' by intro e; subst e; have := Hx.out.symm.trans Hy.out; rw [Option.some.injEq, ← eqD_iff, hq'] at this; cases this)
                          go_wp2_with fail
                          refine region_text [([0, 1, 2, 3, 4, 5, 6, 7, 8, 9, 10], false)] mixed (by kernel_rfl) ?_
                          simp only [wpSegs, List.map_cons, List.map_nil, List.getD_cons_succ, List.getD_cons_zero]
                          go_wp2_with fail
                          refine And.intro (by kernel_rfl) ?_
                          go_wp2_with fail
                          go_ret
                          exact ⟨false, rfl, ⟨fun h => (by cases h), fun h => absurd (show ts = ts' from congrArg Lf.tombs h) He.out⟩, E.out.bel.drew⟩
                      · have ET := Lib.hid (show ts = ts' from take_ext q E6.out (by omega) hle.out)
                        go_wp2_with fail
                        go_ret
                        exact ⟨true, rfl, true_iff' (Lf.ext' E0.out E1.out E2.out E3.out E4.out EI.out ET.out), E.out.bel⟩
end Go.Proofs.YthdmoplclllhjaaGreat

/- TrS -/
namespace Go.Proofs.YthdmoplclllhjaaGreat
open Go.RowKit
set_option linter.unusedVariables false
set_option linter.unusedSimpArgs false

set_option maxRecDepth 100000 in
set_option maxHeartbeats 16000000 in
theorem sameTr_any (n : Nat) : ∀ (m m' : Nat) (a a' : Option Addr) (c c' : Nat) (T U : List Nd) (w : World), TrRd w m a c T → TrRd w m' a' c' U → BdA 1100000 n T → sameT n T U →
    Calls Tryz.prog 110 #[.slice a T.length c, .slice a' U.length c'] w fun e w' => e = .returned (.bool true) ∧ Below w.heap.size w w' := by
  induction n with
  | zero =>
    intro m m' a a' c c' T U w hT hU hB hs
    obtain ⟨rfl, rfl⟩ := hs
    clear hT hU hB
    go_enter Tryz.func110, Tryz.ntmps110
    go_wp2_with fail
    refine wp_loop_rounds 1 ?_
    rw [rounds_succ]
    go_wp2_with fail
    go_ret
    exact ⟨rfl, Below.refl _ _⟩
  | succ n ih =>
    intro m m' a a' c c' T U w hT hU hB hs
    have HT := Lib.hid hT
    have HU := Lib.hid hU
    have HBd := Lib.hid hB
    have Hs := Lib.hid hs
    have hcap := hT.sl.2.2.1
    have hlen := hT.sl.2.1
    have hll := hs.1
    rw [← hll]
    have Hll := Lib.hid hll
    unfold maxLen at hcap
    clear hT hU hB hs hll
    go_enter Tryz.func110, Tryz.ntmps110
    go_wp2_with fail
    go_loopw [5] (fun j wr => ∃ q : Nat, q ≤ T.length ∧ j = .int .i64 q ∧ Hid (Below w.heap.size w wr)) (fun j _ => T.length - (intOf j).toNat)
    case atStart => exact ⟨0, Nat.zero_le _, rfl, Lib.hid (Below.refl _ _)⟩
    case round =>
      obtain ⟨q, hq, rfl, B⟩ := hrel
      by_cases hlt : q < T.length
      · obtain ⟨x, hx⟩ : ∃ x, T[q]? = some x := ⟨T[q], by simp [hlt]⟩
        obtain ⟨y, hy⟩ : ∃ y, U[q]? = some y := ⟨U[q]'(by rw [← Hll.out]; exact hlt), by simp⟩
        cases m with
        | zero => exact absurd HT.out.1 (by intro e; rw [e] at hlt; cases hlt)
        | succ m =>
        cases m' with
        | zero => exact absurd HU.out.1 (by intro e; rw [e] at hy; cases hy)
        | succ m' =>
        obtain ⟨hn, hls, hks⟩ := Hs.out.2 q x y hx hy
        obtain ⟨HLx, HKx⟩ := HT.out.2 x (List.mem_of_getElem? hx)
        obtain ⟨HLy, HKy⟩ := HU.out.2 y (List.mem_of_getElem? hy)
        obtain ⟨b1, b2, b3⟩ := HBd.out.2 x (List.mem_of_getElem? hx)
        have HB3 := Lib.hid b3
        have HB2 := Lib.hid b2
        have hlsl : y.ls.length = x.ls.length := by have h1 := congrArg List.length hls; simpa using h1.symm
        have HLS := Lib.hid hls
        have HKS := Lib.hid hks
        have HX1 := Lib.hid HLx
        have HX2 := Lib.hid HKx
        have HY1 := Lib.hid HLy
        have HY2 := Lib.hid HKy
        have HXX : Hid (∀ W, Below w.heap.size w W → ∃ ad, a = some ad ∧ NdAt W (ad.add (q * 3)) x ∧ ad.block < W.heap.size) := Lib.hid (fun W hW => nds_at (HT.out.below hW).sl hx)
        have HYY : Hid (∀ W, Below w.heap.size w W → ∃ ad, a' = some ad ∧ NdAt W (ad.add (q * 3)) y ∧ ad.block < W.heap.size) := Lib.hid (fun W hW => nds_at (HU.out.below hW).sl hy)
        have BD := Lib.hid (show Below w.heap.size w wr.drew from B.out.trans (((Below.refl wr.heap.size wr).drew).mono B.out.size))
        obtain ⟨ad, had, ⟨c0, c1, c2⟩, hlb⟩ := HXX.out wr B.out
        obtain ⟨ae, hae, ⟨e0, e1, e2⟩, hlb2⟩ := HYY.out wr B.out
        rw [← hn] at e0
        rw [hlsl] at e1
        subst had
        subst hae
        have Hlsl := Lib.hid hlsl
        clear hx hy hn hls hks HLx HKx HLy HKy b2 b3 hlsl
        go_wp2_with fail
        refine region_text [([0, 1, 2, 3, 4, 5, 6, 7, 8, 9, 10, 11, 12, 13, 14, 15, 16, 17, 18, 19, 20, 21, 22, 23, 24, 25, 26, 27, 28, 29, 30, 31, 32, 33, 34, 35, 36, 37, 38, 39], false)] mixed (by kernel_rfl) ?_
        simp only [wpSegs, List.map_cons, List.map_nil, List.getD_cons_succ, List.getD_cons_zero]
        go_wp2_with fail
        refine (ih m m' x.ba y.ba x.bc y.bc x.kids y.kids _ (HX2.out.below BD.out) (HY2.out.below BD.out) HB3.out HKS.out).mono ?_
        rintro e w2 ⟨rfl, hb⟩
        have B2 := Lib.hid (below2 BD.out hb BD.out.size)
        clear hb c0 c1 c2 e0 e1 e2 hlb hlb2
        go_wp2_with fail
        refine And.intro (by kernel_rfl) ?_
        go_wp2_with fail
        generalize hxl : x.ls.length = xl
        have hxl9 : xl ≤ 2000000 := by omega
        go_loopw [6] (fun j wx => ∃ r : Nat, r ≤ xl ∧ j = .int .i64 r ∧ Hid (Below w.heap.size w wx)) (fun j _ => xl - (intOf j).toNat)
        case atStart => exact ⟨0, Nat.zero_le _, rfl, B2⟩
        case round =>
          obtain ⟨r, hr, rfl, G⟩ := hrel
          clear B2
          obtain ⟨ad1, had, ⟨c0, c1, c2⟩, hlb⟩ := HXX.out wr G.out
          obtain ⟨ae1, hae, ⟨e0, e1, e2⟩, hlb2⟩ := HYY.out wr G.out
          obtain rfl := Option.some.inj had
          obtain rfl := Option.some.inj hae
          rw [Hlsl.out, hxl] at e1
          rw [hxl] at c1
          clear had hae c0 c2 e0 e2
          by_cases hrl : r < xl
          · obtain ⟨u, hu⟩ : ∃ u, x.ls[r]? = some u := ⟨x.ls[r]'(by omega), by simp⟩
            obtain ⟨v, hv⟩ : ∃ v, y.ls[r]? = some v := ⟨y.ls[r]'(by rw [Hlsl.out]; omega), by simp⟩
            have huv : u.l = v.l := by
              have h1 : (x.ls.map (·.l))[r]? = some u.l := by rw [List.getElem?_map, hu]; rfl
              have h2 : (y.ls.map (·.l))[r]? = some v.l := by rw [List.getElem?_map, hv]; rfl
              rw [HLS.out, h2] at h1
              exact (Option.some.inj h1).symm
            have Huv := Lib.hid huv
            obtain ⟨i1, i2⟩ := HB2.out u (List.mem_of_getElem? hu)
            have LU := (HX1.out.below G.out).2 u (List.mem_of_getElem? hu)
            have LV := (HY1.out.below G.out).2 v (List.mem_of_getElem? hv)
            have HLU := Lib.hid (show LfAt wr u.l u.ia u.ic u.ta u.tc from ⟨LU.1.its, LU.1.tms, i1, i2⟩)
            have HLV := Lib.hid (show LfAt wr v.l v.ia v.ic v.ta v.tc from ⟨LV.1.its, LV.1.tms, by rw [← huv]; exact i1, by rw [← huv]; exact i2⟩)
            obtain ⟨al, hal, ⟨f0, f1, f2, f3, f4, f5, f6, f7, f8⟩, hlb3⟩ := (HX1.out.below G.out).at hu
            obtain ⟨am, ham, ⟨g0, g1, g2, g3, g4, g5, g6, g7, g8⟩, hlb4⟩ := (HY1.out.below G.out).at hv
            rw [hal] at c1
            rw [ham] at e1
            have GD := Lib.hid (show Below w.heap.size w wr.drew from G.out.trans (((Below.refl wr.heap.size wr).drew).mono G.out.size))
            clear hu hv huv LU LV i1 i2 hxl
            go_wp2_with fail
            refine region_text [([0, 1, 2, 3, 4, 5, 6, 7, 8, 9, 10, 11, 12, 13, 14, 15, 16, 17], false)] mixed (by kernel_rfl) ?_
            simp only [wpSegs, List.map_cons, List.map_nil, List.getD_cons_succ, List.getD_cons_zero]
            go_wp2_with fail
            refine (rsameL_any u.l v.l u.ia u.ta v.ia v.ta u.ic u.tc v.ic v.tc _ (HLU.out.below (Below.refl _ _).drew) (HLV.out.below (Below.refl _ _).drew)).mono ?_
            rintro e w3 ⟨z, rfl, hz, hb⟩
            obtain rfl : z = true := hz.2 Huv.out
            have G3 := Lib.hid (below2 GD.out hb GD.out.size)
            clear hb hz c1 e1 f0 f1 f2 f3 f4 f5 f6 f7 f8 g0 g1 g2 g3 g4 g5 g6 g7 g8 hal ham
            go_wp2_with fail
            refine And.intro (by kernel_rfl) ?_
            go_wp2_with fail
            go_roundw
            case rel => exact ⟨r + 1, by omega, by go_num, G3⟩
            case measure => simp [intOf]; omega
          · go_wp2_with fail
            go_roundw
            case rel => exact ⟨q + 1, by omega, by go_num, G⟩
            case measure => simp [intOf]; omega
      · go_wp2_with fail
        go_ret
        exact ⟨rfl, B.out⟩
end Go.Proofs.YthdmoplclllhjaaGreat

/- SamB -/
namespace Go.Proofs.YthdmoplclllhjaaGreat
open Go.RowKit
set_option linter.unusedVariables false
set_option linter.unusedSimpArgs false

set_option maxRecDepth 100000 in
set_option maxHeartbeats 8000000 in
theorem sameBase_any (u v : Bw) (m m' : Nat) (w : World) (hu : BwAt w m u) (hv : BwAt w m' v) (hs : SameBw u.b v.b) (hB : BdA 1100000 3 u.b.tr) (hf : u.b.f.length ≤ 1100000) (ht : u.b.tips.length ≤ 1100000) :
    Calls Tryz.prog 38 #[.agg (bwcells u), .agg (bwcells v)] w fun e w' => e = .returned (.bool true) ∧ Below w.heap.size w w' := by
  obtain ⟨⟨num, F, tips, t, tr⟩, fa, fc, ta, tc, ra, rc⟩ := u
  obtain ⟨⟨num', F', tips', t', tr'⟩, fa', fc', ta', tc', ra', rc'⟩ := v
  have HU := Lib.hid hu
  have HV := Lib.hid hv
  have HBd := Lib.hid hB
  have HT := Lib.hid hs.tr
  obtain rfl : num' = num := hs.num
  obtain rfl : F' = F := hs.f
  obtain rfl : tips' = tips := hs.tips
  obtain rfl : t' = t := hs.t
  dsimp only at hf ht
  have E : Hid (Below w.heap.size w ((w.alloc (.cells (basecells num' fa F'.length fc ta tips'.length tc t' ra tr.length rc) 28)).alloc (.cells (basecells num' fa' F'.length fc' ta' tips'.length tc' t' ra' tr'.length rc') 28)) ∧ ((w.alloc (.cells (basecells num' fa F'.length fc ta tips'.length tc t' ra tr.length rc) 28)).alloc (.cells (basecells num' fa' F'.length fc' ta' tips'.length tc' t' ra' tr'.length rc') 28)).heap[w.heap.size]? = some (.cells (basecells num' fa F'.length fc ta tips'.length tc t' ra tr.length rc) 28 (0, 0)) ∧ ((w.alloc (.cells (basecells num' fa F'.length fc ta tips'.length tc t' ra tr.length rc) 28)).alloc (.cells (basecells num' fa' F'.length fc' ta' tips'.length tc' t' ra' tr'.length rc') 28)).heap[w.heap.size + 1]? = some (.cells (basecells num' fa' F'.length fc' ta' tips'.length tc' t' ra' tr'.length rc') 28 (0, 0))) :=
    Lib.hid ⟨((Below.refl _ _).alloc (Nat.le_refl _) _).alloc (by simp) _, (heap_old _ _ (by simp)).trans (heap_new _ _), heap_new2 _ _ _⟩
  clear hu hv hs hB
  simp only [bwcells]
  go_enter Tryz.func38, Tryz.ntmps38
  go_upto_region 1 with (fail)
  generalize ((w.alloc (.cells (basecells num' fa F'.length fc ta tips'.length tc t' ra tr.length rc) 28)).alloc (.cells (basecells num' fa' F'.length fc' ta' tips'.length tc' t' ra' tr'.length rc') 28)) = wa at E ⊢
  have d0 := cells_at E.out.2.1
  have d1 := cells_at E.out.2.2
  have z0 := heap_lt E.out.2.1
  have z1 := heap_lt E.out.2.2
  simp only [basecells] at d0 d1
  go_wp2_with fail
  refine (same_any fa fa' fc fc' F' F' _ (HU.out.f.below E.out.1) (HV.out.f.below E.out.1) hf hf).mono ?_
  rintro e w1 ⟨rfl, hb1⟩
  have B1 := Lib.hid (below2 E.out.1 hb1 E.out.1.size)
  have F1 := Lib.hid ((hb1.block _ z0).trans E.out.2.1)
  have G1 := Lib.hid ((hb1.block _ z1).trans E.out.2.2)
  clear hb1 E d0 d1 z0 z1
  have d0 := cells_at F1.out
  have d1 := cells_at G1.out
  have z0 := heap_lt F1.out
  have z1 := heap_lt G1.out
  simp only [basecells] at d0 d1
  have x2 : decide (F' = F') = true := decide_eq_true rfl
  go_wp2_with fail
  refine (same_any ta ta' tc tc' tips' tips' _ (HU.out.tips.below B1.out) (HV.out.tips.below B1.out) ht ht).mono ?_
  rintro e w2 ⟨rfl, hb1⟩
  have B2 := Lib.hid (below2 B1.out hb1 B1.out.size)
  have F2 := Lib.hid ((hb1.block _ z0).trans F1.out)
  have G2 := Lib.hid ((hb1.block _ z1).trans G1.out)
  clear hb1 d0 d1 z0 z1 B1 F1 G1
  have d0 := cells_at F2.out
  have d1 := cells_at G2.out
  have z0 := heap_lt F2.out
  have z1 := heap_lt G2.out
  simp only [basecells] at d0 d1
  have x3 : decide (tips' = tips') = true := decide_eq_true rfl
  go_wp2_with fail
  refine (sameTr_any 3 m m' ra ra' rc rc' tr tr' _ (HU.out.tr.below B2.out) (HV.out.tr.below B2.out) HBd.out HT.out).mono ?_
  rintro e w3 ⟨rfl, hb1⟩
  have B3 := Lib.hid (below2 B2.out hb1 B2.out.size)
  clear hb1
  go_wp2_with fail
  go_ret
  exact ⟨rfl, B3.out⟩
theorem sameT.symm : ∀ {n : Nat} {T U : List Nd}, sameT n T U → sameT n U T
  | 0, _, _, h => ⟨h.2, h.1⟩
  | n + 1, _, _, h => ⟨h.1.symm, fun i x y hx hy => by
      obtain ⟨h1, h2, h3⟩ := h.2 i y x hy hx
      exact ⟨h1.symm, h2.symm, sameT.symm h3⟩⟩
theorem sameT.trans : ∀ {n : Nat} {T U V : List Nd}, sameT n T U → sameT n U V → sameT n T V
  | 0, _, _, _, h, k => ⟨h.1, k.2⟩
  | n + 1, T, U, V, h, k => ⟨h.1.trans k.1, fun i x z hx hz => by
      have hi := (List.getElem?_eq_some_iff.1 hx).1
      have hy : U[i]? = some (U[i]'(by rw [← h.1]; exact hi)) := List.getElem?_eq_getElem _
      obtain ⟨a1, a2, a3⟩ := h.2 i x _ hx hy
      obtain ⟨b1, b2, b3⟩ := k.2 i _ z hy hz
      exact ⟨a1.trans b1, a2.trans b2, sameT.trans a3 b3⟩⟩
theorem SameBw.symm {u v : Bs} (h : SameBw u v) : SameBw v u := ⟨h.num.symm, h.f.symm, h.tips.symm, h.t.symm, h.tr.symm⟩
theorem SameBw.trans {u v x : Bs} (h : SameBw u v) (k : SameBw v x) : SameBw u x := ⟨k.num.trans h.num, k.f.trans h.f, k.tips.trans h.tips, k.t.trans h.t, h.tr.trans k.tr⟩
end Go.Proofs.YthdmoplclllhjaaGreat
