/- graph.knows: contract. -/
import Derived.Test.YthdmoplclllhjaaGreatGraD
namespace Go.Proofs.YthdmoplclllhjaaGreat
open Go.RowKit
set_option linter.unusedVariables false
set_option linter.unusedSimpArgs false

theorem append_two {P : Program} (t u ty e e' : TypeId) (ht : P.underlying t = some (.slice e)) (hu : P.underlying u = some (.slice e')) (i : TypeInfo) (hi : P.info? e = some i) (va : Option Addr) (n c : Nat) (x : Value) (w : World) :
    (Builtin.append_ #[t, u] ty #[.slice va n c, x]).run P w = (Builtin.append_ #[t, t] ty #[.slice va n c, x]).run P w := by
  simp [Builtin.append_, run_underlying ht, run_underlying hu, sizeOf, typeInfo, hi]
section
variable {ops : Array Oper} {rest : List Oper} {o : Oper} {a : Act} {Q : Exit → Act → World → Prop} {w : World}
theorem wpList_appVD (hgd : o.guard = none) (s x : Operand) (ho : o.op = .call { callee := .builtin .append, args := #[s, x], argTypes := #[24, 23] })
    (base : Nat) (va : Option Addr) (vc : Nat) (v : List Dt) (hs : a.eval s = .slice va v.length vc) (hown : OwnD w base va vc v)
    (sa : Option Addr) (c : Nat) (u : List Dt) (hx : a.eval x = .slice sa u.length c) (hsl : Vec w sa c u) (hn : v.length + u.length ≤ 3000000) (hbase : base ≤ w.heap.size)
    (h : ∀ v' a' c' w', v' = v ++ u → OwnD w' base a' c' v' → Below base w w' → Chg (ob va) w w' → wpList Tryz.prog ops Q rest (a.put o.dst (.slice a' (List.length v') c')) w') : wpList Tryz.prog ops Q (o :: rest) a w := by
  obtain ⟨i0, hi0, hz0, hz1, hz2⟩ := info_parts Tryz.info_dot
  obtain ⟨a', c', w', hr, h2, h3, h4⟩ := run_append_sl (P := Tryz.prog) w 24 o.type base 41 i0 (.agg #[.int .u8 0, .int .u32 0, .int .u64 0]) 3 16 Tryz.underlying24 hi0 hz0 hz1 hz2 rfl (by decide) va v.length vc (dcells v) hown sa u.length c (dcells u) hsl (dcells_one u) (by unfold maxLen; omega) (by omega) hbase
  rw [← append_two 24 23 _ _ _ Tryz.underlying24 Tryz.underlying23 i0 hi0] at hr
  refine wpList_plain hgd fun K hK => ?_
  unfold Oper.wp
  simp only [execOp, ho, resolve, invoke, builtin, Sem.run_bind, Sem.run_pure, Result.andThen_ok, List.map_toArray, List.map_cons, List.map_nil, hs, hx, hr]
  have := h (v ++ u) a' c' w' rfl (by unfold OwnD; rw [dcells_append, List.length_append]; exact h2) (h3.below hbase fun k hk => (owns_lt hown k hk).1) h3
  rw [List.length_append] at this
  exact hK _ _ this
end
theorem field_cvv (a b c d e f g h i j k : Value) (w : World) : (Instr.field 46 (.agg #[a, b, c, d, e, f, g, h, i, j, k]) 2).run Tryz.prog w = .ok e w := by kernel_rfl
attribute [go_sem] field_cvv
theorem OwnD.one (w : World) {base : Nat} (h : base ≤ w.heap.size) (r i s : Int) : OwnD (w.alloc (.cells #[.int .u8 r, .int .u32 i, .int .u64 s] 41)) base (some ⟨w.heap.size, 0, none⟩) 1 [((r, i), s)] :=
  ⟨rfl, .inr ⟨w.heap.size, 1, #[.int .u8 r, .int .u32 i, .int .u64 s], rfl, h, heap_new w _, Nat.le_refl _, by decide, rfl, rfl⟩⟩
def KnTo (w : World) (F : List Dt) (fd : Fd) (c : Cm) (e : Ending) (w' : World) : Prop := ∃ K, (∀ x, getN K x = knN F fd c c.ps x) ∧ okV K ∧ K.length ≤ 64 ∧ VecTo w K e w'
def JKn (w : World) (C : Array Value) (F : List Dt) (fd : Fd) (c : Cm) (kv j : Value) (wr : World) : Prop :=
  ∃ (q : Nat) (ka : Option Addr) (kc : Nat) (K : List Dt), q ≤ c.ps.length ∧ j = .int .i64 q ∧ kv = .slice ka (List.length K) kc ∧ OwnD wr w.heap.size ka kc K ∧ okV K ∧ K.length ≤ 64 ∧ (∀ x, getN K x = knN F fd c (c.ps.take q) x) ∧ CmE w wr C
theorem GrAt.look1 {w W : World} {pg mb : Nat} {w0 : World} {m : Nat} {b : Bw} {L : List Cw} {va : Option Addr} {vc : Nat} {vv : List Dt} (h : GrAt w pg mb w0 m b L va vc vv) (hb : Below w.heap.size w W) {r i s : Int} (hd : okD ((r, i), s)) {o : Option Cw} (hf : fdW L ((r, i), s) = o) :
    (Instr.lookup 77 (.map (some mb)) (.agg #[.int .u8 r, .int .u32 i, .int .u64 s]) false).run Tryz.prog W = .ok (.agg (cwcells (o.getD zeroCw))) W := by
  rw [(h.below hb).map.look Tryz.underlying77 zeroCommit hd, fvW, hf]
  cases o <;> rfl
theorem knN_next (F : List Dt) (fd : Fd) (c : Cm) {q : Nat} {p : Dt} (h : c.ps[q]? = some p) (x : Ac) : knN F fd c (c.ps.take (q + 1)) x = max (knN F fd c (c.ps.take q) x) (getN (vvOf (fd p)) x) := by
  rw [take_snoc' h, knN_snoc]
set_option maxRecDepth 100000 in
set_option maxHeartbeats 8000000 in
theorem knows_G (pg mb : Nat) (w0 : World) (m : Nat) (b : Bw) (L : List Cw) (va : Option Addr) (vc : Nat) (vv : List Dt) (v : Cw) (w : World) (h : GrAt w pg mb w0 m b L va vc vv) (hv : CwAt w v) (hn : v.c.vv.length ≤ 100000) (hm : v.c.ps.length ≤ 100000) :
    Calls Tryz.prog 74 #[.pointer (some ⟨pg, 0, none⟩), .agg (cwcells v)] w (KnTo w b.b.f (findC (cms L)) v.c) := by
  obtain ⟨⟨⟨⟨r, i⟩, s⟩, ps, uu, t, ⟨k, n, x, p, ds⟩⟩, qa, qc, ua, uc, pa, pc, da, dc⟩ := v
  have H := Lib.hid h
  have HV := Lib.hid hv
  have g0 := cells_at h.blk
  simp only [gcells] at g0
  have hpg := heap_lt h.blk
  dsimp only at hn hm
  have hsz : Below w.heap.size w (w.alloc (.cells (ccells r i s qa ps.length qc ua uu.length uc t k pa p.length pc n x da ds.length dc) 46)) := (Below.refl _ _).alloc (Nat.le_refl _) _
  have HS := Lib.hid hsz
  clear h hv hsz
  simp only [cwcells]
  go_enter Tryz.func74, Tryz.ntmps74
  go_wp2_with fail
  refine region_tree (.seg [0, 1, 2, 3, 4, 5, 6, 8, 9, 11, 12] false (.fork (.seg [7] true (.seg [10, 13, 14, 15] false .done)) (.seg [10] false (.seg [7] true (.seg [13, 14, 15] false .done))))) mixed (by kernel_rfl) ?_
  simp only [wpSg, List.map_cons, List.map_nil, List.getD_cons_succ, List.getD_cons_zero]
  go_wp2_with fail
  refine And.intro ?ordA ?ordB
  case' ordA =>
    go_wp2_with fail
    refine (meet_any ua b.fa uc b.fc uu b.b.f _ (HV.out.vv.below HS.out.drew) (H.out.fvec.below HS.out.drew) HV.out.ok.vv H.out.base.okf (by omega) (by have := H.out.fmax; omega)).mono ?_
    rintro e w1 ⟨a1, c1, rfl, hown, hb1⟩
    have Hb1 := Lib.hid hb1
    have E : Hid (CmE w w1 (ccells r i s qa ps.length qc ua uu.length uc t k pa p.length pc n x da ds.length dc)) := Lib.hid (CmE.of (((Below.refl _ _).drew).trans hb1))
    have Hown := Lib.hid hown
    clear hown hb1
    go_wp2_with fail
    refine And.intro (Agree.of_below Hb1.out) ?_
    go_wp2_with (at_builtin; go_must (refine wpList_appVD rfl _ _ rfl w1.heap.size (some ⟨w1.heap.size, 0, none⟩) 1 [((r, i), s)] rfl (OwnD.one w1 (Nat.le_refl _) r i s) qa qc ps rfl ((HV.out.ps.below E.out.bel).below ((Below.refl _ _).alloc (Nat.le_refl _) _)) ?n1 ?b1 ?_))
    case n1 => simp; omega
    case b1 => simp
    intro v' a' c' w2 hv' ho2 hb2 _
    have HB2 := Lib.hid hb2
    have Ho2 := Lib.hid ho2
    have Hv' := Lib.hid hv'
    have hl' : v'.length ≤ 200000 := by rw [hv']; simp; omega
    clear hv' ho2 hb2
    have hok' : okV v' := by
      rw [Hv'.out]; intro y hy
      rcases List.mem_cons.1 hy with rfl | hy
      · exact HV.out.ok.d
      · exact HV.out.ok.ps y hy
    have hW : Below w1.heap.size w1 w2 := ((Below.refl _ _).alloc (Nat.le_refl _) _).trans HB2.out
    have HW := Lib.hid hW
    clear hW
    go_wp2_with fail
    refine (join_any a1 a' c1 c' (meetV uu b.b.f) v' _ ((vec_of Hown.out).below HW.out) Ho2.out.vec (okV_meetV HV.out.ok.vv H.out.base.okf) hok' (by have := vecOf_length (fun x => min (getN uu x) (getN b.b.f x)); unfold meetV; omega) (by omega)).mono ?_
    rintro e w4 ⟨a3, c3, rfl, hown3, hb3⟩
    have E4 : Hid (CmE w w4 (ccells r i s qa ps.length qc ua uu.length uc t k pa p.length pc n x da ds.length dc)) := Lib.hid ((E.out.step HW.out).step hb3)
    obtain ⟨K0, hK0⟩ : ∃ K0, K0 = joinV (meetV uu b.b.f) v' := ⟨_, rfl⟩
    rw [← hK0] at hown3 ⊢
    have Own4 := Lib.hid (show OwnD w4 w.heap.size a3 c3 K0 from owns_base hown3 (by have := E.out.bel.size; have := HW.out.size; omega))
    have HN : Hid (∀ y, getN K0 y = knN b.b.f (findC (cms L)) ⟨((r, i), s), ps, uu, t, ⟨k, n, x, p, ds⟩⟩ (ps.take 0) y) := Lib.hid (fun y => by
      rw [hK0, getN_joinV (okV_meetV HV.out.ok.vv H.out.base.okf) hok', getN_meetV HV.out.ok.vv H.out.base.okf, Hv'.out]; rfl)
    have HK : Hid (okV K0 ∧ K0.length ≤ 64) := Lib.hid ⟨by rw [hK0]; exact okV_joinV (okV_meetV HV.out.ok.vv H.out.base.okf) hok', by rw [hK0]; exact vecOf_length _⟩
    have d0 := cells_at E4.out.blk
    simp only [ccells] at d0
    clear hown3 hb3 hl' hok' Hown Hb1 E HW HB2 Ho2 Hv' hK0
  case' ordB =>
    go_wp2_with fail
    have hW2 : Below w.heap.size w ((w.alloc (.cells (ccells r i s qa ps.length qc ua uu.length uc t k pa p.length pc n x da ds.length dc) 46)).alloc (.cells #[.int .u8 r, .int .u32 i, .int .u64 s] 41)).drew := (HS.out.alloc (by simp) _).drew
    refine (meet_any ua b.fa uc b.fc uu b.b.f _ (HV.out.vv.below hW2) (H.out.fvec.below hW2) HV.out.ok.vv H.out.base.okf (by omega) (by have := H.out.fmax; omega)).mono ?_
    rintro e w1 ⟨a1, c1, rfl, hown, hb1⟩
    have Hb1 := Lib.hid hb1
    have hb0 : Below (w.alloc (.cells (ccells r i s qa ps.length qc ua uu.length uc t k pa p.length pc n x da ds.length dc) 46)).heap.size (w.alloc (.cells (ccells r i s qa ps.length qc ua uu.length uc t k pa p.length pc n x da ds.length dc) 46)) ((w.alloc (.cells (ccells r i s qa ps.length qc ua uu.length uc t k pa p.length pc n x da ds.length dc) 46)).alloc (.cells #[.int .u8 r, .int .u32 i, .int .u64 s] 41)).drew := ((Below.refl _ _).alloc (Nat.le_refl _) _).drew
    have E : Hid (CmE w w1 (ccells r i s qa ps.length qc ua uu.length uc t k pa p.length pc n x da ds.length dc)) := Lib.hid (CmE.of (below2 hb0 hb1 hb0.size))
    have One : Hid (OwnD w1 w.heap.size (some ⟨w.heap.size + 1, 0, none⟩) 1 [((r, i), s)]) := Lib.hid (by
      have h1 := OwnD.one (w.alloc (.cells (ccells r i s qa ps.length qc ua uu.length uc t k pa p.length pc n x da ds.length dc) 46)) (base := w.heap.size) (by simp) r i s
      have h2 := OwnD.below (w' := w1) h1 (((Below.refl _ _).drew).trans hb1)
      simpa using h2)
    have Hown := Lib.hid hown
    clear hown hb1 hb0 hW2
    go_wp2_with fail
    refine And.intro (Agree.of_below Hb1.out) ?_
    go_wp2_with (at_builtin; go_must (refine wpList_appVD rfl _ _ rfl w.heap.size (some ⟨w.heap.size + 1, 0, none⟩) 1 [((r, i), s)] rfl One.out qa qc ps rfl (HV.out.ps.below E.out.bel) ?n1 ?b1 ?_))
    case n1 => simp; omega
    case b1 => exact E.out.bel.size
    intro v' a' c' w2 hv' ho2 hb2 hch
    have E2 : Hid (CmE w w2 (ccells r i s qa ps.length qc ua uu.length uc t k pa p.length pc n x da ds.length dc)) := Lib.hid ⟨heap_chg E.out.blk hch (by simp [ob]), E.out.bel.trans hb2⟩
    have Hown2 := Lib.hid (owns_chg Hown.out hch (fun k hk => by have h5 := (owns_lt Hown.out k hk).1; simp [ob] at h5 ⊢; omega))
    have HB2 := Lib.hid hb2
    have Ho2 := Lib.hid ho2
    have Hv' := Lib.hid hv'
    have hl' : v'.length ≤ 200000 := by rw [hv']; simp; omega
    clear hv' ho2 hb2
    have hok' : okV v' := by
      rw [Hv'.out]; intro y hy
      rcases List.mem_cons.1 hy with rfl | hy
      · exact HV.out.ok.d
      · exact HV.out.ok.ps y hy
    go_wp2_with fail
    refine (join_any a1 a' c1 c' (meetV uu b.b.f) v' _ (vec_of Hown2.out) Ho2.out.vec (okV_meetV HV.out.ok.vv H.out.base.okf) hok' (by have := vecOf_length (fun x => min (getN uu x) (getN b.b.f x)); unfold meetV; omega) (by omega)).mono ?_
    rintro e w4 ⟨a3, c3, rfl, hown3, hb3⟩
    have E4 : Hid (CmE w w4 (ccells r i s qa ps.length qc ua uu.length uc t k pa p.length pc n x da ds.length dc)) := Lib.hid (E2.out.step hb3)
    obtain ⟨K0, hK0⟩ : ∃ K0, K0 = joinV (meetV uu b.b.f) v' := ⟨_, rfl⟩
    rw [← hK0] at hown3 ⊢
    have Own4 := Lib.hid (show OwnD w4 w.heap.size a3 c3 K0 from owns_base hown3 (E2.out.bel.size))
    have HN : Hid (∀ y, getN K0 y = knN b.b.f (findC (cms L)) ⟨((r, i), s), ps, uu, t, ⟨k, n, x, p, ds⟩⟩ (ps.take 0) y) := Lib.hid (fun y => by
      rw [hK0, getN_joinV (okV_meetV HV.out.ok.vv H.out.base.okf) hok', getN_meetV HV.out.ok.vv H.out.base.okf, Hv'.out]; rfl)
    have HK : Hid (okV K0 ∧ K0.length ≤ 64) := Lib.hid ⟨by rw [hK0]; exact okV_joinV (okV_meetV HV.out.ok.vv H.out.base.okf) hok', by rw [hK0]; exact vecOf_length _⟩
    have d0 := cells_at E4.out.blk
    simp only [ccells] at d0
    clear hown3 hb3 hl' hok' Hown Hb1 E E2 One Hown2 HB2 Ho2 Hv' hK0
  all_goals
    go_wp2_with fail
    refine And.intro (by kernel_rfl) ?_
    go_wp2_with fail
    go_loopw [5, 26] (fun kv j wr => JKn w (ccells r i s qa ps.length qc ua uu.length uc t k pa p.length pc n x da ds.length dc) b.b.f (findC (cms L)) ⟨((r, i), s), ps, uu, t, ⟨k, n, x, p, ds⟩⟩ kv j wr) (fun _ j _ => ps.length - (intOf j).toNat)
    case atStart => exact ⟨0, a3, c3, K0, Nat.zero_le _, rfl, rfl, Own4.out, HK.out.1, HK.out.2, HN.out, E4.out⟩
    case round =>
      obtain ⟨q, ka, kc, K, hq, rfl, rfl, hown, hok, hlen, hN, hE⟩ := hrel
      dsimp only at hq
      clear E4 Own4 HN HK d0 g0
      have Own := Lib.hid hown
      have Hok := Lib.hid hok
      have Hlen := Lib.hid hlen
      have HN := Lib.hid hN
      have E := Lib.hid hE
      have HG := H.out.below hE.bel
      have g0 := cells_at HG.blk
      simp only [gcells] at g0
      have hpg1 := heap_lt HG.blk
      have d0 := cells_at hE.blk
      simp only [ccells] at d0
      have z0 := heap_lt hE.blk
      clear hown hok hlen hN hE HG
      by_cases hlt : q < ps.length
      · obtain ⟨⟨⟨r', i'⟩, s'⟩, hx⟩ : ∃ x, ps[q]? = some x := ⟨ps[q], by simp [hlt]⟩
        obtain ⟨ad, had, e0, e1, e2, hl0⟩ := (HV.out.ps.below E.out.bel).at hx
        have hokd : okD ((r', i'), s') := HV.out.ok.ps _ (List.mem_of_getElem? hx)
        dsimp only at had e0 e1 e2
        subst had
        have Hx := Lib.hid hx
        clear hx
        have hW : Below w.heap.size w (wr.alloc (.cells #[.int .u8 r', .int .u32 i', .int .u64 s'] 41)).drew := (E.out.bel.alloc E.out.bel.size _).drew
        have hW1 : Below wr.heap.size wr (wr.alloc (.cells #[.int .u8 r', .int .u32 i', .int .u64 s'] 41)).drew := ((Below.refl _ _).alloc (Nat.le_refl _) _).drew
        have HW1 := Lib.hid hW1
        cases hf : fdW L ((r', i'), s') with
        | none =>
          have l1 := H.out.look1 hW hokd hf
          have HW := Lib.hid hW
          have hfc : findC (cms L) ((r', i'), s') = none := by rw [← fdW_c, hf]; rfl
          have Hf := Lib.hid hfc
          simp only [Option.getD, zeroCw, zeroC, zeroD, zeroO, cwcells] at l1
          clear hf hfc hW hW1 hokd
          go_wp2_with fail
          refine region_text [([0, 1, 2, 3, 4, 5, 6, 7, 8, 9], false)] mixed (by kernel_rfl) ?_
          simp only [wpSegs, List.map_cons, List.map_nil, List.getD_cons_succ, List.getD_cons_zero]
          go_wp2_with fail
          refine (join_any ka none kc 0 K [] _ ((OwnD.vec Own.out).below HW1.out) (Sl.nil _ _) Hok.out (fun d hd => by cases hd) (by have := Hlen.out; omega) (by simp)).mono ?_
          rintro e w5 ⟨a5, c5, rfl, hown, hb⟩
          replace E := Lib.hid ((E.out.step HW1.out).step hb)
          have Own5 := Lib.hid (show OwnD w5 w.heap.size a5 c5 (joinV K []) from owns_base hown HW.out.size)
          clear hown hb l1 d0 g0 z0 hpg1 e0 e1 e2
          have HN5 : Hid (∀ y, getN (joinV K []) y = knN b.b.f (findC (cms L)) ⟨((r, i), s), ps, uu, t, ⟨k, n, x, p, ds⟩⟩ (ps.take (q + 1)) y) := Lib.hid (fun y => by
            have h1 := knN_next b.b.f (findC (cms L)) ⟨((r, i), s), ps, uu, t, ⟨k, n, x, p, ds⟩⟩ Hx.out y
            dsimp only at h1
            rw [h1, getN_joinV Hok.out (fun d hd => by cases hd), HN.out, Hf.out]; rfl)
          have Hok5 : Hid (okV (joinV K []) ∧ (joinV K []).length ≤ 64) := Lib.hid ⟨okV_joinV Hok.out (fun d hd => by cases hd), vecOf_length _⟩
          generalize joinV K [] = K5 at *
          go_wp2_with fail
          refine And.intro (by kernel_rfl) ?_
          go_wp2_with fail
          go_roundw
          case rel => exact ⟨q + 1, a5, c5, K5, by dsimp only; omega, by go_num, rfl, Own5.out, Hok5.out.1, Hok5.out.2, HN5.out, E.out⟩
          case measure => simp [intOf]; omega
        | some v1 =>
          obtain ⟨⟨⟨⟨r1, i1⟩, s1⟩, ps1, uu1, t1, ⟨k1, n1, x1, p1, ds1⟩⟩, qa1, qc1, ua1, uc1, pa1, pc1, da1, dc1⟩ := v1
          have l1 := H.out.look1 hW hokd hf
          have HW := Lib.hid hW
          have hfc : findC (cms L) ((r', i'), s') = some ⟨((r1, i1), s1), ps1, uu1, t1, ⟨k1, n1, x1, p1, ds1⟩⟩ := by rw [← fdW_c, hf]; rfl
          have Hf := Lib.hid hfc
          have hat := (H.out.each _ (fdW_some hf).1)
          have hmay := H.out.may _ (fdW_some hf).1
          have Hat := Lib.hid hat.at_
          have hcl := canon_few hmay.canon
          simp only [Option.getD, cwcells] at l1
          dsimp only at hcl
          clear hf hfc hW hW1 hokd hat hmay
          go_wp2_with fail
          refine region_text [([0, 1, 2, 3, 4, 5, 6, 7, 8, 9], false)] mixed (by kernel_rfl) ?_
          simp only [wpSegs, List.map_cons, List.map_nil, List.getD_cons_succ, List.getD_cons_zero]
          go_wp2_with fail
          refine (join_any ka ua1 kc uc1 K uu1 _ ((OwnD.vec Own.out).below HW1.out) (Hat.out.vv.below HW.out) Hok.out Hat.out.ok.vv (by have := Hlen.out; omega) (by omega)).mono ?_
          rintro e w5 ⟨a5, c5, rfl, hown, hb⟩
          replace E := Lib.hid ((E.out.step HW1.out).step hb)
          have Own5 := Lib.hid (show OwnD w5 w.heap.size a5 c5 (joinV K uu1) from owns_base hown HW.out.size)
          clear hown hb l1 d0 g0 z0 hpg1 e0 e1 e2
          have HN5 : Hid (∀ y, getN (joinV K uu1) y = knN b.b.f (findC (cms L)) ⟨((r, i), s), ps, uu, t, ⟨k, n, x, p, ds⟩⟩ (ps.take (q + 1)) y) := Lib.hid (fun y => by
            have h1 := knN_next b.b.f (findC (cms L)) ⟨((r, i), s), ps, uu, t, ⟨k, n, x, p, ds⟩⟩ Hx.out y
            dsimp only at h1
            rw [h1, getN_joinV Hok.out Hat.out.ok.vv, HN.out, Hf.out]; rfl)
          have Hok5 : Hid (okV (joinV K uu1) ∧ (joinV K uu1).length ≤ 64) := Lib.hid ⟨okV_joinV Hok.out Hat.out.ok.vv, vecOf_length _⟩
          generalize joinV K uu1 = K5 at *
          go_wp2_with fail
          refine And.intro (by kernel_rfl) ?_
          go_wp2_with fail
          go_roundw
          case rel => exact ⟨q + 1, a5, c5, K5, by dsimp only; omega, by go_num, rfl, Own5.out, Hok5.out.1, Hok5.out.2, HN5.out, E.out⟩
          case measure => simp [intOf]; omega
      · have hqq : q = ps.length := by omega
        have HF := Lib.hid (show ∀ y, getN K y = knN b.b.f (findC (cms L)) ⟨((r, i), s), ps, uu, t, ⟨k, n, x, p, ds⟩⟩ ps y from fun y => by have := HN.out y; dsimp only at this; rwa [List.take_of_length_le (by omega)] at this)
        go_wp2_with fail
        go_ret
        exact ⟨K, HF.out, Hok.out, Hlen.out, ka, kc, rfl, Own.out, E.out.bel⟩
end Go.Proofs.YthdmoplclllhjaaGreat
