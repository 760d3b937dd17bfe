/- varvelaw37.DigestLike: the walk. (printed by wip/tools/gendlk.py) -/
import Derived.Test.YtaandcblndldmaaGreatBo37
import Derived.Test.YtaandcblndldmaaGreatKno37
import Derived.Test.YtaandcblndldmaaGreatDigH
import Derived.Test.YtaandcblndldmaaGreatDigL
import Derived.Test.YtaandcblndldmaaGreatAudO
namespace Go.Proofs.YtaandcblndldmaaGreat
open Go.RowKit
set_option linter.unusedVariables false
set_option linter.unusedSimpArgs false

section
variable {w : World} {ops : Array Oper} {rest : List Oper} {o : Oper} {a : Act} {Q : Exit → Act → World → Prop}
theorem wpList_appCs (hgd : o.guard = none) (s x : Operand) (ho : o.op = .call { callee := .builtin .append, args := #[s, x], argTypes := #[33, 33] })
    (base : Nat) (va : Option Addr) (vc : Nat) (v : List Cw) (hs : a.eval s = .slice va v.length vc) (hown : OwnC w base va vc v)
    (sa : Option Addr) (c : Nat) (u : List Cw) (hx : a.eval x = .slice sa u.length c) (hsl : Sl w 11 sa u.length c (ccs u)) (hn : v.length + u.length ≤ 100000000) (hbase : base ≤ w.heap.size)
    (h : ∀ v' a' c' w', v' = v ++ u → OwnC w' base a' c' v' → Below base w w' → Chg (ob va) w w' → (∀ k ∈ ob a', k ∈ ob va ∨ w.heap.size ≤ k) → wpList Tryz.prog ops Q rest (a.put o.dst (.slice a' v'.length c')) w') : wpList Tryz.prog ops Q (o :: rest) a w := by
  obtain ⟨i0, hi0, hz0, hz1, hz2⟩ := info_parts Tryz.info_commit
  refine wpList_append_sl hgd s x 33 ho base 54 i0 _ 11 152 Tryz.underlying33 hi0 hz0 hz1 hz2 rfl (by decide) va v.length vc (ccs v) hs hown sa u.length c (ccs u) hx hsl (ccs_one u) (by unfold maxLen; omega) (by omega) hbase fun a' c' w' h1 h2 h3 => ?_
  have := h (v ++ u) a' c' w' rfl (by unfold OwnC; rw [ccs_append, List.length_append]; exact h1) (h2.below hbase fun k hk => (owns_lt hown k hk).1) h2 h3
  rwa [List.length_append] at this
end
theorem cw_one {w : World} {b : Nat} (v : Cw) (h : w.heap[b]? = some (.cells (cwcells v) 54 (0, 0))) : Sl w 11 (some ⟨b, 0, none⟩) 1 1 (ccs [v]) := by
  have h1 := Sl.blk (n := 1) (size := 11) h rfl (by decide)
  have e : (cwcells v).toList = ccs [v] := by simp [ccs, ccel, cwcells]
  rwa [e] at h1
/-- commits taken out of those handed in, in rows of one's own -/
structure Sm37 (w wr : World) (l : List Cw) (sa : Option Addr) (sc : Nat) (M : List Cw) : Prop where
  own : OwnC wr w.heap.size sa sc M
  each : ∀ v ∈ M, CwAt w v
  bel : Below w.heap.size w wr
theorem Sm37.below {w wr w' : World} {l : List Cw} {sa : Option Addr} {sc : Nat} {M : List Cw} (h : Sm37 w wr l sa sc M) (hb : Below wr.heap.size wr w') : Sm37 w w' l sa sc M := ⟨h.own.below hb, h.each, below2 h.bel hb h.bel.size⟩
theorem Sm37.cms {w wr : World} {l : List Cw} {sa : Option Addr} {sc : Nat} {M : List Cw} (h : Sm37 w wr l sa sc M) : Cms wr sa sc M := ⟨h.own.cms, fun v hv => (h.each v hv).below h.bel⟩
set_option maxRecDepth 100000 in
set_option maxHeartbeats 16000000 in
theorem digestLike_walk (v : Bw) (m : Nat) (la0 : Option Addr) (lc0 : Nat) (l : List Cw) (mk : Int) (w : World) (h : BwAt w m v) (hl : Cms w la0 lc0 l) (htp : v.b.tips.length ≤ 1100000) (hB : BdA 1100000 3 v.b.tr) (hsz : szT 10 v.b.tr ≤ 1100000) (hln : l.length ≤ 10000000) (hmk : 0 ≤ mk ∧ mk ≤ 65535) :
    Calls Tryz.prog 4 #[.agg (bwcells v), .slice la0 l.length lc0, .int .u16 mk] w (fun e w' => e = .returned (.bool true) ∧ Below w.heap.size w w') := by
  obtain ⟨⟨num, F, tips, t, tr⟩, fa, fc, ta, tc, ra, rc⟩ := v
  have H := Lib.hid h
  have HL := Lib.hid hl
  have HBd := Lib.hid hB
  have Hsz := Lib.hid hsz
  dsimp only at htp
  have hlc := hl.sl.2.1
  have E : Hid (BoxE 32 w (w.alloc (.cells (basecells num fa F.length fc ta tips.length tc t ra tr.length rc) 32)) (basecells num fa F.length fc ta tips.length tc t ra tr.length rc)) := Lib.hid ⟨heap_new _ _, (Below.refl _ _).alloc (Nat.le_refl _) _⟩
  have S0 : Hid (Sm37 w (w.alloc (.cells (basecells num fa F.length fc ta tips.length tc t ra tr.length rc) 32)) l none 0 []) := Lib.hid ⟨OwnC.nil _ _, fun u hu => (by cases hu), E.out.bel⟩
  clear h hl hB hsz
  simp only [bwcells]
  go_enter Tryz.func4, Tryz.ntmps4
  go_upto_region 2 with (fail)
  generalize (w.alloc (.cells (basecells num fa F.length fc ta tips.length tc t ra tr.length rc) 32)) = wa at E S0 ⊢
  go_wp2_with fail
  go_loopw [7, 27] (fun o j wr => ∃ (q : Nat) (M : List Cw) (sa : Option Addr) (sc : Nat), q ≤ l.length ∧ j = .int .i64 q ∧ o = .slice sa M.length sc ∧ M.length ≤ q ∧ Hid (BoxE 32 w wr (basecells num fa F.length fc ta tips.length tc t ra tr.length rc)) ∧ Hid (Sm37 w wr l sa sc M)) (fun _ j _ => l.length - (intOf j).toNat)
  case atStart => exact ⟨0, [], none, 0, Nat.zero_le _, rfl, rfl, Nat.le_refl _, E, S0⟩
  case round =>
    obtain ⟨q, M, sa, sc, hq, rfl, rfl, hMq, EB, SM⟩ := hrel
    clear E S0
    by_cases hql : q < l.length
    · obtain ⟨u, hu⟩ : ∃ u, l[q]? = some u := ⟨l[q], by simp [hql]⟩
      obtain ⟨ad, had, ⟨c0, c1, c2, c3, c4, c5, c6, c7, c8, c9, c10⟩, hlb⟩ := (HL.out.below SM.out.bel).at_ hu
      subst had
      have Hu := Lib.hid (HL.out.each u (List.mem_of_getElem? hu))
      obtain ⟨⟨⟨⟨r, i⟩, s⟩, ps, uu, t1, ⟨k, n, x9, p, ds⟩⟩, qa, qc, ua, uc, pa, pc, da, dc⟩ := u
      dsimp only at c0 c1 c2 c3 c4 c5 c6 c7 c8 c9 c10
      clear hu
      go_upto_region 5 with (fail)
      clear c0 c1 c2 c3 c4 c5 c6 c7 c8 c9 c10 hlb
      have hAl := (Below.refl wr.heap.size wr).alloc (Nat.le_refl _) (.cells (ccells r i s qa ps.length qc ua uu.length uc t1 k pa p.length pc n x9 da ds.length dc) 54)
      have EB1 := Lib.hid (EB.out.step hAl)
      have SM1 := Lib.hid (SM.out.below hAl)
      have CB := Lib.hid (heap_new wr (.cells (ccells r i s qa ps.length qc ua uu.length uc t1 k pa p.length pc n x9 da ds.length dc) 54 (0, 0)))
      clear hAl EB SM
      generalize (wr.alloc (.cells (ccells r i s qa ps.length qc ua uu.length uc t1 k pa p.length pc n x9 da ds.length dc) 54)) = wB at EB1 SM1 CB ⊢
      generalize wr.heap.size = cb at CB ⊢
      have e0 := cells_at CB.out
      simp only [ccells] at e0
      have ez := heap_lt CB.out
      have hrem : (0 : Int) ≤ (q : Int) % 16 := by omega
      cases hbit : (bits BinOp.and IntKind.u16 (mk / 2 ^ (q % 16)) 1 == (1 : Int)) with
      | false =>
        go_wp2_with fail
        go_roundw
        case rel => exact ⟨q + 1, M, sa, sc, by omega, by go_num, rfl, by omega, EB1, SM1⟩
        case measure => simp [intOf]; omega
      | true =>
        have hA2 := (Below.refl wB.heap.size wB).alloc (Nat.le_refl _) (.cells (ccells r i s qa ps.length qc ua uu.length uc t1 k pa p.length pc n x9 da ds.length dc) 54)
        have EB2 := Lib.hid (EB1.out.step hA2)
        have SM2 := Lib.hid (SM1.out.below hA2)
        have hone := Lib.hid (cw_one (w := wB.alloc (.cells (ccells r i s qa ps.length qc ua uu.length uc t1 k pa p.length pc n x9 da ds.length dc) 54)) ⟨⟨⟨⟨r, i⟩, s⟩, ps, uu, t1, ⟨k, n, x9, p, ds⟩⟩, qa, qc, ua, uc, pa, pc, da, dc⟩ (heap_new wB _))
        have hsz2 := SM2.out.bel.size
        have hsz3 := SM1.out.bel.size
        clear hA2
        go_wp2_with (at_builtin; go_must (refine wpList_appCs rfl _ _ rfl w.heap.size sa sc M rfl SM2.out.own (some ⟨wB.heap.size, 0, none⟩) 1 [⟨⟨⟨⟨r, i⟩, s⟩, ps, uu, t1, ⟨k, n, x9, p, ds⟩⟩, qa, qc, ua, uc, pa, pc, da, dc⟩] rfl hone.out (by simp; omega) hsz2 ?_))
        intro M9 a9 c9 w9 hM9 ho hb hc _
        have hM9l : M9.length ≤ q + 1 := by rw [hM9]; simp; omega
        have EB9 : Hid (BoxE 32 w w9 (basecells num fa F.length fc ta tips.length tc t ra tr.length rc)) := Lib.hid ⟨heap_chg EB2.out.blk hc (fun hm => by
          obtain ⟨C, fr, hh⟩ := ob_row SM2.out.own _ hm
          rw [EB2.out.blk] at hh
          injection hh with hh
          injection hh with _ hh _
          exact absurd hh (by decide)), EB2.out.bel.trans hb⟩
        have SM9 : Hid (Sm37 w w9 l a9 c9 M9) := Lib.hid ⟨ho, fun y hy => by
          rw [hM9, List.mem_append, List.mem_singleton] at hy
          rcases hy with hy | rfl
          · exact SM2.out.each y hy
          · exact Hu.out, SM2.out.bel.trans hb⟩
        clear hM9 ho hb hc EB2 SM2 hone hsz2 hsz3
        go_wp2_with fail
        go_roundw
        case rel => exact ⟨q + 1, M9, a9, c9, by omega, by go_num, rfl, hM9l, EB9, SM9⟩
        case measure => simp [intOf]; omega
    · have d0 := cells_at EB.out.blk
      simp only [basecells] at d0
      have z0 := heap_lt EB.out.blk
      go_wp2_with fail
      refine (both37_any ⟨⟨num, F, tips, t, tr⟩, fa, fc, ta, tc, ra, rc⟩ m sa sc M _ (H.out.below EB.out.bel) SM.out.cms htp HBd.out Hsz.out).mono ?_
      intro e w1 hto
      clear d0 z0
      rcases hto with ⟨rfl, hb⟩ | ⟨pg1, mb1, w01, b1, L1, va1, vc1, vv1, pw1, S1, la1, lc1, rfl, hp1, hL1, hP1, hA1⟩
      · have E1 := Lib.hid (EB.out.step hb).bel
        clear hb
        go_wp2_with fail
        refine (known37_any _).mono ?_
        rintro e w2 ⟨rfl, hb⟩
        have E2 := Lib.hid (below2 E1.out hb E1.out.size)
        clear hb
        go_wp2_with fail
        go_ret
        exact ⟨rfl, E2.out⟩
      have E1 := Lib.hid (EB.out.step hp1.bel)
      have hS1l : S1.length ≤ 24 := by rw [hp1.len]; exact hL1
      have P1 := Lib.hid hp1
      have HP1 := Lib.hid hP1
      have HA1 := Lib.hid hA1
      have SMc := Lib.hid SM.out.each
      have Bw1 := Lib.hid (SM.out.bel)
      clear hp1 hP1 hA1
      go_upto_region 11 with (fail)
      have hd0 : Below w1.heap.size w1 (w1.alloc (.cells #[] 54)).drew := ((Below.refl _ _).alloc (Nat.le_refl _) _).drew
      have D0 := Lib.hid hd0
      have O0 : Hid (OwnC (w1.alloc (.cells #[] 54)).drew w1.heap.size (some ⟨w1.heap.size, 0, none⟩) 0 []) := Lib.hid (World.ownsRow_made w1 #[] 0 (Nat.le_refl _) (by decide) rfl)
      have EB0 := Lib.hid ((hd0.block _ (heap_lt E1.out.blk)).trans E1.out.blk)
      have PW0 := Lib.hid ((hd0.block _ (heap_lt P1.out.rg.blk)).trans P1.out.rg.blk)
      have hz0 := hd0.size
      clear hd0
      have d0 := cells_at E1.out.blk
      simp only [basecells] at d0
      have z0 := heap_lt E1.out.blk
      have g0 := cells_at P1.out.rg.blk
      simp only [rgcells] at g0
      have y0 := heap_lt P1.out.rg.blk
      refine region_tree_at (fun k => k = w.heap.size ∨ k = pw1) (sgOf [([0, 2, 3, 4, 5, 7, 1], false), ([6], true), ([8], true), ([9, 10, 11, 12, 13, 14, 15, 16], false)]) mixed (by kernel_rfl) ?_
      simp only [sgOf, wpSgB, List.map_cons, List.map_nil, List.getD_cons_succ, List.getD_cons_zero]
      go_wp2_with (at_builtin; go_must (refine wpList_appCs rfl _ _ rfl w1.heap.size (some ⟨w1.heap.size, 0, none⟩) 0 [] rfl O0.out la1 lc1 S1 rfl (P1.out.rg.rows.below D0.out).sl (by simp; omega) hz0 ?_))
      intro M3 a3 c3 w3 hM3 ho hb hc _
      have hM3' : S1 = M3 := hM3.symm
      subst hM3'
      clear hM3
      have hw1 : w.heap.size < w1.heap.size := heap_lt E1.out.blk
      have hpw : pw1 < w1.heap.size := heap_lt P1.out.rg.blk
      have B3 : Hid (Below w1.heap.size w1 w3) := Lib.hid (D0.out.trans hb)
      have EB3 := Lib.hid ((B3.out.block _ hw1).trans E1.out.blk)
      have PW3 := Lib.hid ((B3.out.block _ hpw).trans P1.out.rg.blk)
      have hh := Lib.hid (held_2 EB0.out EB3.out PW0.out PW3.out)
      have O3 := Lib.hid ho
      have hz3 := B3.out.size
      clear ho hb hc hz0 D0 O0 EB0 PW0 d0 z0 g0 y0
      go_wp2_with fail
      refine And.intro hh.out ?_
      clear hh
      have W3 : Hid (Below w.heap.size w w3) := Lib.hid (below2 E1.out.bel B3.out E1.out.bel.size)
      go_wp2_with (at_builtin; go_must (refine wpList_appCs rfl _ _ rfl w1.heap.size a3 c3 S1 rfl O3.out la0 lc0 l rfl (HL.out.below W3.out).sl (by omega) hz3 ?_))
      intro Y a4 c4 w4 hY ho hb hc _
      have B4 : Hid (Below w1.heap.size w1 w4) := Lib.hid (B3.out.trans hb)
      have EB4 := Lib.hid ((B4.out.block _ hw1).trans E1.out.blk)
      have PW4 := Lib.hid ((B4.out.block _ hpw).trans P1.out.rg.blk)
      have hh := Lib.hid (held_2 EB3.out EB4.out PW3.out PW4.out)
      have W4 : Hid (Below w.heap.size w w4) := Lib.hid (below2 E1.out.bel B4.out E1.out.bel.size)
      have P4 := Lib.hid (P1.out.below B4.out)
      have C4 : Hid (Cms w4 a4 c4 Y) := Lib.hid ⟨ho.cms, fun y hy => by
        rw [hY, List.mem_append] at hy
        rcases hy with hy | hy
        · exact P4.out.rg.rows.each y hy
        · exact (HL.out.each y hy).below W4.out⟩
      have HY := Lib.hid hY
      clear hY ho hb hc EB3 PW3 O3 B3 W3 hz3
      go_wp2_with fail
      refine And.intro hh.out ?_
      clear hh
      go_wp2_with fail
      refine (both37_any ⟨⟨num, F, tips, t, tr⟩, fa, fc, ta, tc, ra, rc⟩ m a4 c4 Y _ (H.out.below W4.out) C4.out htp HBd.out Hsz.out).mono ?_
      intro e w5 hto
      have E4 : Hid (BoxE 32 w w4 (basecells num fa F.length fc ta tips.length tc t ra tr.length rc)) := Lib.hid ⟨EB4.out, W4.out⟩
      clear EB4 PW4 C4
      rcases hto with ⟨rfl, hb⟩ | ⟨pg2, mb2, w02, b2, L2, va2, vc2, vv2, pw2, S2, la2, lc2, rfl, hp2, hL2, hP2, hA2⟩
      · have E5 := Lib.hid (E4.out.step hb).bel
        clear hb
        go_wp2_with fail
        refine And.intro (And.intro (by kernel_rfl) ?rds) ?_
        case rds => simp [reads, readsIn, Act.eval]
        go_wp2_with fail
        refine (known37_any _).mono ?_
        rintro e w6 ⟨rfl, hb⟩
        have E6 := Lib.hid (below2 E5.out hb E5.out.size)
        clear hb
        go_wp2_with fail
        go_ret
        exact ⟨rfl, E6.out⟩
      have hS2l : S2.length ≤ 24 := by rw [hp2.len]; exact hL2
      have E5 := Lib.hid (E4.out.step hp2.bel).bel
      have P5 := Lib.hid (P4.out.below hp2.bel)
      have Q5 := Lib.hid hp2
      have hokv : ∀ c ∈ cms M, okV c.vv := fun c hc => by
        obtain ⟨u, hu, rfl⟩ := List.mem_map.1 hc
        exact (SMc.out u hu).ok.vv
      have hcan : canonV F = F := HP1.out.canon
      have hsub : ∀ c ∈ cms L1, c ∈ cms L2 := fun c hc => by
        rw [hA2, HY.out]
        have h1 : cms (S1 ++ l) = cms S1 ++ cms l := by simp [cms]
        rw [h1]
        exact auF_has H.out.okf hcan hokv (by rw [← HA1.out]; exact P1.out.perm) P1.out.rg.sorted (by simp [cms]; omega) c (P1.out.perm.mem_iff.2 hc)
      have Hsub := Lib.hid hsub
      clear hp2 hP2 hA2 hsub hokv P4 E4 B4 W4
      go_wp2_with fail
      refine And.intro (And.intro (by kernel_rfl) ?rds) ?_
      case rds => simp [reads, readsIn, Act.eval]
      go_wp2_with fail
      refine (of37_G _ (cms L2) w5 (Coms.of Q5.out.gr)).mono ?_
      rintro e w6 ⟨xa, xc, Sx, X, rfl, hpx, hsx, hX, mX, hox, hb⟩
      have P6 := Lib.hid (P5.out.below hb)
      have Q6 := Lib.hid (Q5.out.below hb)
      have E6 := Lib.hid (below2 E5.out hb E5.out.size)
      have GX6 := Lib.hid hox.gv
      have MX := Lib.hid mX
      have HX7 := Lib.hid hX
      have Hpx := Lib.hid hpx
      have Hsx := Lib.hid hsx
      clear hox hb mX hX hpx hsx
      go_wp2_with fail
      refine (of37_G _ (cms L1) w6 (Coms.of P6.out.gr)).mono ?_
      rintro e w7 ⟨ya, yc, Sy, Y2, rfl, hpy, hsy, hY2, mY, hoy, hb⟩
      have hX := HX7.out
      have hpx := Hpx.out
      have hSub : SubC Sy Sx := SubC.of P6.out.hist Q6.out.hist Hsub.out hpy hpx hsy Hsx.out
      have hxl := digs_len moC Sx
      have hyl := digs_len moC Sy
      have hx2 := hpx.length_eq
      have hy2 := hpy.length_eq
      simp only [cms, List.length_map] at hx2 hy2
      rw [← hX] at hxl
      rw [← hY2] at hyl
      have hXl : X.length ≤ 24 := by omega
      have hYl : Y2.length ≤ 24 := by omega
      have HU1 : Hid (noUn X Y2) := Lib.hid (by rw [hX, hY2]; exact hSub.noUn moC)
      have HAp : Hid (apartL X Y2 = X.filter fun g => !sameIn Y2 g) := Lib.hid (by rw [hX, hY2]; exact hSub.apart1 moC)
      have HAl : Hid ((apartL X Y2).length = (apartL Y2 X).length) := Lib.hid (by rw [hX, hY2]; exact hSub.apart_len moC)
      have HAn : Hid (apartL X Y2 = [] ↔ S1.length = S2.length) := Lib.hid (by
        rw [hX, hY2, hSub.none_iff moC]
        have k1 := P6.out.len
        have k2 := Q6.out.len
        omega)
      have P7 := Lib.hid (P6.out.below hb)
      have Q7 := Lib.hid (Q6.out.below hb)
      have E7 := Lib.hid (below2 E6.out hb E6.out.size)
      have GX := Lib.hid (GX6.out.below hb)
      have GY := Lib.hid hoy.gv
      have MY := Lib.hid mY
      clear hoy hb mY hSub hxl hyl hx2 hy2 hX hY2 hpx hpy hsy HX7 Hpx Hsx P6 Q6 E6 GX6 P5 Q5 E5 Hsub
      go_wp2_with fail
      refine (unlike37_any xa ya xc yc X Y2 _ GX.out GY.out MX.out MY.out HU1.out (by omega) (by omega)).mono ?_
      rintro e w8 ⟨rfl, hb⟩
      have P8 := Lib.hid (P7.out.below hb)
      have Q8 := Lib.hid (Q7.out.below hb)
      have E8 := Lib.hid (below2 E7.out hb E7.out.size)
      have GX8 := Lib.hid (GX.out.below hb)
      have GY8 := Lib.hid (GY.out.below hb)
      clear hb P7 Q7 E7 GX GY
      go_wp2_with fail
      refine (unlike37_any ya xa yc xc Y2 X _ GY8.out GX8.out MY.out MX.out HU1.out.symm (by omega) (by omega)).mono ?_
      rintro e w9 ⟨rfl, hb⟩
      have P9 := Lib.hid (P8.out.below hb)
      have Q9 := Lib.hid (Q8.out.below hb)
      have E9 := Lib.hid (below2 E8.out hb E8.out.size)
      have GX9 := Lib.hid (GX8.out.below hb)
      have GY9 := Lib.hid (GY8.out.below hb)
      clear hb P8 Q8 E8 GX8 GY8
      go_wp2_with fail
      refine (apart37_any xa ya xc yc X Y2 _ GX9.out GY9.out MX.out MY.out (by omega) (by omega)).mono ?_
      rintro e w10 ⟨pa1, pc1, PP, rfl, hpp, hop, hb⟩
      have P10 := Lib.hid (P9.out.below hb)
      have Q10 := Lib.hid (Q9.out.below hb)
      have E10 := Lib.hid (below2 E9.out hb E9.out.size)
      have GX10 := Lib.hid (GX9.out.below hb)
      have GY10 := Lib.hid (GY9.out.below hb)
      have GP10 := Lib.hid hop.gv
      have HPP := Lib.hid hpp
      clear hb hop hpp P9 Q9 E9 GX9 GY9
      go_wp2_with fail
      refine (apart37_any ya xa yc xc Y2 X _ GY10.out GX10.out MY.out MX.out (by omega) (by omega)).mono ?_
      rintro e w11 ⟨qa1, qc1, QQ, rfl, hqq, hoq, hb⟩
      have hP2 := (P10.out.below hb).rg.blk
      have hQ2 := (Q10.out.below hb).rg.blk
      have E11 := Lib.hid (below2 E10.out hb E10.out.size)
      have GX11 := Lib.hid (GX10.out.below hb)
      have GP11 := Lib.hid (GP10.out.below hb)
      have hlen : PP.length = QQ.length := by rw [HPP.out.length_eq, HAl.out, hqq.length_eq]
      obtain ⟨bz, y1, y2⟩ : ∃ bz : Bool, ((PP.length : Int) == 0) = bz ∧ ((S1.length : Int) == (S2.length : Int)) = bz := by
        refine ⟨_, rfl, ?_⟩
        rw [Bool.eq_iff_iff, beq_iff_eq, beq_iff_eq]
        have h1 := HAn.out
        have h2 := HPP.out.length_eq
        constructor
        · intro h
          have : apartL X Y2 = [] := h1.2 (by omega)
          rw [this] at h2
          simp at h2
          rw [h2]; rfl
        · intro h
          have : apartL X Y2 = [] := List.eq_nil_of_length_eq_zero (by omega)
          have := h1.1 this
          omega
      have y3 : ((PP.length : Int) != (QQ.length : Int)) = false := by rw [hlen]; simp
      have hPPl : PP.length ≤ 48 := by
        rw [HPP.out.length_eq, HAp.out]
        have := List.length_filter_le (fun g => !sameIn Y2 g) X
        omega
      have g1 := cells_at hP2
      simp only [rgcells] at g1
      have z1 := heap_lt hP2
      have g2 := cells_at hQ2
      simp only [rgcells] at g2
      have z2 := heap_lt hQ2
      clear hqq hoq hb hP2 hQ2 hlen P10 Q10 E10 GX10 GY10 GP10 HAl HAn
      go_upto_region 20 with (fail)
      refine region_text [([0, 1, 2, 3, 4, 5, 6, 7, 8, 9, 10, 11, 12, 13, 14, 15, 16, 17, 18, 19, 20, 21], false)] mixed (by kernel_rfl) ?_
      simp only [wpSegs, List.map_cons, List.map_nil, List.getD_cons_succ, List.getD_cons_zero]
      go_wp2_with fail
      refine And.intro (by kernel_rfl) ?_
      clear g1 z1 g2 z2
      have HXall : Hid (∀ d ∈ PP, (X.any fun o => eqG o d) = true) := Lib.hid fun d hd => by
        have h1 := HPP.out.mem_iff.1 hd
        rw [HAp.out] at h1
        rw [List.any_eq_true]
        exact ⟨d, (List.mem_filter.1 h1).1, (eqG_iff _ _).2 rfl⟩
      have Z0 : Hid (Below w11.heap.size w11 w11.drew) := Lib.hid (Below.refl _ _).drew
      clear HU1 HPP HAp y1 y2 y3 MX MY
      go_wp2_with fail
      go_loopw [120] (fun j wx => ∃ z : Nat, z ≤ PP.length ∧ j = .int .i64 z ∧ Hid (Below w11.heap.size w11 wx)) (fun j _ => PP.length - (intOf j).toNat)
      case atStart => exact ⟨0, Nat.zero_le _, rfl, Z0⟩
      case round =>
        obtain ⟨z, hz, rfl, BZ⟩ := hrel
        clear Z0
        by_cases hzl : z < PP.length
        · obtain ⟨d, hd⟩ : ∃ d, PP[z]? = some d := ⟨PP[z], by simp [hzl]⟩
          obtain ⟨ad, had, ⟨g0, g1, g2, g3, g4⟩, hgz⟩ := (GP11.out.below BZ.out).at_ hd
          subst had
          have Hall := Lib.hid (HXall.out d (List.mem_of_getElem? hd))
          obtain ⟨⟨r, i⟩, f, u, s⟩ := d
          dsimp only at g0 g1 g2 g3 g4
          clear hd
          have E0 := Lib.hid (BxG.new_ BZ.out (dgcells r i f u s))
          go_upto_region 25 with (fail)
          clear g0 g1 g2 g3 g4 hgz
          generalize (wr.alloc (.cells (dgcells r i f u s) 66)) = wB at E0 ⊢
          generalize wr.heap.size = pb at E0 ⊢
          go_wp2_with fail
          go_loopw [22, 126] (fun b j wy => ∃ y : Nat, y ≤ X.length ∧ j = .int .i64 y ∧ b = .bool ((X.take y).any fun o => eqG o ⟨(r, i), f, u, s⟩) ∧ Hid (BxG w11 wy pb (dgcells r i f u s))) (fun _ j _ => X.length - (intOf j).toNat)
          case atStart => exact ⟨0, Nat.zero_le _, rfl, rfl, E0⟩
          case round =>
            obtain ⟨y, hy, rfl, rfl, EY⟩ := hrel
            clear E0
            by_cases hyl : y < X.length
            · obtain ⟨o, ho⟩ : ∃ o, X[y]? = some o := ⟨X[y], by simp [hyl]⟩
              obtain ⟨ae, hae, ⟨g0, g1, g2, g3, g4⟩, hgz⟩ := (GX11.out.below EY.out.bel).at_ ho
              subst hae
              have hsn : ((X.take (y + 1)).any fun o => eqG o ⟨(r, i), f, u, s⟩) = (((X.take y).any fun o => eqG o ⟨(r, i), f, u, s⟩) || eqG o ⟨(r, i), f, u, s⟩) := by rw [take_snoc' ho]; simp
              have Hsn := Lib.hid hsn
              obtain ⟨⟨r', i'⟩, f', u', s'⟩ := o
              dsimp only at g0 g1 g2 g3 g4
              clear ho hsn
              have E1 := Lib.hid (EY.out.step ((Below.refl _ _).alloc (Nat.le_refl _) (.cells (dgcells r' i' f' u' s') 66)))
              have X1 := Lib.hid (heap_new wr (.cells (dgcells r' i' f' u' s') 66 (0, 0)))
              go_upto_region 29 with (fail)
              clear g0 g1 g2 g3 g4 hgz
              generalize (wr.alloc (.cells (dgcells r' i' f' u' s') 66)) = wC at E1 X1 ⊢
              generalize wr.heap.size = px at X1 ⊢
              have e0 := cells_at E1.out.blk
              have ez := heap_lt E1.out.blk
              have k0 := cells_at X1.out
              have kz := heap_lt X1.out
              cases hb9 : ((X.take y).any fun o => eqG o ⟨(r, i), f, u, s⟩) with
              | true =>
                go_wp2_with fail
                go_roundw
                case rel => exact ⟨y + 1, by omega, by go_num, by rw [Hsn.out, hb9]; rfl, E1⟩
                case measure => simp [intOf]; omega
              | false =>
                go_wp2_with fail
                go_roundw
                case rel => exact ⟨y + 1, by omega, by go_num, by rw [Hsn.out, hb9]; rfl, E1⟩
                case measure => simp [intOf]; omega
            · have hall : ((X.take y).any fun o => eqG o ⟨(r, i), f, u, s⟩) = true := by rw [List.take_of_length_le (by omega)]; exact Hall.out
              rw [hall]
              go_wp2_with fail
              go_roundw
              case rel => exact ⟨z + 1, by omega, by go_num, Lib.hid EY.out.bel⟩
              case measure => simp [intOf]; omega
        · go_wp2_with fail
          refine (known37_any _).mono ?_
          rintro e w12 ⟨rfl, hb⟩
          have E12 := Lib.hid (below2 (below2 E11.out BZ.out E11.out.size) hb (below2 E11.out BZ.out E11.out.size).size)
          clear hb
          go_wp2_with fail
          go_ret
          exact ⟨rfl, E12.out⟩
end Go.Proofs.YtaandcblndldmaaGreat
