/- varvelaw13.BaseAncestors: the walk. (printed by wip/tools/genlwa.py) -/
import Derived.Test.YthdmoplclllhjaaGreatBothA
import Derived.Test.YthdmoplclllhjaaGreatOfA
import Derived.Test.YthdmoplclllhjaaGreatKno13
namespace Go.Proofs.YthdmoplclllhjaaGreat
open Go.RowKit
set_option linter.unusedVariables false
set_option linter.unusedSimpArgs false

theorem u8s_get {bs : List UInt8} {j : Nat} (h : j < bs.length) : (u8s bs)[j]? = some (.int .u8 (bs[j].toNat : Int)) := by simp [u8s, h]
/-- a pair of graphs, and where all lies -/
structure PrV where
  v : Bw
  m : Nat
  pg : Nat
  mb : Nat
  w0 : World
  b : Bw
  L : List Cw
  va : Option Addr
  vc : Nat
  vv : List Dt
  pw : Nat
  S : List Cw
  la : Option Addr
  lc : Nat
def PairAt (w wr : World) (P : PrV) : Prop := PairE w wr P.v P.m P.pg P.mb P.w0 P.b P.L P.va P.vc P.vv P.pw P.S P.la P.lc
theorem PairAt.below {w wr w' : World} {P : PrV} (h : PairAt w wr P) (hb : Below wr.heap.size wr w') : PairAt w w' P := PairE.below h hb
theorem PairAt.map {w wr w' : World} {P : PrV} {x : Nat} (h : PairAt w wr P) (hc : Chg [x] wr w') (hm : ∃ es clock, wr.heap[x]? = some (.map es clock)) (hx : P.mb < x) (h0 : P.w0.heap.size ≤ x) : PairAt w w' P := by
  obtain ⟨es, clock, hm⟩ := hm
  have hw := h.old
  refine ⟨h.gr.chg hc (fun e => ?_) (by simp; omega) (fun k hk C t fr hh => ?_) (by simpa using h0), h.rg.map hc ⟨es, clock, hm⟩ (by omega), h.same, h.tips, h.tr, h.perm, h.hist, h.ins, h.old, h.pwl, h.bel.trans (hc.below h.bel.size (by simp; omega))⟩
  · rw [List.mem_singleton] at e
    have h1 := h.gr.blk
    rw [e, hm] at h1; cases h1
  · rw [List.mem_singleton] at hk
    subst hk
    rw [hm] at hh; cases hh
theorem PairAt.dagS {w wr : World} {P : PrV} (h : PairAt w wr P) : DagP (cms P.S) := DagP.of h.ins h.hist h.perm
theorem PairAt.dagL {w wr : World} {P : PrV} (h : PairAt w wr P) : DagP (cms P.L) := DagP.of h.ins h.hist (List.Perm.refl _)
def PairTo2 (w : World) (v : Bw) (n : Nat) (e : Ending) (w' : World) : Prop :=
  (e = .returned (.tuple #[.pointer none, .pointer none, .bool false]) ∧ Below w.heap.size w w') ∨
  ∃ P : PrV, e = .returned (.tuple #[.pointer (some ⟨P.pg, 0, none⟩), .pointer (some ⟨P.pw, 0, none⟩), .bool true]) ∧ PairAt w w' P ∧ P.L.length ≤ n ∧ P.v = v
theorem PairTo.two {w : World} {v : Bw} {m n : Nat} {e : Ending} {w' : World} (h : PairTo w v m n e w') : PairTo2 w v n e w' := by
  rcases h with h | ⟨pg, mb, w0, b, L, va, vc, vv, pw, S, la, lc, rfl, hp, hl, _⟩
  · exact .inl h
  · exact .inr ⟨⟨v, m, pg, mb, w0, b, L, va, vc, vv, pw, S, la, lc⟩, rfl, hp, hl, rfl⟩
/-- while the law asks -/
structure LwE (w1 wr : World) (P : PrV) (mx my : Nat) (X Y : List Dt) (da : Option Addr) (dc : Nat) (dots : List Dt) : Prop where
  x : SeenAt wr mx X
  y : SeenAt wr my Y
  row : OwnD wr w1.heap.size da dc dots
  ne : mx < my
  lo : w1.heap.size ≤ mx
  ok : okV dots
  dx : ∀ z, z ∈ X ↔ downS (cms P.S) (fun d => d ∈ dots) z
  bel : Below w1.heap.size w1 wr
theorem LwE.below {w1 wr w' : World} {P : PrV} {mx my : Nat} {X Y : List Dt} {da : Option Addr} {dc : Nat} {dots : List Dt} (h : LwE w1 wr P mx my X Y da dc dots) (hb : Below wr.heap.size wr w') : LwE w1 w' P mx my X Y da dc dots :=
  ⟨h.x.below hb, h.y.below hb, h.row.below hb, h.ne, h.lo, h.ok, h.dx, below2 h.bel hb h.bel.size⟩
theorem ob_seen {w : World} {base : Nat} {a : Option Addr} {c : Nat} {v : List Dt} {x : Nat} {V : List Dt} (h : OwnD w base a c v) (hs : SeenAt w x V) : x ∉ ob a := fun hk => by
  obtain ⟨C, fr, hh⟩ := ob_row h x hk
  obtain ⟨es, clock, h2⟩ := hs.blk
  rw [h2] at hh; cases hh
/-- behind the append of a dot -/
theorem LwE.app {w1 wr w3 : World} {P : PrV} {mx my : Nat} {X Y : List Dt} {da : Option Addr} {dc : Nat} {dots : List Dt} (h : LwE w1 wr P mx my X Y da dc dots) (hch : Chg (ob da) wr w3) : SeenAt w3 mx X ∧ SeenAt w3 my Y ∧ Below w1.heap.size w1 w3 :=
  ⟨h.x.chg hch (ob_seen h.row h.x), h.y.chg hch (ob_seen h.row h.y), h.bel.trans (hch.below h.bel.size (fun k hk => (owns_lt h.row k hk).1))⟩
/-- and behind the walk from it -/
theorem LwE.step {w1 wr w3 w4 : World} {P : PrV} {mx my : Nat} {X X' Y : List Dt} {da da' : Option Addr} {dc dc' : Nat} {dots dots' : List Dt} {d : Dt} (hD : DagP (cms P.S)) (h : LwE w1 wr P mx my X Y da dc dots) (hch : Chg (ob da) wr w3) (ho : OwnD w3 w1.heap.size da' dc' dots') (hd : dots' = dots ++ [d]) (hok : okD d) (hs : SeenAt w4 mx X') (hc : Chg [mx] w3 w4) (hr : RchP (cms P.S) X d X') : LwE w1 w4 P mx my X' Y da' dc' dots' := by
  obtain ⟨h1, h2, h3⟩ := h.app hch
  have hn := h.ne
  subst hd
  refine ⟨hs, h2.chg hc (by simp; omega), owns_chg ho hc (fun k hk hm => by rw [List.mem_singleton] at hm; subst hm; exact ob_seen ho h1 hk), hn, h.lo, fun y hy => ?_, downB.snoc hD h.dx hr, h3.trans (hc.below h3.size (by simpa using h.lo))⟩
  rcases List.mem_append.1 hy with hy | hy
  · exact h.ok y hy
  · rw [List.mem_singleton] at hy; subst hy; exact hok
theorem BofP.perm {S L : List Cm} {dots : List Dt} {d : Dt} {v : List Dt} (h : BofP L dots d v) (hp : S.Perm L) (hf : findC S = findC L) : BofP S dots d v := by
  obtain ⟨B, hB, hv⟩ := h
  exact ⟨B, fun c => by rw [hB c, hp.mem_iff, downS_eq hf, downS_eq hf], hv⟩
set_option maxRecDepth 100000 in
set_option maxHeartbeats 16000000 in
theorem baseAnc_walk (v : Bw) (m : Nat) (la0 : Option Addr) (lc0 : Nat) (l : List Cw) (ma : Option Addr) (mc : Nat) (many : List UInt8) (one : UInt8) (w : World) (h : BwAt w m v) (hl : Cms w la0 lc0 l) (hm : Sl w 1 ma many.length mc (u8s many)) (htp : v.b.tips.length ≤ 1100000) (hB : BdA 1100000 3 v.b.tr) :
    Calls Tryz.prog 4 #[.agg (bwcells v), .slice la0 l.length lc0, .slice ma many.length mc, .int .u8 (one.toNat : Int)] w (fun e w' => e = .returned (.bool true) ∧ Below w.heap.size w w') := by
  obtain ⟨⟨num, F, tips, t, tr⟩, fa, fc, ta, tc, ra, rc⟩ := v
  have H := Lib.hid h
  have HL := Lib.hid hl
  have HM := Lib.hid hm
  have HBd := Lib.hid hB
  have hmm := @run_makeMap Tryz.prog
  have hml := hm.2.2.1
  have hmn := hm.2.1
  unfold maxLen at hml
  dsimp only at htp
  have E : Hid (BoxE 28 w (w.alloc (.cells (basecells num fa F.length fc ta tips.length tc t ra tr.length rc) 28)) (basecells num fa F.length fc ta tips.length tc t ra tr.length rc)) := Lib.hid ⟨heap_new _ _, (Below.refl _ _).alloc (Nat.le_refl _) _⟩
  clear h hl hm hB
  simp only [bwcells]
  go_enter Tryz.func4, Tryz.ntmps4
  go_wp2_with fail
  refine (both13_any ⟨⟨num, F, tips, t, tr⟩, fa, fc, ta, tc, ra, rc⟩ m la0 lc0 l _ (H.out.below E.out.bel) (HL.out.below E.out.bel) htp HBd.out).mono ?_
  intro e w1 hto
  rcases hto.two with ⟨rfl, hb⟩ | ⟨P, rfl, hp, hPl, hPv⟩
  · have HB := Lib.hid (E.out.step hb).bel
    clear hto hb
    go_wp2_with fail
    refine (known13_any _).mono ?_
    rintro e w2 ⟨rfl, hb⟩
    have HB2 := Lib.hid (below2 HB.out hb HB.out.size)
    clear hb
    go_wp2_with fail
    go_ret
    exact ⟨rfl, HB2.out⟩
  have HP := Lib.hid hp
  have HB := Lib.hid (E.out.step hp.bel).bel
  have hSl : P.S.length ≤ 40 := by rw [hp.len]; exact hPl
  have HwA0 := hp.rg.lt
  have HD := Lib.hid hp.dagS
  have HDL := Lib.hid hp.dagL
  clear hto hp hPv E
  generalize w.alloc (.cells (basecells num fa F.length fc ta tips.length tc t ra tr.length rc) 28) = wA at HP HwA0
  by_cases h10 : 10 < many.length
  · have x1 : decide ((10 : Int) < (many.length : Int)) = true := decide_eq_true (by omega)
    go_wp2_with fail
    refine (known13_any _).mono ?_
    rintro e w2 ⟨rfl, hb⟩
    have HB2 := Lib.hid (below2 HB.out hb HB.out.size)
    clear hb
    go_wp2_with fail
    go_ret
    exact ⟨rfl, HB2.out⟩
  have x1 : decide ((10 : Int) < (many.length : Int)) = false := decide_eq_false (by omega)
  have g0 := cells_at HP.out.rg.blk
  simp only [rgcells] at g0
  have gz := heap_lt HP.out.rg.blk
  by_cases hS0 : P.S.length = 0
  · have x2 : ((P.S.length : Int) == 0) = true := by rw [beq_iff_eq]; omega
    have HL0 := Lib.hid (show cms P.L = [] from by
      have h1 := HP.out.len
      have h2 : P.L = [] := List.eq_nil_of_length_eq_zero (by omega)
      rw [h2]; rfl)
    clear hS0
    go_wp2_with fail
    refine (baseOf_any P.pg P.mb P.w0 3 P.b P.L P.va P.vc P.vv none 0 [] 0 0 0 _ HP.out.gr HP.out.dagL (Sl.nil _ _) (fun d hd => by cases hd) (by simp) ⟨⟨by decide, by decide⟩, by decide, by decide⟩).mono ?_
    intro e w2 hto
    obtain ⟨a2, c2, v2, rfl, hbof, _, _, _, hb⟩ := hto
    have hv0 : v2.length = 0 := by
      obtain ⟨B, hB1, hv⟩ := hbof
      cases v2 with
      | nil => rfl
      | cons d v2 =>
        rcases ((hv.2 d).1 (by simp)).1 with h1 | ⟨c, hc, _⟩
        · cases h1
        · have h2 := ((hB1 c).1 hc).1
          rw [HL0.out] at h2; cases h2
    have x3 : ((v2.length : Int) == 0) = true := by rw [beq_iff_eq]; omega
    have HB2 := Lib.hid (below2 HB.out hb HB.out.size)
    clear hbof hb hv0
    go_wp2_with fail
    refine (known13_any _).mono ?_
    rintro e w3 ⟨rfl, hb⟩
    have HB3 := Lib.hid (below2 HB2.out hb HB2.out.size)
    clear hb
    go_wp2_with fail
    go_ret
    exact ⟨rfl, HB3.out⟩
  have x2 : ((P.S.length : Int) == 0) = false := by rw [beq_eq_false_iff_ne]; omega
  have L0 : Hid (LwE w1 ((w1.alloc (.map #[] 0)).alloc (.map #[] 0)) P w1.heap.size (w1.heap.size + 1) [] [] none 0 []) := Lib.hid (by
    have hB1 : Below w1.heap.size w1 (w1.alloc (.map #[] 0)) := (Below.refl _ _).alloc (Nat.le_refl _) _
    have hB2 : Below (w1.alloc (.map #[] 0)).heap.size (w1.alloc (.map #[] 0)) ((w1.alloc (.map #[] 0)).alloc (.map #[] 0)) := (Below.refl _ _).alloc (Nat.le_refl _) _
    have hy := SeenAt.made (w1.alloc (.map #[] 0))
    have e : (w1.alloc (.map #[] 0)).heap.size = w1.heap.size + 1 := by simp
    rw [e] at hy
    exact ⟨(SeenAt.made w1).below hB2, hy, OwnD.nil _ _, Nat.lt_succ_self _, Nat.le_refl _, fun d hd => (by cases hd), downB.none_ _, below2 hB1 hB2 hB1.size⟩)
  go_upto_region 9 with (fail)
  have hSp : 0 < P.S.length := by omega
  clear x2 x1 g0 gz hS0
  generalize ((w1.alloc (.map #[] 0)).alloc (.map #[] 0)) = w2 at L0 ⊢
  have HwA : Hid (wA.heap.size ≤ w1.heap.size) := Lib.hid (by have := heap_lt HP.out.rg.blk; omega)
  clear HwA0
  generalize hmx : w1.heap.size = mx at L0 HwA ⊢
  obtain ⟨my, hmy⟩ : ∃ my, my = mx + 1 := ⟨_, rfl⟩
  rw [← hmy] at L0 ⊢
  clear hmx hmy
  go_wp2_with fail
  go_loopw [14, 63] (fun o j wr => ∃ (q : Nat) (X : List Dt) (da : Option Addr) (dc : Nat) (dots : List Dt), q ≤ many.length ∧ j = .int .i64 q ∧ o = .slice da (List.length dots) dc ∧ dots.length ≤ q ∧ Hid (LwE w1 wr P mx my X [] da dc dots)) (fun _ j _ => many.length - (intOf j).toNat)
  case atStart => exact ⟨0, [], none, 0, [], Nat.zero_le _, rfl, rfl, Nat.le_refl _, L0⟩
  case round =>
    obtain ⟨q, X, da, dc, dots, hq, rfl, rfl, hdl, E⟩ := hrel
    clear L0
    by_cases hlt : q < many.length
    · obtain ⟨ad, rfl, hmc⟩ : ∃ ad, ma = some ad ∧ ∀ (j : Nat) (x : Value), (u8s many)[j]? = some x → wr.cell? (ad.add j) = some x := by
        rcases (HM.out.below (below2 HB.out E.out.bel HB.out.size)).2.2.2 with ⟨_, h5, _⟩ | ⟨ad, h5, h6⟩
        · omega
        · exact ⟨ad, h5, h6⟩
      have f0 := hmc q _ (u8s_get hlt)
      clear hmc
      generalize hn0 : many[q].toNat = n0 at f0
      have hn1 : n0 < 256 := by rw [← hn0]; exact UInt8.toNat_lt _
      have hkl : n0 % P.S.length < P.S.length := Nat.mod_lt _ hSp
      obtain ⟨u, hu⟩ : ∃ x, P.S[n0 % P.S.length]? = some x := ⟨P.S[n0 % P.S.length], by simp [hkl]⟩
      have HPr := Lib.hid (HP.out.below E.out.bel)
      have RB := HPr.out.rg
      obtain ⟨ag, hag, ⟨c0, c1, c2, c3, c4, c5, c6, c7, c8, c9, c10⟩, hlb⟩ := RB.rows.at_ hu
      have g0 := cells_at RB.blk
      simp only [rgcells, hag] at g0
      have gz := heap_lt RB.blk
      have Hum := Lib.hid (List.mem_of_getElem? hu)
      clear hn0 hag RB hu c3 c4 c5 c6 c7 c8 c9 c10
      obtain ⟨⟨⟨⟨r, i⟩, s⟩, ps1, uu1, t1, ⟨k1, n1, x1', p1, ds1⟩⟩, qa1, qc1, ua1, uc1, pa1, pc1, da1, dc1⟩ := u
      dsimp only at c0 c1 c2
      have Hokd := Lib.hid (show okD ((r, i), s) from (HPr.out.rg.each _ Hum.out).ok.d)
      go_wp2_with fail
      refine region_text [([0, 1, 2, 3, 4, 5, 6, 7, 8, 9, 10, 11, 12, 13, 14, 15, 16], false)] mixed (by kernel_rfl) ?_
      simp only [wpSegs, List.map_cons, List.map_nil, List.getD_cons_succ, List.getD_cons_zero]
      go_wp2_with fail
      refine And.intro (by kernel_rfl) ?_
      generalize n0 % P.S.length = k9
      have B1 : Hid (BoxE 41 wr (wr.alloc (.cells #[.int .u8 r, .int .u32 i, .int .u64 s] 41)).drew #[.int .u8 r, .int .u32 i, .int .u64 s]) := Lib.hid (BoxE.of ((Below.refl _ _).drew))
      have E1 := Lib.hid (E.out.below B1.out.bel)
      have hdw := fun k hk => (owns_lt E.out.row k hk).2
      generalize (wr.alloc (.cells #[.int .u8 r, .int .u32 i, .int .u64 s] 41)).drew = wd at B1 E1 ⊢
      clear c0 c1 c2 g0 gz hlb HPr
      have d0 := cells_at B1.out.blk
      have z0 := heap_lt B1.out.blk
      have HA : Hid (Below wd.heap.size wd (wd.alloc (.cells #[.int .u8 r, .int .u32 i, .int .u64 s] 41))) := Lib.hid ((Below.refl _ _).alloc (Nat.le_refl _) _)
      have E2 := Lib.hid (E1.out.below HA.out)
      go_wp2_with (at_builtin; go_must (refine wpList_appD3 rfl _ _ rfl w1.heap.size da dc dots rfl E2.out.row (some ⟨wd.heap.size, 0, none⟩) 1 [((r, i), s)] rfl (vec_one (heap_new _ _)) ?n2 ?b2 ?_))
      case n2 => simp; omega
      case b2 => exact E2.out.bel.size
      intro v3 a3 c3 w3 hv3 ho3 hb3 hch3 hn3
      have HB1 := Lib.hid ((heap_chg ((HA.out.block _ z0).trans B1.out.blk) hch3 (fun hk => by have := hdw _ hk; omega)))
      obtain ⟨hx3, hy3, hbel3⟩ := E2.out.app hch3
      have HX3 := Lib.hid hx3
      have HP3 := Lib.hid (HP.out.below hbel3)
      have Hch3 := Lib.hid hch3
      have Ho3 := Lib.hid ho3
      have Hv3 := Lib.hid hv3
      have hl3 : v3.length ≤ q + 1 := by rw [hv3, List.length_append]; simp; omega
      have hm0 : P.v.b.f.length + 0 = P.v.b.f.length := rfl
      clear hv3 ho3 hb3 hch3 hn3 hx3 hy3 hbel3 d0 z0 hdw hm0
      have d0 := cells_at HB1.out
      have z0 := heap_lt HB1.out
      go_wp2_with fail
      refine (reach_any P.pw wA P.m P.v P.S P.la P.lc HD.out 1099511627776 r i s mx X _ HP3.out.rg HX3.out HwA.out Hokd.out (fun y hy => HD.out.top y (findC_some hy).1)).mono ?_
      intro e w4 hto
      obtain ⟨X', rfl, hs4, hc4, hr4⟩ := hto
      have E4 := Lib.hid (E2.out.step HD.out Hch3.out Ho3.out Hv3.out Hokd.out hs4 hc4 hr4)
      clear hs4 hc4 hr4 d0 z0
      go_wp2_with fail
      go_roundw
      case rel => exact ⟨q + 1, X', a3, c3, v3, by omega, by go_num, rfl, hl3, E4⟩
      case measure => simp [intOf]; omega
    · have hdl2 : dots.length ≤ 10 := by omega
      clear hq hdl HM
      have hkl : one.toNat % P.S.length < P.S.length := Nat.mod_lt _ hSp
      have hn1 : one.toNat < 256 := UInt8.toNat_lt _
      obtain ⟨u, hu⟩ : ∃ x, P.S[one.toNat % P.S.length]? = some x := ⟨P.S[one.toNat % P.S.length], by simp [hkl]⟩
      have HPr := Lib.hid (HP.out.below E.out.bel)
      have RB := HPr.out.rg
      obtain ⟨ag, hag, ⟨c0, c1, c2, c3, c4, c5, c6, c7, c8, c9, c10⟩, hlb⟩ := RB.rows.at_ hu
      have g0 := cells_at RB.blk
      simp only [rgcells, hag] at g0
      have gz := heap_lt RB.blk
      have Hum := Lib.hid (List.mem_of_getElem? hu)
      have HuA := Lib.hid (HPr.out.rg.each u (List.mem_of_getElem? hu))
      have Hvl := Lib.hid (HPr.out.rg.may u (List.mem_of_getElem? hu)).vlen
      clear hag RB hu
      obtain ⟨⟨⟨⟨r, i⟩, s⟩, ps1, uu1, t1, ⟨k1, n1, x1, p1, ds1⟩⟩, qa1, qc1, ua1, uc1, pa1, pc1, da1, dc1⟩ := u
      dsimp only at c0 c1 c2 c3 c4 c5 c6 c7 c8 c9 c10
      have Hokd := Lib.hid (show okD ((r, i), s) from HuA.out.ok.d)
      generalize one.toNat = n0 at *
      go_wp2_with fail
      refine region_text [([0, 1, 2, 3, 4, 5, 6, 7, 8, 9, 10, 11, 12, 13, 14, 15], false)] mixed (by kernel_rfl) ?_
      simp only [wpSegs, List.map_cons, List.map_nil, List.getD_cons_succ, List.getD_cons_zero]
      go_wp2_with fail
      refine And.intro (by kernel_rfl) ?_
      generalize n0 % P.S.length = k9
      have B1 : Hid (BoxE 46 wr (wr.alloc (.cells (ccells r i s qa1 ps1.length qc1 ua1 uu1.length uc1 t1 k1 pa1 p1.length pc1 n1 x1 da1 ds1.length dc1) 46)).drew (ccells r i s qa1 ps1.length qc1 ua1 uu1.length uc1 t1 k1 pa1 p1.length pc1 n1 x1 da1 ds1.length dc1)) := Lib.hid (BoxE.of ((Below.refl _ _).drew))
      have E1 := Lib.hid (E.out.below B1.out.bel)
      generalize (wr.alloc (.cells (ccells r i s qa1 ps1.length qc1 ua1 uu1.length uc1 t1 k1 pa1 p1.length pc1 n1 x1 da1 ds1.length dc1) 46)).drew = wd at B1 E1 ⊢
      clear c0 c1 c2 c3 c4 c5 c6 c7 c8 c9 c10 g0 gz hlb HPr hkl hn1
      have d0 := cells_at B1.out.blk
      simp only [ccells] at d0
      have z0 := heap_lt B1.out.blk
      have HPd := Lib.hid (HP.out.below E1.out.bel)
      have hmy := E1.out.ne
      go_wp2_with fail
      refine (reach_any P.pw wA P.m P.v P.S P.la P.lc HD.out 1099511627776 r i s my [] _ HPd.out.rg E1.out.y (by have := HwA.out; omega) Hokd.out (fun y hy => HD.out.top y (findC_some hy).1)).mono ?_
      intro e w5 hto
      obtain ⟨Y, rfl, hs5, hc5, hr5⟩ := hto
      have HY5 := Lib.hid hs5
      have HdY := Lib.hid (downB.one HD.out hr5)
      have hwrl := E.out.y.lt
      have HX5 := Lib.hid (E1.out.x.chg hc5 (by simp; omega))
      have HB5 := Lib.hid (heap_chg B1.out.blk hc5 (by simp; omega))
      have HD5 := Lib.hid (show OwnD w5 w1.heap.size da dc dots from owns_chg E1.out.row hc5 (fun k hk hm => by rw [List.mem_singleton] at hm; subst hm; exact ob_seen E1.out.row E1.out.y hk))
      have Hbel5 := Lib.hid (E1.out.bel.trans (hc5.below (B := w1.heap.size) E1.out.bel.size (by simp; have := E.out.lo; omega)))
      have HdX := Lib.hid E1.out.dx
      have Hokd2 := Lib.hid E1.out.ok
      have Hlo := Lib.hid E.out.lo
      have HP5 := Lib.hid (HP.out.below Hbel5.out)
      clear hs5 hc5 hr5 d0 z0 B1 E1 E HPd
      have d0 := cells_at HB5.out
      simp only [ccells] at d0
      have z0 := heap_lt HB5.out
      go_wp2_with fail
      refine (baseOf_any P.pg P.mb P.w0 3 P.b P.L P.va P.vc P.vv da dc dots r i s _ HP5.out.gr HDL.out HD5.out.vec Hokd2.out (by omega) Hokd.out).mono ?_
      intro e w6 hto
      obtain ⟨a6, c6, v6, rfl, hbof, hok6, hl6, ho6, hb6⟩ := hto
      have HBof := Lib.hid (hbof.perm HP5.out.perm HP5.out.nd)
      have Hok6 := Lib.hid hok6
      have A7 : Hid (Below w6.heap.size w6 (w6.alloc (.map #[] 0))) := Lib.hid ((Below.refl _ _).alloc (Nat.le_refl _) _)
      have Hb7 := Lib.hid (hb6.trans (A7.out.mono hb6.size))
      have O7 := Lib.hid (show OwnD (w6.alloc (.map #[] 0)) 0 a6 c6 v6 from OwnD.base (OwnD.below ho6 A7.out) (Nat.zero_le _))
      have HX7 := Lib.hid (HX5.out.below Hb7.out)
      have HY7 := Lib.hid (HY5.out.below Hb7.out)
      have HB7 := Lib.hid ((Hb7.out.block _ (heap_lt HB5.out)).trans HB5.out)
      have HZ7 := Lib.hid (SeenAt.made w6)
      have Hbel7 := Lib.hid (below2 Hbel5.out Hb7.out Hbel5.out.size)
      have hm6 : w1.heap.size ≤ w6.heap.size := Nat.le_trans Hbel5.out.size hb6.size
      have hxl : mx < w6.heap.size := Nat.lt_of_lt_of_le HX5.out.lt hb6.size
      have hyl : my < w6.heap.size := Nat.lt_of_lt_of_le HY5.out.lt hb6.size
      have hwl : wr.heap.size < w6.heap.size := Nat.lt_of_lt_of_le z0 hb6.size
      clear hbof hok6 ho6 hb6 A7 Hb7 d0 z0 HX5 HY5 HB5 HD5 Hbel5 HP5 Hokd2
      go_wp2_with fail
      generalize hw7 : w6.alloc (.map #[] 0) = w7 at O7 HX7 HY7 HB7 HZ7 Hbel7 ⊢
      generalize hmz : w6.heap.size = mz at hm6 hxl hyl hwl HZ7 ⊢
      generalize hlb : wr.heap.size = lb at hwl HB7 ⊢
      clear hw7 hmz hlb
      go_loopw [118] (fun j wr => ∃ (q : Nat) (Z : List Dt), q ≤ v6.length ∧ j = .int .i64 q ∧ Hid (Chg [mz] w7 wr) ∧ Hid (SeenAt wr mz Z) ∧ Hid (∀ z, z ∈ Z ↔ downS (cms P.S) (fun d => d ∈ v6.take q) z)) (fun j _ => v6.length - (intOf j).toNat)
      case atStart => exact ⟨0, [], Nat.zero_le _, rfl, Lib.hid (Chg.refl _ _), HZ7, Lib.hid (downB.none_ _)⟩
      case round =>
        obtain ⟨q, Z, hq, rfl, C7, HZ, HdZ⟩ := hrel
        have HPr := Lib.hid (HP.out.below (Hbel7.out.trans (C7.out.below (B := w1.heap.size) Hbel7.out.size (by simpa using hm6))))
        have HXr := Lib.hid (HX7.out.chg C7.out (by simp; omega))
        have HYr := Lib.hid (HY7.out.chg C7.out (by simp; omega))
        have HBr := Lib.hid (heap_chg HB7.out C7.out (by simp; omega))
        have HVr := Lib.hid (OwnD.vec (owns_chg O7.out C7.out (fun k hk hm => by rw [List.mem_singleton] at hm; subst hm; exact ob_seen O7.out HZ7.out hk)))
        by_cases hlt : q < v6.length
        · obtain ⟨⟨⟨r2, i2⟩, s2⟩, hx⟩ : ∃ x, v6[q]? = some x := ⟨v6[q], by simp [hlt]⟩
          obtain ⟨ae, hae, e0, e1, e2, hl0⟩ := HVr.out.at hx
          dsimp only at hae e0 e1 e2
          subst hae
          have Hx := Lib.hid hx
          have HpM := Lib.hid (List.mem_of_getElem? hx)
          have Hokp := Lib.hid (Hok6.out _ (List.mem_of_getElem? hx))
          have hpd := bof_mem_v HBof.out (List.mem_of_getElem? hx)
          have HpX := Lib.hid (show (cntI X ((r2, i2), s2) == 0) = false from by rw [beq_eq_false_iff_ne]; exact fun e => cntI_zero.1 e ((HdX.out _).2 hpd.1))
          have HpY := Lib.hid (show (cntI Y ((r2, i2), s2) == 0) = false from by rw [beq_eq_false_iff_ne]; exact fun e => cntI_zero.1 e ((HdY.out _).2 hpd.2))
          clear hx hpd
          have HBd : Hid (BoxE 41 wr (wr.alloc (.cells #[.int .u8 r2, .int .u32 i2, .int .u64 s2] 41)) #[.int .u8 r2, .int .u32 i2, .int .u64 s2]) := Lib.hid ⟨heap_new _ _, (Below.refl _ _).alloc (Nat.le_refl _) _⟩
          have HA2 : Hid (Below (wr.alloc (.cells #[.int .u8 r2, .int .u32 i2, .int .u64 s2] 41)).heap.size (wr.alloc (.cells #[.int .u8 r2, .int .u32 i2, .int .u64 s2] 41)) ((wr.alloc (.cells #[.int .u8 r2, .int .u32 i2, .int .u64 s2] 41)).alloc (.map #[] 0))) := Lib.hid ((Below.refl _ _).alloc (Nat.le_refl _) _)
          have HB2 := Lib.hid (HBd.out.step HA2.out)
          have HM0 : Hid (SeenAt ((wr.alloc (.cells #[.int .u8 r2, .int .u32 i2, .int .u64 s2] 41)).alloc (.map #[] 0)) (wr.heap.size + 1) []) := Lib.hid (by
            have h1 := SeenAt.made (wr.alloc (.cells #[.int .u8 r2, .int .u32 i2, .int .u64 s2] 41))
            have e : (wr.alloc (.cells #[.int .u8 r2, .int .u32 i2, .int .u64 s2] 41)).heap.size = wr.heap.size + 1 := by simp
            rw [e] at h1
            exact h1)
          have hws := C7.out.size
          have hz7 := HZ7.out.lt
          go_wp2_with fail
          refine (reach_any P.pw wA P.m P.v P.S P.la P.lc HD.out 1099511627776 r2 i2 s2 (wr.heap.size + 1) [] _ (HPr.out.below HB2.out.bel).rg HM0.out (by have := HwA.out; omega) Hokp.out (fun y hy => HD.out.top y (findC_some hy).1)).mono ?_
          intro e w8 hto
          obtain ⟨Mn, rfl, hs8, hc8, hr8⟩ := hto
          have HM8 := Lib.hid hs8
          have HdM := Lib.hid (downB.one HD.out hr8)
          have C8 := Lib.hid ((C7.out.trans (Chg.of_below (F := [mz]) HB2.out.bel) (fun x hx _ => hx)).trans hc8 (fun x hx hlt => by rw [List.mem_singleton] at hx; subst hx; omega))
          have HBp := Lib.hid (heap_chg HB2.out.blk hc8 (by simp))
          have HZ8 := Lib.hid ((HZ.out.below HB2.out.bel).chg hc8 (by simp; omega))
          have hmm8 : wr.heap.size + 1 < w8.heap.size := hs8.lt
          clear hs8 hc8 hr8 e0 e1 e2 hl0 HBd HA2 HB2 HM0 HVr HBr HPr HXr HYr
          have HV8 := Lib.hid (OwnD.vec (owns_chg O7.out C8.out (fun k hk hm => by rw [List.mem_singleton] at hm; subst hm; exact ob_seen O7.out HZ7.out hk)))
          have HX8 := Lib.hid (HX7.out.chg C8.out (by simp; omega))
          have HY8 := Lib.hid (HY7.out.chg C8.out (by simp; omega))
          have HP8 := Lib.hid (HP.out.below (Hbel7.out.trans (C8.out.below (B := w1.heap.size) Hbel7.out.size (by simpa using hm6))))
          go_wp2_with fail
          go_loopw [129] (fun j wy => ∃ z : Nat, z ≤ v6.length ∧ j = .int .i64 z ∧ Hid (Below w8.heap.size w8 wy)) (fun j _ => v6.length - (intOf j).toNat)
          case atStart => exact ⟨0, Nat.zero_le _, rfl, Lib.hid (Below.refl _ _)⟩
          case round =>
            obtain ⟨z, hz, rfl, BW⟩ := hrel
            have HBy := Lib.hid ((BW.out.block _ (heap_lt HBp.out)).trans HBp.out)
            have d0 := cells_at HBy.out
            have z0 := heap_lt HBy.out
            by_cases hlz : z < v6.length
            · obtain ⟨⟨⟨r3, i3⟩, s3⟩, hy⟩ : ∃ x, v6[z]? = some x := ⟨v6[z], by simp [hlz]⟩
              obtain ⟨af, haf, f0, f1, f2, hl1⟩ := (HV8.out.below BW.out).at hy
              dsimp only at haf f0 f1 f2
              obtain rfl : ae = af := Option.some.inj haf
              have HqM := Lib.hid (List.mem_of_getElem? hy)
              have Hokq := Lib.hid (Hok6.out _ (List.mem_of_getElem? hy))
              have A3 : Hid (Below wr.heap.size wr (wr.alloc (.cells #[.int .u8 r3, .int .u32 i3, .int .u64 s3] 41))) := Lib.hid ((Below.refl _ _).alloc (Nat.le_refl _) _)
              have BW2 := Lib.hid (below2 BW.out A3.out BW.out.size)
              clear hy haf
              cases heq : eqD ((r3, i3), s3) ((r2, i2), s2) with
              | true =>
                go_wp2_with fail
                go_roundw
                case rel => exact ⟨z + 1, by omega, by go_num, BW2⟩
                case measure => simp [intOf]; omega
              | false =>
                have l3 := SeenAt.look (HM8.out.below BW2.out) Hokq.out
                have x5 : decide (0 < cntI Mn ((r3, i3), s3)) = false := decide_eq_false fun h => by
                  have h1 := (HdM.out _).1 (cnt_pos.1 h)
                  exact bof_apart HD.out HBof.out HpM.out HqM.out (fun e => by rw [(eqD_iff _ _).2 e] at heq; cases heq) h1
                go_wp2_with fail
                go_roundw
                case rel => exact ⟨z + 1, by omega, by go_num, BW2⟩
                case measure => simp [intOf]; omega
            · have lX := SeenAt.look (HX8.out.below BW.out) Hokp.out
              have lY := SeenAt.look (HY8.out.below BW.out) Hokp.out
              have xX := HpX.out
              have xY := HpY.out
              have HZy := Lib.hid (HZ8.out.below BW.out)
              have HPy := Lib.hid (HP8.out.below BW.out)
              go_wp2_with fail
              refine (reach_any P.pw wA P.m P.v P.S P.la P.lc HD.out 1099511627776 r2 i2 s2 mz Z _ HPy.out.rg HZy.out (by have := HwA.out; have := Hlo.out; omega) Hokp.out (fun y hy => HD.out.top y (findC_some hy).1)).mono ?_
              intro e w9 hto
              obtain ⟨Z', rfl, hs9, hc9, hr9⟩ := hto
              have HZ9 := Lib.hid hs9
              have C9 := Lib.hid ((C8.out.trans (Chg.of_below (F := [mz]) BW.out) (fun x hx _ => hx)).trans hc9 (fun x hx _ => hx))
              have HdZ9 := Lib.hid (show ∀ z, z ∈ Z' ↔ downS (cms P.S) (fun d => d ∈ v6.take (q + 1)) z from by
                rw [take_snoc' Hx.out]
                exact downB.snoc HD.out HdZ.out hr9)
              clear hs9 hc9 hr9 lX lY xX xY d0 z0
              go_wp2_with fail
              go_roundw
              case rel => exact ⟨q + 1, Z', by omega, by go_num, C9, HZ9, HdZ9⟩
              case measure => simp [intOf]; omega
        · have hqq : q = v6.length := by omega
          have HdZ' := Lib.hid (show ∀ z, z ∈ Z ↔ downS (cms P.S) (fun d => d ∈ v6) z from by have h1 := HdZ.out; rwa [hqq, List.take_length] at h1)
          have hqn : ¬ q < v6.length := by omega
          clear hqq HdZ
          have g0 := cells_at HPr.out.rg.blk
          simp only [rgcells] at g0
          have gz := heap_lt HPr.out.rg.blk
          go_wp2_with fail
          clear g0 gz hqn
          go_loopw [163] (fun j wy => ∃ z : Nat, z ≤ P.S.length ∧ j = .int .i64 z ∧ Hid (Below wr.heap.size wr wy)) (fun j _ => P.S.length - (intOf j).toNat)
          case atStart => exact ⟨0, Nat.zero_le _, rfl, Lib.hid (Below.refl _ _)⟩
          case round =>
            obtain ⟨z, hz, rfl, BW⟩ := hrel
            by_cases hlz : z < P.S.length
            · obtain ⟨c, hc⟩ : ∃ x, P.S[z]? = some x := ⟨P.S[z], by simp [hlz]⟩
              have HPy := Lib.hid (HPr.out.below BW.out)
              have RB := HPy.out.rg
              obtain ⟨ag, hag, ⟨c0, c1, c2, c3, c4, c5, c6, c7, c8, c9, c10⟩, hlb⟩ := RB.rows.at_ hc
              simp only [hag]
              have Hcm := Lib.hid (show c.c ∈ cms P.S from List.mem_map.2 ⟨c, List.mem_of_getElem? hc, rfl⟩)
              have Hcok := Lib.hid (show okD c.c.d from (RB.each c (List.mem_of_getElem? hc)).ok.d)
              clear hc RB hag
              obtain ⟨⟨⟨⟨r2, i2⟩, s2⟩, ps2, uu2, t2, ⟨k2, n2, x2, p2, ds2⟩⟩, qa2, qc2, ua2, uc2, pa2, pc2, da2, dc2⟩ := c
              dsimp only at c0 c1 c2 c3 c4 c5 c6 c7 c8 c9 c10
              have A4 : Hid (Below wr.heap.size wr (wr.alloc (.cells (ccells r2 i2 s2 qa2 ps2.length qc2 ua2 uu2.length uc2 t2 k2 pa2 p2.length pc2 n2 x2 da2 ds2.length dc2) 46)).drew) := Lib.hid (((Below.refl _ _).alloc (Nat.le_refl _) _).drew)
              have BW2 := Lib.hid (below2 BW.out A4.out BW.out.size)
              have lX := SeenAt.look (HXr.out.below BW2.out) Hcok.out
              have lY := SeenAt.look (HYr.out.below BW2.out) Hcok.out
              have lZ := SeenAt.look (HZ.out.below BW2.out) Hcok.out
              have HBl := Lib.hid ((BW2.out.block _ (heap_lt HBr.out)).trans HBr.out)
              have d0 := cells_at HBl.out
              simp only [ccells] at d0
              have z0 := heap_lt HBl.out
              have z1 := heap_lt ((BW.out.block _ (heap_lt HBr.out)).trans HBr.out)
              have HVl := Lib.hid ((HuA.out.vv.below HPr.out.rg.bel).below BW2.out)
              have hvl2 : uu1.length ≤ 64 := Hvl.out
              have HkI := Lib.hid (show hasV uu1 ((r2, i2), s2) = true ↔ ((r2, i2), s2) ∈ Y from
                (last_knows HD.out Hcm.out (y := ⟨((r, i), s), ps1, uu1, t1, ⟨k1, n1, x1, p1, ds1⟩⟩) (List.mem_map.2 ⟨_, Hum.out, rfl⟩)).trans (HdY.out _).symm)
              clear hlb HPy A4
              obtain ⟨bX, bY, x5, x6, hx7, hk7⟩ : ∃ bX bY : Bool, decide (0 < cntI X ((r2, i2), s2)) = bX ∧ decide (0 < cntI Y ((r2, i2), s2)) = bY ∧ (bX = true → bY = true → (cntI Z ((r2, i2), s2) == 0) = false) ∧ hasV uu1 ((r2, i2), s2) = bY := by
                refine ⟨_, _, rfl, rfl, fun h1 h2 => ?_, ?_⟩
                · rw [decide_eq_true_iff, cnt_pos] at h1 h2
                  rw [beq_eq_false_iff_ne]
                  exact fun e => cntI_zero.1 e ((HdZ'.out _).2 (bof_below HD.out HBof.out Hcm.out ((HdX.out _).1 h1) ((HdY.out _).1 h2)))
                · rw [Bool.eq_iff_iff, decide_eq_true_iff, cnt_pos]
                  exact HkI.out
              have Hk := Lib.hid hk7
              clear hk7
              cases bX <;> cases bY
              all_goals
                first | have x7 := hx7 rfl rfl | skip
                clear hx7
                go_wp2_with fail
                refine region_tree (.seg [0, 1, 2, 3, 4, 5, 6, 7, 8, 9, 10, 11, 12, 13, 14, 15, 16, 17, 18, 19, 20, 21, 22, 23, 25, 26, 27] false (.fork (.seg [24] true (.seg [28] true (.seg [29, 30, 31] false .done))) (.seg [28] true (.seg [29] false (.seg [24] true (.seg [30, 31] false .done)))))) mixed (by kernel_rfl) ?_
                simp only [wpSg, List.map_cons, List.map_nil, List.getD_cons_succ, List.getD_cons_zero]
                go_wp2_with fail
                refine And.intro ?_ ?_
                · go_wp2_with fail
                  refine (rhas_any ua1 uc1 uu1 r2 i2 s2 _ HVl.out (by omega)).mono ?_
                  rintro e w9 ⟨rfl, hb⟩
                  rw [Hk.out]
                  have Hb := Lib.hid hb
                  have BW3 := Lib.hid (below2 BW2.out hb BW2.out.size)
                  have lY9 := SeenAt.look (HYr.out.below BW3.out) Hcok.out
                  clear hb lX lY lZ d0 z0 z1 c0 c1 c2 c3 c4 c5 c6 c7 c8 c9 c10
                  go_wp2_with fail
                  refine And.intro (Agree.of_below Hb.out) ?_
                  go_wp2_with fail
                  refine And.intro (Agree.refl _) ?_
                  go_wp2_with fail
                  refine And.intro (by kernel_rfl) ?_
                  go_wp2_with fail
                  go_roundw
                  case rel => exact ⟨z + 1, by omega, by go_num, BW3⟩
                  case measure => simp [intOf]; omega
                · go_wp2_with fail
                  refine And.intro (Agree.refl _) ?_
                  go_wp2_with fail
                  refine (rhas_any ua1 uc1 uu1 r2 i2 s2 _ HVl.out (by omega)).mono ?_
                  rintro e w9 ⟨rfl, hb⟩
                  rw [Hk.out]
                  have Hb := Lib.hid hb
                  have BW3 := Lib.hid (below2 BW2.out hb BW2.out.size)
                  clear hb lX lY lZ d0 z0 z1 c0 c1 c2 c3 c4 c5 c6 c7 c8 c9 c10
                  go_wp2_with fail
                  refine And.intro (Agree.of_below Hb.out) ?_
                  go_wp2_with fail
                  refine And.intro (by kernel_rfl) ?_
                  go_wp2_with fail
                  go_roundw
                  case rel => exact ⟨z + 1, by omega, by go_num, BW3⟩
                  case measure => simp [intOf]; omega
            · go_wp2_with fail
              refine (known13_any _).mono ?_
              rintro e w9 ⟨rfl, hb⟩
              have HB9 := Lib.hid (below2 (HB.out.trans ((Hbel7.out.trans (C7.out.below (B := w1.heap.size) Hbel7.out.size (by simpa using hm6))).mono HB.out.size)) (below2 BW.out hb BW.out.size) (by have h1 := Hbel7.out.size; have h2 := C7.out.size; have h3 := HB.out.size; omega))
              clear hb
              go_wp2_with fail
              go_ret
              exact ⟨rfl, HB9.out⟩
end Go.Proofs.YthdmoplclllhjaaGreat
