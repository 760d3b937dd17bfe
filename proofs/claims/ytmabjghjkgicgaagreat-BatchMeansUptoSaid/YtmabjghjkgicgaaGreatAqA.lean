/- The reference's Bury, with a word on an empty row. | What is known in varveref05.Apply. Printed by genapply.py. -/
import Derived.Test.YtmabjghjkgicgaaGreatRefLA
import Derived.Test.YtmabjghjkgicgaaGreatLvA
import Derived.Test.YtmabjghjkgicgaaGreatRefLC
import Derived.Test.YtmabjghjkgicgaaGreatFuseG
import Derived.Test.YtmabjghjkgicgaaGreatEvX
/- AqR -/
namespace Go.Proofs.YtmabjghjkgicgaaGreat
open Go.RowKit
set_option linter.unusedVariables false
set_option linter.unusedSimpArgs false

set_option maxRecDepth 100000 in
set_option maxHeartbeats 2000000 in
theorem rburyX_any (a : Option Addr) (c : Nat) (l : List Dt) (x : Dt) (w : World) (hv : Vec w a c l) (hn : l.length ≤ 1000000) :
    Calls Tryz.prog 74 #[.slice a l.length c, .agg #[.int .u8 x.1.1, .int .u32 x.1.2, .int .u64 x.2]] w fun e w' => ∃ a' c' v', e = .returned (.slice a' v'.length c') ∧ v' = buryP l x ∧ Vec w' a' c' v' ∧ (∀ k ∈ ob a', (k ∈ ob a ∧ l ≠ []) ∨ w.heap.size ≤ k) ∧ Below w.heap.size w w' := by
  obtain ⟨⟨xr, xi⟩, xs⟩ := x
  have Hv := Lib.hid hv
  have hcap := hv.cap
  have Hsl := Lib.hid (fun (k : Nat) (hk : k ≤ l.length) => cutD a c l k hk hcap)
  clear hv hcap
  go_enter Tryz.func74, Tryz.ntmps74
  go_wp2_with fail
  refine (rtomb_any a c l ((xr, xi), xs) _ (Hv.out.below ((Below.refl _ _).alloc (Nat.le_refl _) _)) (by omega)).mono ?_
  rintro e w1 ⟨q, rfl, hq, hb1⟩
  obtain ⟨hx0, hs0, hB1⟩ := new1 hb1
  have g0 := cells_at hx0
  have Hx0 := Lib.hid hx0
  have HB1 := Lib.hid hB1
  have Hq := Lib.hid hq
  clear hb1 hx0 hB1 hq
  cases q with
  | true =>
    have He := Lib.hid (show buryP l ((xr, xi), xs) = l by rw [buryP, if_pos (Hq.out.1 (by simp))])
    go_wp2_with fail
    go_ret
    exact ⟨a, c, l, rfl, He.out.symm, Hv.out.below HB1.out, fun k hk => .inl ⟨hk, List.ne_nil_of_mem (Hq.out.1 (by simp))⟩, HB1.out⟩
  | false =>
    have Hnin := Lib.hid (show ((xr, xi), xs) ∉ l from fun h => by have := Hq.out.2 h; cases this)
    go_wp2_with fail
    go_loopw [5, 6] (fun o j wr => ∃ (k : Nat) (va : Option Addr) (vc : Nat) (v : List Dt), k ≤ l.length ∧ j = .int .i64 k ∧ o = .slice va v.length vc ∧ v.length ≤ k ∧ Hid (v = l.take k) ∧ Hid (∀ (j : Nat) (y : Dt), j < k → l[j]? = some y → lessD y ((xr, xi), xs) = true) ∧ Hid (OwnD wr w1.heap.size va vc v) ∧ Below w1.heap.size w1 wr) (fun _ j _ => l.length - (intOf j).toNat)
    case atStart => exact ⟨0, none, 0, [], Nat.zero_le _, rfl, rfl, Nat.le_refl _, Lib.hid (by simp), Lib.hid (fun j y h => absurd h (Nat.not_lt_zero _)), Lib.hid (OwnD.nil _ _), Below.refl _ _⟩
    case round =>
      obtain ⟨k, va, vc, v, hk, rfl, rfl, hvk, hve, hup, ho, hb⟩ := hrel
      have hz := hb.size
      have hx0 := (hb.block _ (heap_lt Hx0.out)).trans Hx0.out
      have HB := Lib.hid (below2 HB1.out hb (by omega))
      have Hb := Lib.hid hb
      have g0 := cells_at hx0
      have Hx := Lib.hid hx0
      clear hx0 hb
      by_cases hlt : k < l.length
      · obtain ⟨⟨⟨r, i⟩, s⟩, hx⟩ : ∃ x, l[k]? = some x := ⟨l[k], by simp [hlt]⟩
        obtain ⟨ad, had, c0, c1, c2, hl0⟩ := (Hv.out.below HB.out).at hx
        subst had
        dsimp only at c0 c1 c2
        have Hy := Lib.hid hx
        clear hx
        go_wp2_with fail
        refine region_text [([0, 1, 2, 3, 4, 5, 6, 7, 8, 9, 10, 11], false)] mixed (by kernel_rfl) ?_
        simp only [wpSegs, List.map_cons, List.map_nil, List.getD_cons_succ, List.getD_cons_zero]
        go_wp2_with fail
        refine (rless_any r i s xr xi xs _).mono ?_
        rintro e w2 ⟨rfl, hb2⟩
        have hb2' := ((Below.refl _ wr).drew).trans hb2
        have hx0 := (hb2'.block _ (heap_lt Hx.out)).trans Hx.out
        have HB2 := Lib.hid (below2 HB.out hb2' HB.out.size)
        have Hb2 := Lib.hid (below2 Hb.out hb2' Hb.out.size)
        have Ho2 := Lib.hid (ho.out.below hb2')
        have hz2 := Hb2.out.size
        have hl2 : ad.block < w2.heap.size := by have := hb2'.size; omega
        clear hb2 hb2' g0 c0 c1 c2 ho hl0
        have g0 := cells_at hx0
        have Hx2 := Lib.hid hx0
        clear hx0
        cases ha : lessD ((r, i), s) ((xr, xi), xs) with
        | true =>
          have Ha := Lib.hid ha
          clear ha
          obtain ⟨ad', had, c0, c1, c2, hl0⟩ := (Hv.out.below HB2.out).at Hy.out
          cases had
          dsimp only at c0 c1 c2
          go_wp2_with fail
          refine And.intro (by kernel_rfl) ?_
          go_wp2_with (at_builtin; go_must (refine wpList_appD rfl _ _ rfl w1.heap.size va vc v rfl ?o1 (some ⟨w2.heap.size, 0, none⟩) 1 [((r, i), s)] rfl ?s1 ?n1 ?b1 ?_))
          case o1 => exact Ho2.out.below ((Below.refl _ _).alloc (Nat.le_refl _) _)
          case s1 => exact vec_one (heap_new w2 _)
          case n1 => simp; omega
          case b1 => simp; omega
          intro v' a' c' w3 hv' ho3 hb3 _
          have Hv' := Lib.hid hv'
          have hl' : v'.length ≤ k + 1 := by rw [hv']; simp; omega
          have Hb3 : Hid (Below w1.heap.size w1 w3) := Lib.hid ((Hb2.out.alloc hz2 _).trans hb3)
          have Ho3 := Lib.hid ho3
          clear hv' ho3 hb3
          go_wp2_with fail
          go_roundw
          case rel => exact ⟨k + 1, a', c', v', by omega, by go_num, rfl, hl', Lib.hid (by rw [Hv'.out, hve.out, take_snoc' Hy.out]), Lib.hid (lt_snoc (p := fun y => lessD y ((xr, xi), xs) = true) hup.out Hy.out Ha.out), Ho3, Hb3.out⟩
          case measure => simp [intOf]; omega
        | false =>
          have He := Lib.hid (bury_end (x := ((xr, xi), xs)) Hnin.out hup.out (fun y hy => by rw [Hy.out] at hy; cases hy; exact ha))
          clear ha
          obtain ⟨sa, sc, u, hu, hsl, hits⟩ := Hsl.out k (by omega)
          have hul : u.length ≤ l.length := by rw [hu]; simp
          have Hits := Lib.hid hits
          have Hu := Lib.hid hu
          clear hits hu
          go_wp2_with fail
          refine And.intro (by kernel_rfl) ?_
          go_wp2_with fail
          refine region_text [([0, 1, 4, 5, 6, 2, 3, 7, 8], false)] mixed (by kernel_rfl) ?_
          simp only [wpSegs, List.map_cons, List.map_nil, List.getD_cons_succ, List.getD_cons_zero]
          go_wp2_with (at_builtin; go_must (refine wpList_appD rfl _ _ rfl w1.heap.size va vc v rfl ?o1 (some ⟨w2.heap.size, 0, none⟩) 1 [((xr, xi), xs)] rfl ?s1 ?n1 ?b1 ?_))
          case o1 => exact Ho2.out.below (by first | exact (Below.refl _ _).alloc (Nat.le_refl _) _ | exact ((Below.refl _ _).alloc (Nat.le_refl _) _).drew | exact ((Below.refl _ _).alloc (Nat.le_refl _) _).drew.drew)
          case s1 => exact vec_one (heap_new w2 _)
          case n1 => simp; omega
          case b1 => simp; omega
          intro v' a' c' w3 hv' ho3 hb3 _
          have Hv' := Lib.hid hv'
          have hl' : v'.length ≤ k + 1 := by rw [hv']; simp; omega
          have Hb3 : Hid (Below w1.heap.size w1 w3) := Lib.hid (by first | exact (Hb2.out.alloc hz2 _).trans hb3 | exact (Hb2.out.alloc hz2 _).drew.trans hb3 | exact (Hb2.out.alloc hz2 _).drew.drew.trans hb3)
          have Ho3 := Lib.hid ho3
          have HB3 := Lib.hid (below2 HB1.out Hb3.out (by omega))
          have hz3 := Hb3.out.size
          clear hv' ho3 hb3
          go_wp2_with (at_builtin; go_must (refine wpList_appD rfl _ _ rfl w1.heap.size a' c' v' rfl Ho3.out sa sc u rfl (Hits.out _ (Hv.out.below HB3.out)) ?n1 hz3 ?_))
          case n1 => omega
          intro v'' a'' c'' w4 hv'' ho4 hb4 _
          have Hv'' := Lib.hid hv''
          have Hb4 : Hid (Below w1.heap.size w1 w4) := Lib.hid (Hb3.out.trans hb4)
          have Ho4 := Lib.hid ho4
          clear hv'' ho4 hb4
          go_wp2_with fail
          refine And.intro (by kernel_rfl) ?_
          go_wp2_with fail
          go_ret
          exact ⟨a'', c'', v'', rfl, by rw [He.out, Hv''.out, Hv'.out, hve.out, Hu.out], Ho4.out.vec, fun k hk => .inr (by have := (owns_lt Ho4.out k hk).1; omega), below2 HB1.out Hb4.out (by omega)⟩
      · have He := Lib.hid (bury_end (x := ((xr, xi), xs)) Hnin.out hup.out (fun y hy => by rw [List.getElem?_eq_none (by omega)] at hy; cases hy))
        obtain ⟨sa, sc, u, hu, hsl, hits⟩ := Hsl.out k (by omega)
        have hul : u.length ≤ l.length := by rw [hu]; simp
        have Hits := Lib.hid hits
        have Hu := Lib.hid hu
        clear hits hu
        go_wp2_with fail
        refine region_text [([0, 1, 2, 3, 4, 5, 6, 7, 8, 9, 10, 11], false)] mixed (by kernel_rfl) ?_
        simp only [wpSegs, List.map_cons, List.map_nil, List.getD_cons_succ, List.getD_cons_zero]
        go_wp2_with fail
        refine And.intro (by kernel_rfl) ?_
        go_wp2_with fail
        refine region_text [([0, 1, 4, 5, 6, 2, 3, 7, 8], false)] mixed (by kernel_rfl) ?_
        simp only [wpSegs, List.map_cons, List.map_nil, List.getD_cons_succ, List.getD_cons_zero]
        go_wp2_with (at_builtin; go_must (refine wpList_appD rfl _ _ rfl w1.heap.size va vc v rfl ?o1 (some ⟨wr.heap.size, 0, none⟩) 1 [((xr, xi), xs)] rfl ?s1 ?n1 ?b1 ?_))
        case o1 => exact ho.out.below (by first | exact (Below.refl _ _).alloc (Nat.le_refl _) _ | exact ((Below.refl _ _).alloc (Nat.le_refl _) _).drew | exact ((Below.refl _ _).alloc (Nat.le_refl _) _).drew.drew)
        case s1 => exact vec_one (heap_new wr _)
        case n1 => simp; omega
        case b1 => simp; omega
        intro v' a' c' w3 hv' ho3 hb3 _
        have Hv' := Lib.hid hv'
        have hl' : v'.length ≤ k + 1 := by rw [hv']; simp; omega
        have Hb3 : Hid (Below w1.heap.size w1 w3) := Lib.hid (by first | exact (Hb.out.alloc hz _).trans hb3 | exact (Hb.out.alloc hz _).drew.trans hb3 | exact (Hb.out.alloc hz _).drew.drew.trans hb3)
        have Ho3 := Lib.hid ho3
        have HB3 := Lib.hid (below2 HB1.out Hb3.out (by omega))
        have hz3 := Hb3.out.size
        clear hv' ho3 hb3
        go_wp2_with (at_builtin; go_must (refine wpList_appD rfl _ _ rfl w1.heap.size a' c' v' rfl Ho3.out sa sc u rfl (Hits.out _ (Hv.out.below HB3.out)) ?n1 hz3 ?_))
        case n1 => omega
        intro v'' a'' c'' w4 hv'' ho4 hb4 _
        have Hv'' := Lib.hid hv''
        have Hb4 : Hid (Below w1.heap.size w1 w4) := Lib.hid (Hb3.out.trans hb4)
        have Ho4 := Lib.hid ho4
        clear hv'' ho4 hb4
        go_wp2_with fail
        refine And.intro (by kernel_rfl) ?_
        go_wp2_with fail
        go_ret
        exact ⟨a'', c'', v'', rfl, by rw [He.out, Hv''.out, Hv'.out, hve.out, Hu.out], Ho4.out.vec, fun k hk => .inr (by have := (owns_lt Ho4.out k hk).1; omega), below2 HB1.out Hb4.out (by omega)⟩

end Go.Proofs.YtmabjghjkgicgaaGreat

/- AqA -/
namespace Go.Proofs.YtmabjghjkgicgaaGreat
open Go.RowKit
set_option linter.unusedVariables false
set_option linter.unusedSimpArgs false

/-- what Apply asks -/
def AppOk (L : Lv) (v : Ew) : Prop := MayLf L.l ∧ MayEvX v ∧ typeOf v.e.k = L.l.k
/-- what Apply tells -/
def AppTo (w : World) (L : Lv) (v : Ew) (e : Ending) (w' : World) : Prop :=
  ((∃ code : Int, code ≠ 0 ∧ e = .returned (.tuple #[.agg #[.int .u8 0, .int .i64 0, .int .u64 0, .int .u8 0, .int .u32 0, .int .u64 0, .string ⟨#[]⟩, .slice none 0 0, .slice none 0 0], .int .i64 code]) ∧ ¬ AppOk L v) ∨
   (∃ M : Lv, e = .returned (.tuple #[.agg #[.int .u8 M.l.k, .int .i64 M.l.n, .int .u64 M.l.t, .int .u8 M.l.d.1.1, .int .u32 M.l.d.1.2, .int .u64 M.l.d.2, .string M.l.x, .slice M.ia M.l.items.length M.ic, .slice M.ta M.l.tombs.length M.tc], .int .i64 0]) ∧ M.l = applyP L.l v.e ∧ MayEv v.e ∧ typeOf v.e.k = L.l.k ∧ LvAt w' M)) ∧ Below w.heap.size w w'
structure ApE (w W : World) (L : Lv) (v : Ew) : Prop where
  b0 : LvBlk W w.heap.size L
  b1 : EvBlk W (w.heap.size + 1) v
  b2 : Zc W (w.heap.size + 2)
  al : LvAt W L
  ev : EwAt W v
  sz : w.heap.size + 3 ≤ W.heap.size
  bel : Below w.heap.size w W
theorem ApE.of {w W : World} {L : Lv} {v : Ew} (hl : LvAt w L) (hv : EwAt w v) (hb : Below (((w.alloc (.cells (lcells L.l L.ia L.ic L.ta L.tc) 48)).alloc (.cells (ecells v) 77)).alloc (.cells #[.int .u8 0, .int .i64 0, .int .u64 0, .int .u8 0, .int .u32 0, .int .u64 0, .string ⟨#[]⟩, .slice none 0 0, .slice none 0 0] 48)).heap.size (((w.alloc (.cells (lcells L.l L.ia L.ic L.ta L.tc) 48)).alloc (.cells (ecells v) 77)).alloc (.cells #[.int .u8 0, .int .i64 0, .int .u64 0, .int .u8 0, .int .u32 0, .int .u64 0, .string ⟨#[]⟩, .slice none 0 0, .slice none 0 0] 48)) W) : ApE w W L v := by
  obtain ⟨h0, h1, h2, h3, h4⟩ := new3 hb
  exact ⟨h0, h1, h2, hl.below h4, hv.below h4, h3, h4⟩
theorem ApE.step {w W W' : World} {L : Lv} {v : Ew} (h : ApE w W L v) (hb : Below W.heap.size W W') : ApE w W' L v :=
  ⟨h.b0.below hb, h.b1.below hb, h.b2.below hb, h.al.below hb, h.ev.below hb, by have := h.sz; have := hb.size; omega, below2 h.bel hb h.bel.size⟩
theorem fin9 {b : Nat} {w W : World} (h : Below b w W) {p : Nat} (hp : b ≤ p) (x0 x1 x2 x3 x4 x5 x6 x7 x8 : Value) : Below b w (((((((((W.setCell ⟨p, 0, none⟩ x0).setCell ⟨p, 1, none⟩ x1).setCell ⟨p, 2, none⟩ x2).setCell ⟨p, 3, none⟩ x3).setCell ⟨p, 4, none⟩ x4).setCell ⟨p, 5, none⟩ x5).setCell ⟨p, 6, none⟩ x6).setCell ⟨p, 7, none⟩ x7).setCell ⟨p, 8, none⟩ x8) :=
  ((((((((h.setCell hp _).setCell hp _).setCell hp _).setCell hp _).setCell hp _).setCell hp _).setCell hp _).setCell hp _).setCell hp _
theorem Vec.lt {w : World} {a : Option Addr} {c : Nat} {v : List Dt} (h : Vec w a c v) (hv : v ≠ []) : ∀ k ∈ ob a, k < w.heap.size := by
  intro k hk
  cases v with
  | nil => exact absurd rfl hv
  | cons d v =>
    obtain ⟨ad, rfl, _, _, _, hl⟩ := h.at (k := 0) (d := d) rfl
    simp [ob] at hk
    omega
theorem buryP_ne (l : List Dt) (d : Dt) : buryP l d ≠ [] := fun h => by
  have := (mem_buryP (l := l) (x := d) (y := d)).2 (.inr rfl)
  rw [h] at this
  cases this
/-- the tombs so far lie apart from the call's own blocks -/
def Apart (s : Nat) (a0 a : Option Addr) : Prop := ∀ k ∈ ob a, (k ∈ ob a0 ∧ k < s) ∨ s + 3 ≤ k
/-- the tombs so far, in the leaf's own block -/
structure DrE (w W : World) (L : Lv) (v : Ew) (va : Option Addr) (vc : Nat) (u : List Dt) : Prop where
  b0 : LvBlk W w.heap.size ⟨{ L.l with tombs := u }, L.ia, L.ic, va, vc⟩
  b1 : EvBlk W (w.heap.size + 1) v
  b2 : Zc W (w.heap.size + 2)
  tm : Vec W va vc u
  ap : u ≠ [] → Apart w.heap.size L.ta va
  sz : w.heap.size + 3 ≤ W.heap.size
  bel : Below w.heap.size w W
theorem DrE.of {w W : World} {L : Lv} {v : Ew} (h : ApE w W L v) (hl : LvAt w L) : DrE w W L v L.ta L.tc L.l.tombs :=
  ⟨h.b0, h.b1, h.b2, h.al.tms, fun hne k hk => .inl ⟨hk, Vec.lt hl.tms hne k hk⟩, h.sz, h.bel⟩
theorem DrE.step {w W W' : World} {L : Lv} {v : Ew} {va : Option Addr} {vc : Nat} {u : List Dt} (h : DrE w W L v va vc u) (hb : Below W.heap.size W W') : DrE w W' L v va vc u :=
  ⟨h.b0.below hb, h.b1.below hb, h.b2.below hb, h.tm.below hb, h.ap, by have := h.sz; have := hb.size; omega, below2 h.bel hb h.bel.size⟩
theorem DrE.put {w W : World} {L : Lv} {v : Ew} {va a5 : Option Addr} {vc c5 : Nat} {u v5 : List Dt} (h : DrE w W L v va vc u) (hv : Vec W a5 c5 v5) (hne : v5 ≠ []) (hap : Apart w.heap.size L.ta a5) : DrE w (W.setCell ⟨w.heap.size, 8, none⟩ (.slice a5 v5.length c5)) L v a5 c5 v5 := by
  have hC := Chg.setCell W ⟨w.heap.size, 8, none⟩ (.slice a5 v5.length c5)
  have h0 := h.b0
  unfold LvBlk lcells at h0
  have h1 := heap_set h0 8 (.slice a5 v5.length c5)
  simp only [List.setIfInBounds_toArray, List.set_cons_zero, List.set_cons_succ] at h1
  refine ⟨h1, heap_chg h.b1 hC (by simp), heap_chg h.b2 hC (by simp), Sl.chg hv hC (fun k hk hm => by have := hap k hk; simp at hm; omega), fun _ => hap, by simpa using h.sz, h.bel.setCell (Nat.le_refl _) _⟩
theorem Vec.chg0 {F : List Nat} {w W : World} {a : Option Addr} {c : Nat} {u : List Dt} (h : Vec w a c u) (hc : Chg F w W) (hd : u ≠ [] → ∀ k ∈ ob a, k ∉ F) : Vec W a c u := by
  by_cases e : u = []
  · subst e
    obtain ⟨h1, h2, h3, h4⟩ := h
    refine ⟨h1, h2, h3, ?_⟩
    rcases h4 with h4 | ⟨b, rfl, _⟩
    · exact .inl h4
    · exact .inr ⟨b, rfl, fun j x hx => absurd hx (by show ¬ (([] : List Value)[j]? = some x); simp)⟩
  · exact Sl.chg h hc (hd e)
def JDr (w : World) (L : Lv) (v : Ew) (j : Value) (wr : World) : Prop := ∃ (q : Nat) (va : Option Addr) (vc : Nat) (u : List Dt), q ≤ v.e.ds.length ∧ j = .int .i64 q ∧ u = buryAll L.l.tombs (v.e.ds.take q) ∧ DrE w wr L v va vc u
theorem LvAt.form {w : World} {l m : Lf} {ia ta : Option Addr} {ic tc : Nat} (h : LvAt w ⟨l, ia, ic, ta, tc⟩) (h1 : m.items = l.items) (h2 : m.tombs = l.tombs) : LvAt w ⟨m, ia, ic, ta, tc⟩ :=
  ⟨by show Its w ia ic m.items; rw [h1]; exact h.its, by show Vec w ta tc m.tombs; rw [h2]; exact h.tms, by show m.items.length ≤ _; rw [h1]; exact h.li, by show m.tombs.length ≤ _; rw [h2]; exact h.lt⟩
theorem app_same {w W : World} {L : Lv} {v : Ew} {e : Ending} (l' : Lf) (hl : LvAt w L) (hm : MayEv v.e) (ht : typeOf v.e.k = L.l.k) (hB : Below w.heap.size w W) (hi : l'.items = L.l.items) (h2 : l'.tombs = L.l.tombs) (heq : l' = applyP L.l v.e)
    (he : e = .returned (.tuple #[.agg #[.int .u8 l'.k, .int .i64 l'.n, .int .u64 l'.t, .int .u8 l'.d.1.1, .int .u32 l'.d.1.2, .int .u64 l'.d.2, .string l'.x, .slice L.ia l'.items.length L.ic, .slice L.ta l'.tombs.length L.tc], .int .i64 0])) : AppTo w L v e W :=
  ⟨.inr ⟨⟨l', L.ia, L.ic, L.ta, L.tc⟩, he, heq, hm, ht, LvAt.form (hl.below hB) hi h2⟩, hB⟩
theorem app_items {w W : World} {L : Lv} {v : Ew} {e : Ending} (l' : Lf) (a5 : Option Addr) (c5 : Nat) (hl : LvAt w L) (hm : MayEv v.e) (ht : typeOf v.e.k = L.l.k) (hB : Below w.heap.size w W) (hi : Its W a5 c5 l'.items) (hl5 : l'.items.length ≤ 1000000) (hia : ∀ k ∈ ob a5, w.heap.size ≤ k) (h2 : l'.tombs = L.l.tombs) (heq : l' = applyP L.l v.e)
    (he : e = .returned (.tuple #[.agg #[.int .u8 l'.k, .int .i64 l'.n, .int .u64 l'.t, .int .u8 l'.d.1.1, .int .u32 l'.d.1.2, .int .u64 l'.d.2, .string l'.x, .slice a5 l'.items.length c5, .slice L.ta l'.tombs.length L.tc], .int .i64 0])) : AppTo w L v e W :=
  ⟨.inr ⟨⟨l', a5, c5, L.ta, L.tc⟩, he, heq, hm, ht, ⟨hi, by show Vec W L.ta L.tc l'.tombs; rw [h2]; exact hl.tms.below hB, hl5, by show l'.tombs.length ≤ _; rw [h2]; exact hl.lt⟩⟩, hB⟩
theorem app_both {w W : World} {L : Lv} {v : Ew} {e : Ending} (l' : Lf) (a5 b5 : Option Addr) (c5 d5 : Nat) (hm : MayEv v.e) (ht : typeOf v.e.k = L.l.k) (hB : Below w.heap.size w W) (hi : Its W a5 c5 l'.items) (hl5 : l'.items.length ≤ 1000000) (hv : Vec W b5 d5 l'.tombs) (hl6 : l'.tombs.length ≤ 1000000) (heq : l' = applyP L.l v.e)
    (he : e = .returned (.tuple #[.agg #[.int .u8 l'.k, .int .i64 l'.n, .int .u64 l'.t, .int .u8 l'.d.1.1, .int .u32 l'.d.1.2, .int .u64 l'.d.2, .string l'.x, .slice a5 l'.items.length c5, .slice b5 l'.tombs.length d5], .int .i64 0])) : AppTo w L v e W :=
  ⟨.inr ⟨⟨l', a5, c5, b5, d5⟩, he, heq, hm, ht, ⟨hi, hv, hl5, hl6⟩⟩, hB⟩
theorem mayEvent_k (v : Ew) (w : World) (h : EwAt w v) {k : Int} (hk : v.e.k = k) :
    Calls Tryz.prog 46 #[.agg #[.int .u8 v.e.d.1.1, .int .u32 v.e.d.1.2, .int .u64 v.e.d.2, .int .u64 v.e.t, .int .u8 k, .slice v.pa v.pl.length v.pc, .int .i64 v.e.n, .string v.e.x, .slice v.da v.e.ds.length v.dc]] w (IsTo w (MayEvX v)) := by
  subst hk
  exact mayEventX_any v w h
end Go.Proofs.YtmabjghjkgicgaaGreat
