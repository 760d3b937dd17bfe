/- The reference's Bury, and Same on leaves (varveref05): contracts. -/
import Derived.Test.YtmabjghjkgicgaaRefLA
namespace Go.Proofs.Ytmabjghjkgicgaa
open Go.RowKit
set_option linter.unusedVariables false
set_option linter.unusedSimpArgs false

set_option maxRecDepth 100000 in
set_option maxHeartbeats 2000000 in
theorem rbury_any (a : Option Addr) (c : Nat) (l : List Dt) (x : Dt) (w : World) (hv : Vec w a c l) (hn : l.length ≤ 1000000) :
    Calls Try.prog 42 #[.slice a l.length c, .agg #[.int .u8 x.1.1, .int .u32 x.1.2, .int .u64 x.2]] w fun e w' => ∃ a' c' v', e = .returned (.slice a' v'.length c') ∧ v' = buryP l x ∧ Vec w' a' c' v' ∧ (∀ k ∈ ob a', k ∈ ob a ∨ w.heap.size ≤ k) ∧ Below w.heap.size w w' := by
  obtain ⟨⟨xr, xi⟩, xs⟩ := x
  have Hv := Lib.hid hv
  have hcap := hv.cap
  have Hsl := Lib.hid (fun (k : Nat) (hk : k ≤ l.length) => cutD a c l k hk hcap)
  clear hv hcap
  go_enter Try.func42, Try.ntmps42
  go_wp2_with fail
  refine (rtomb_any a c l ((xr, xi), xs) _ (Hv.out.below ((Below.refl _ _).alloc (Nat.le_refl _) _)) (by omega)).mono ?_
  rintro e w1 ⟨q, rfl, hq, hb1⟩
  obtain ⟨hx0, hs0, hB1⟩ := new1 hb1
  have g0 := cells_at hx0
  have Hx0 := Lib.hid hx0
  have HB1 := Lib.hid hB1
  have Hq := Lib.hid hq
  clear hb1 hx0 hB1 hq
  cases q with
  | true =>
    have He := Lib.hid (show buryP l ((xr, xi), xs) = l by rw [buryP, if_pos (Hq.out.1 (by simp))])
    go_wp2_with fail
    go_ret
    exact ⟨a, c, l, rfl, He.out.symm, Hv.out.below HB1.out, fun k hk => .inl hk, HB1.out⟩
  | false =>
    have Hnin := Lib.hid (show ((xr, xi), xs) ∉ l from fun h => by have := Hq.out.2 h; cases this)
    go_wp2_with fail
    go_loopw [5, 6] (fun o j wr => ∃ (k : Nat) (va : Option Addr) (vc : Nat) (v : List Dt), k ≤ l.length ∧ j = .int .i64 k ∧ o = .slice va v.length vc ∧ v.length ≤ k ∧ Hid (v = l.take k) ∧ Hid (∀ (j : Nat) (y : Dt), j < k → l[j]? = some y → lessD y ((xr, xi), xs) = true) ∧ Hid (OwnD wr w1.heap.size va vc v) ∧ Below w1.heap.size w1 wr) (fun _ j _ => l.length - (intOf j).toNat)
    case atStart => exact ⟨0, none, 0, [], Nat.zero_le _, rfl, rfl, Nat.le_refl _, Lib.hid (by simp), Lib.hid (fun j y h => absurd h (Nat.not_lt_zero _)), Lib.hid (OwnD.nil _ _), Below.refl _ _⟩
    case round =>
      obtain ⟨k, va, vc, v, hk, rfl, rfl, hvk, hve, hup, ho, hb⟩ := hrel
      have hz := hb.size
      have hx0 := (hb.block _ (heap_lt Hx0.out)).trans Hx0.out
      have HB := Lib.hid (below2 HB1.out hb (by omega))
      have Hb := Lib.hid hb
      have g0 := cells_at hx0
      have Hx := Lib.hid hx0
      clear hx0 hb
      by_cases hlt : k < l.length
      · obtain ⟨⟨⟨r, i⟩, s⟩, hx⟩ : ∃ x, l[k]? = some x := ⟨l[k], by simp [hlt]⟩
        obtain ⟨ad, had, c0, c1, c2, hl0⟩ := (Hv.out.below HB.out).at hx
        subst had
        dsimp only at c0 c1 c2
        have Hy := Lib.hid hx
        clear hx
        go_wp2_with fail
        refine region_text [([0, 1, 2, 3, 4, 5, 6, 7, 8, 9, 10, 11], false)] mixed (by kernel_rfl) ?_
        simp only [wpSegs, List.map_cons, List.map_nil, List.getD_cons_succ, List.getD_cons_zero]
        go_wp2_with fail
        refine (rless_any r i s xr xi xs _).mono ?_
        rintro e w2 ⟨rfl, hb2⟩
        have hb2' := ((Below.refl _ wr).drew).trans hb2
        have hx0 := (hb2'.block _ (heap_lt Hx.out)).trans Hx.out
        have HB2 := Lib.hid (below2 HB.out hb2' HB.out.size)
        have Hb2 := Lib.hid (below2 Hb.out hb2' Hb.out.size)
        have Ho2 := Lib.hid (ho.out.below hb2')
        have hz2 := Hb2.out.size
        have hl2 : ad.block < w2.heap.size := by have := hb2'.size; omega
        clear hb2 hb2' g0 c0 c1 c2 ho hl0
        have g0 := cells_at hx0
        have Hx2 := Lib.hid hx0
        clear hx0
        cases ha : lessD ((r, i), s) ((xr, xi), xs) with
        | true =>
          have Ha := Lib.hid ha
          clear ha
          obtain ⟨ad', had, c0, c1, c2, hl0⟩ := (Hv.out.below HB2.out).at Hy.out
          cases had
          dsimp only at c0 c1 c2
          go_wp2_with fail
          refine And.intro (by kernel_rfl) ?_
          go_wp2_with (at_builtin; go_must (refine wpList_appD rfl _ _ rfl w1.heap.size va vc v rfl ?o1 (some ⟨w2.heap.size, 0, none⟩) 1 [((r, i), s)] rfl ?s1 ?n1 ?b1 ?_))
          case o1 => exact Ho2.out.below ((Below.refl _ _).alloc (Nat.le_refl _) _)
          case s1 => exact vec_one (heap_new w2 _)
          case n1 => simp; omega
          case b1 => simp; omega
          intro v' a' c' w3 hv' ho3 hb3 _
          have Hv' := Lib.hid hv'
          have hl' : v'.length ≤ k + 1 := by rw [hv']; simp; omega
          have Hb3 : Hid (Below w1.heap.size w1 w3) := Lib.hid ((Hb2.out.alloc hz2 _).trans hb3)
          have Ho3 := Lib.hid ho3
          clear hv' ho3 hb3
          go_wp2_with fail
          go_roundw
          case rel => exact ⟨k + 1, a', c', v', by omega, by go_num, rfl, hl', Lib.hid (by rw [Hv'.out, hve.out, take_snoc' Hy.out]), Lib.hid (lt_snoc (p := fun y => lessD y ((xr, xi), xs) = true) hup.out Hy.out Ha.out), Ho3, Hb3.out⟩
          case measure => simp [intOf]; omega
        | false =>
          have He := Lib.hid (bury_end (x := ((xr, xi), xs)) Hnin.out hup.out (fun y hy => by rw [Hy.out] at hy; cases hy; exact ha))
          clear ha
          obtain ⟨sa, sc, u, hu, hsl, hits⟩ := Hsl.out k (by omega)
          have hul : u.length ≤ l.length := by rw [hu]; simp
          have Hits := Lib.hid hits
          have Hu := Lib.hid hu
          clear hits hu
          go_wp2_with fail
          refine And.intro (by kernel_rfl) ?_
          go_wp2_with fail
          refine region_text [([0, 1, 4, 5, 6, 2, 3, 7, 8], false)] mixed (by kernel_rfl) ?_
          simp only [wpSegs, List.map_cons, List.map_nil, List.getD_cons_succ, List.getD_cons_zero]
          go_wp2_with (at_builtin; go_must (refine wpList_appD rfl _ _ rfl w1.heap.size va vc v rfl ?o1 (some ⟨w2.heap.size, 0, none⟩) 1 [((xr, xi), xs)] rfl ?s1 ?n1 ?b1 ?_))
          case o1 => exact Ho2.out.below (by first | exact (Below.refl _ _).alloc (Nat.le_refl _) _ | exact ((Below.refl _ _).alloc (Nat.le_refl _) _).drew | exact ((Below.refl _ _).alloc (Nat.le_refl _) _).drew.drew)
          case s1 => exact vec_one (heap_new w2 _)
          case n1 => simp; omega
          case b1 => simp; omega
          intro v' a' c' w3 hv' ho3 hb3 _
          have Hv' := Lib.hid hv'
          have hl' : v'.length ≤ k + 1 := by rw [hv']; simp; omega
          have Hb3 : Hid (Below w1.heap.size w1 w3) := Lib.hid (by first | exact (Hb2.out.alloc hz2 _).trans hb3 | exact (Hb2.out.alloc hz2 _).drew.trans hb3 | exact (Hb2.out.alloc hz2 _).drew.drew.trans hb3)
          have Ho3 := Lib.hid ho3
          have HB3 := Lib.hid (below2 HB1.out Hb3.out (by omega))
          have hz3 := Hb3.out.size
          clear hv' ho3 hb3
          go_wp2_with (at_builtin; go_must (refine wpList_appD rfl _ _ rfl w1.heap.size a' c' v' rfl Ho3.out sa sc u rfl (Hits.out _ (Hv.out.below HB3.out)) ?n1 hz3 ?_))
          case n1 => omega
          intro v'' a'' c'' w4 hv'' ho4 hb4 _
          have Hv'' := Lib.hid hv''
          have Hb4 : Hid (Below w1.heap.size w1 w4) := Lib.hid (Hb3.out.trans hb4)
          have Ho4 := Lib.hid ho4
          clear hv'' ho4 hb4
          go_wp2_with fail
          refine And.intro (by kernel_rfl) ?_
          go_wp2_with fail
          go_ret
          exact ⟨a'', c'', v'', rfl, by rw [He.out, Hv''.out, Hv'.out, hve.out, Hu.out], Ho4.out.vec, fun k hk => .inr (by have := (owns_lt Ho4.out k hk).1; omega), below2 HB1.out Hb4.out (by omega)⟩
      · have He := Lib.hid (bury_end (x := ((xr, xi), xs)) Hnin.out hup.out (fun y hy => by rw [List.getElem?_eq_none (by omega)] at hy; cases hy))
        obtain ⟨sa, sc, u, hu, hsl, hits⟩ := Hsl.out k (by omega)
        have hul : u.length ≤ l.length := by rw [hu]; simp
        have Hits := Lib.hid hits
        have Hu := Lib.hid hu
        clear hits hu
        go_wp2_with fail
        refine region_text [([0, 1, 2, 3, 4, 5, 6, 7, 8, 9, 10, 11], false)] mixed (by kernel_rfl) ?_
        simp only [wpSegs, List.map_cons, List.map_nil, List.getD_cons_succ, List.getD_cons_zero]
        go_wp2_with fail
        refine And.intro (by kernel_rfl) ?_
        go_wp2_with fail
        refine region_text [([0, 1, 4, 5, 6, 2, 3, 7, 8], false)] mixed (by kernel_rfl) ?_
        simp only [wpSegs, List.map_cons, List.map_nil, List.getD_cons_succ, List.getD_cons_zero]
        go_wp2_with (at_builtin; go_must (refine wpList_appD rfl _ _ rfl w1.heap.size va vc v rfl ?o1 (some ⟨wr.heap.size, 0, none⟩) 1 [((xr, xi), xs)] rfl ?s1 ?n1 ?b1 ?_))
        case o1 => exact ho.out.below (by first | exact (Below.refl _ _).alloc (Nat.le_refl _) _ | exact ((Below.refl _ _).alloc (Nat.le_refl _) _).drew | exact ((Below.refl _ _).alloc (Nat.le_refl _) _).drew.drew)
        case s1 => exact vec_one (heap_new wr _)
        case n1 => simp; omega
        case b1 => simp; omega
        intro v' a' c' w3 hv' ho3 hb3 _
        have Hv' := Lib.hid hv'
        have hl' : v'.length ≤ k + 1 := by rw [hv']; simp; omega
        have Hb3 : Hid (Below w1.heap.size w1 w3) := Lib.hid (by first | exact (Hb.out.alloc hz _).trans hb3 | exact (Hb.out.alloc hz _).drew.trans hb3 | exact (Hb.out.alloc hz _).drew.drew.trans hb3)
        have Ho3 := Lib.hid ho3
        have HB3 := Lib.hid (below2 HB1.out Hb3.out (by omega))
        have hz3 := Hb3.out.size
        clear hv' ho3 hb3
        go_wp2_with (at_builtin; go_must (refine wpList_appD rfl _ _ rfl w1.heap.size a' c' v' rfl Ho3.out sa sc u rfl (Hits.out _ (Hv.out.below HB3.out)) ?n1 hz3 ?_))
        case n1 => omega
        intro v'' a'' c'' w4 hv'' ho4 hb4 _
        have Hv'' := Lib.hid hv''
        have Hb4 : Hid (Below w1.heap.size w1 w4) := Lib.hid (Hb3.out.trans hb4)
        have Ho4 := Lib.hid ho4
        clear hv'' ho4 hb4
        go_wp2_with fail
        refine And.intro (by kernel_rfl) ?_
        go_wp2_with fail
        go_ret
        exact ⟨a'', c'', v'', rfl, by rw [He.out, Hv''.out, Hv'.out, hve.out, Hu.out], Ho4.out.vec, fun k hk => .inr (by have := (owns_lt Ho4.out k hk).1; omega), below2 HB1.out Hb4.out (by omega)⟩

/-- two leaves' blocks came first -/
structure SM (w : World) (A B : Array Value) (W : World) : Prop where
  g : W.heap[w.heap.size]? = some (.cells A 40 (0, 0))
  h : W.heap[w.heap.size + 1]? = some (.cells B 40 (0, 0))
  bel : Below w.heap.size w W
  BEL : Below ((w.alloc (.cells A 40)).alloc (.cells B 40)).heap.size ((w.alloc (.cells A 40)).alloc (.cells B 40)) W
theorem SM.of {w W : World} {A B : Array Value} (h : Below ((w.alloc (.cells A 40)).alloc (.cells B 40)).heap.size ((w.alloc (.cells A 40)).alloc (.cells B 40)) W) : SM w A B W := ⟨(new2 h).1, (new2 h).2.1, (new2 h).2.2.2, h⟩
theorem SM.step {w W W' : World} {A B : Array Value} (h : SM w A B W) (hb : Below W.heap.size W W') : SM w A B W' := SM.of (below2 h.BEL hb h.BEL.size)
set_option maxRecDepth 100000 in
set_option maxHeartbeats 4000000 in
theorem rsameL_any (l m : Lf) (ia ta ja ua : Option Addr) (ic tc jc uc : Nat) (w : World) (hl : LfAt w l ia ic ta tc) (hm : LfAt w m ja jc ua uc) :
    Calls Try.prog 9 #[lval l ia ic ta tc, lval m ja jc ua uc] w fun e w' => ∃ q : Bool, e = .returned (.bool q) ∧ (q = true ↔ l = m) ∧ Below w.heap.size w w' := by
  obtain ⟨k, n, t, ⟨⟨r, i⟩, s⟩, x, is, ts⟩ := l
  obtain ⟨k', n', t', ⟨⟨r', i'⟩, s'⟩, x', is', ts'⟩ := m
  have hn1 := hl.li
  have hn2 := hm.li
  have hn3 := hl.lt
  have hn4 := hm.lt
  dsimp only at hn1 hn2 hn3 hn4
  have Hl := Lib.hid hl
  have Hm := Lib.hid hm
  clear hl hm
  simp only [lval]
  cases h0 : (k == k') with
  | false =>
    have He := Lib.hid (show ¬ (k = k') from by simpa using h0)
    have g0 : (k != k') = true := by rw [bne, h0]; rfl
    go_enter Try.func9, Try.ntmps9
    go_wp2_with fail
    go_ret
    exact ⟨false, rfl, ⟨fun h => (by cases h), fun h => absurd (show k = k' from congrArg Lf.k h) He.out⟩, ((Below.refl _ _).alloc (Nat.le_refl _) _).alloc (by simp) _⟩
  | true =>
    have g0 : (k != k') = false := by rw [bne, h0]; rfl
    cases h1 : (n == n') with
    | false =>
      have He := Lib.hid (show ¬ (n = n') from by simpa using h1)
      have g1 : (n != n') = true := by rw [bne, h1]; rfl
      go_enter Try.func9, Try.ntmps9
      go_wp2_with fail
      go_ret
      exact ⟨false, rfl, ⟨fun h => (by cases h), fun h => absurd (show n = n' from congrArg Lf.n h) He.out⟩, ((Below.refl _ _).alloc (Nat.le_refl _) _).alloc (by simp) _⟩
    | true =>
      have g1 : (n != n') = false := by rw [bne, h1]; rfl
      cases h2 : (t == t') with
      | false =>
        have He := Lib.hid (show ¬ (t = t') from by simpa using h2)
        have g2 : (t != t') = true := by rw [bne, h2]; rfl
        go_enter Try.func9, Try.ntmps9
        go_wp2_with fail
        go_ret
        exact ⟨false, rfl, ⟨fun h => (by cases h), fun h => absurd (show t = t' from congrArg Lf.t h) He.out⟩, ((Below.refl _ _).alloc (Nat.le_refl _) _).alloc (by simp) _⟩
      | true =>
        have g2 : (t != t') = false := by rw [bne, h2]; rfl
        cases h3 : eqD ((r, i), s) ((r', i'), s') with
        | false =>
          have He := Lib.hid (show ¬ (((r, i), s) = ((r', i'), s')) from fun e => by rw [(eqD_iff _ _).2 e] at h3; cases h3)
          go_enter Try.func9, Try.ntmps9
          go_wp2_with fail
          go_ret
          exact ⟨false, rfl, ⟨fun h => (by cases h), fun h => absurd (show ((r, i), s) = ((r', i'), s') from congrArg Lf.d h) He.out⟩, ((Below.refl _ _).alloc (Nat.le_refl _) _).alloc (by simp) _⟩
        | true =>
          cases h4 : (x.toList == x'.toList) with
          | false =>
            have He := Lib.hid (show ¬ (x = x') from fun e => by subst e; simp at h4)
            have g4 : (x.toList != x'.toList) = true := by rw [bne, h4]; rfl
            go_enter Try.func9, Try.ntmps9
            go_wp2_with fail
            go_ret
            exact ⟨false, rfl, ⟨fun h => (by cases h), fun h => absurd (show x = x' from congrArg Lf.x h) He.out⟩, ((Below.refl _ _).alloc (Nat.le_refl _) _).alloc (by simp) _⟩
          | true =>
            have g4 : (x.toList != x'.toList) = false := by rw [bne, h4]; rfl
            cases h5 : ((is.length : Int) == (is'.length : Int)) with
            | false =>
              have He := Lib.hid (show ¬ (is = is') from fun e => by subst e; simp at h5)
              have g5 : ((is.length : Int) != (is'.length : Int)) = true := by rw [bne, h5]; rfl
              go_enter Try.func9, Try.ntmps9
              go_wp2_with fail
              go_ret
              exact ⟨false, rfl, ⟨fun h => (by cases h), fun h => absurd (show is = is' from congrArg Lf.items h) He.out⟩, ((Below.refl _ _).alloc (Nat.le_refl _) _).alloc (by simp) _⟩
            | true =>
              have g5 : ((is.length : Int) != (is'.length : Int)) = false := by rw [bne, h5]; rfl
              cases h6 : ((ts.length : Int) == (ts'.length : Int)) with
              | false =>
                have He := Lib.hid (show ¬ (ts = ts') from fun e => by subst e; simp at h6)
                have g6 : ((ts.length : Int) != (ts'.length : Int)) = true := by rw [bne, h6]; rfl
                go_enter Try.func9, Try.ntmps9
                go_wp2_with fail
                go_ret
                exact ⟨false, rfl, ⟨fun h => (by cases h), fun h => absurd (show ts = ts' from congrArg Lf.tombs h) He.out⟩, ((Below.refl _ _).alloc (Nat.le_refl _) _).alloc (by simp) _⟩
              | true =>
                have g6 : ((ts.length : Int) != (ts'.length : Int)) = false := by rw [bne, h6]; rfl
                have E0 := Lib.hid (show k = k' by simpa using h0)
                have E1 := Lib.hid (show n = n' by simpa using h1)
                have E2 := Lib.hid (show t = t' by simpa using h2)
                have E3 := Lib.hid ((eqD_iff _ _).1 h3)
                have E4 := Lib.hid (show x = x' by rw [beq_bytes] at h4; simpa using h4)
                have E5 := Lib.hid (show is.length = is'.length by simp at h5; omega)
                have E6 := Lib.hid (show ts.length = ts'.length by simp at h6; omega)
                go_enter Try.func9, Try.ntmps9
                go_wp2_with fail
                go_loopw [5] (fun j wr => ∃ q : Nat, q ≤ is.length ∧ j = .int .i64 q ∧ Hid (is.take q = is'.take q) ∧ Hid (SM w (lcells ⟨k, n, t, ((r, i), s), x, is, ts⟩ ia ic ta tc) (lcells ⟨k', n', t', ((r', i'), s'), x', is', ts'⟩ ja jc ua uc) wr)) (fun j _ => is.length - (intOf j).toNat)
                case atStart => exact ⟨0, Nat.zero_le _, rfl, Lib.hid (by simp), Lib.hid (SM.of (Below.refl _ _))⟩
                case round =>
                  clear h0 h1 h2 h3 h4 h5 h6 g0 g1 g2 g4 g5 g6
                  obtain ⟨q, hq, rfl, hle, hE⟩ := hrel
                  have E := Lib.hid hE.out
                  have d0 := cells_at E.out.g
                  have d1 := cells_at E.out.h
                  simp only [lcells] at d0 d1
                  clear hE
                  by_cases hlt : q < is.length
                  · obtain ⟨⟨yt, ⟨⟨yr, yi⟩, ys⟩, yx⟩, hx⟩ : ∃ x, is[q]? = some x := ⟨is[q], by simp [hlt]⟩
                    obtain ⟨⟨zt, ⟨⟨zr, zi⟩, zs⟩, zx⟩, hy⟩ : ∃ y, is'[q]? = some y := ⟨is'[q]'(by have := E5.out; omega), List.getElem?_eq_getElem _⟩
                    obtain ⟨ad, had, ⟨c0, c1, c2, c3, c4⟩, hl0⟩ := (Hl.out.its.below E.out.bel).at hx
                    obtain ⟨ae, hae, ⟨e0, e1, e2, e3, e4⟩, hl1⟩ := (Hm.out.its.below E.out.bel).at hy
                    subst had hae
                    dsimp only at c0 c1 c2 c3 c4 e0 e1 e2 e3 e4
                    have Hx := Lib.hid hx
                    have Hy := Lib.hid hy
                    have hlm : q < is'.length := by have := E5.out; omega
                    clear hx hy
                    cases hq' : eqI ⟨yt, ((yr, yi), ys), yx⟩ ⟨zt, ((zr, zi), zs), zx⟩ with
                    | true =>
                      go_wp2_with fail
                      refine region_text [([0, 1, 2, 3, 4, 5, 6, 7, 8, 9, 10], false)] mixed (by kernel_rfl) ?_
                      simp only [wpSegs, List.map_cons, List.map_nil, List.getD_cons_succ, List.getD_cons_zero]
                      go_wp2_with fail
                      refine And.intro (by kernel_rfl) ?_
                      go_wp2_with fail
                      go_roundw
                      case rel => exact ⟨q + 1, by omega, by go_num, Lib.hid (by rw [take_snoc' Hx.out, take_snoc' Hy.out, hle.out, (eqI_iff _ _).1 hq']), Lib.hid (E.out.step (Below.refl _ _).drew)⟩
                      case measure => simp [intOf]; omega
                    | false =>
                      have He := Lib.hid (show ¬ is = is' by intro e; subst e; have := Hx.out.symm.trans Hy.out; rw [Option.some.injEq, ← eqI_iff, hq'] at this; cases this)
                      go_wp2_with fail
                      refine region_text [([0, 1, 2, 3, 4, 5, 6, 7, 8, 9, 10], false)] mixed (by kernel_rfl) ?_
                      simp only [wpSegs, List.map_cons, List.map_nil, List.getD_cons_succ, List.getD_cons_zero]
                      go_wp2_with fail
                      refine And.intro (by kernel_rfl) ?_
                      go_wp2_with fail
                      go_ret
                      exact ⟨false, rfl, ⟨fun h => (by cases h), fun h => absurd (show is = is' from congrArg Lf.items h) He.out⟩, E.out.bel.drew⟩
                  · have EI := Lib.hid (show is = is' from take_ext q E5.out (by omega) hle.out)
                    go_wp2_with fail
                    go_loopw [6] (fun j wr => ∃ q : Nat, q ≤ ts.length ∧ j = .int .i64 q ∧ Hid (ts.take q = ts'.take q) ∧ Hid (SM w (lcells ⟨k, n, t, ((r, i), s), x, is, ts⟩ ia ic ta tc) (lcells ⟨k', n', t', ((r', i'), s'), x', is', ts'⟩ ja jc ua uc) wr)) (fun j _ => ts.length - (intOf j).toNat)
                    case atStart => exact ⟨0, Nat.zero_le _, rfl, Lib.hid (by simp), E⟩
                    case round =>
                      clear E d0 d1 hlt hq hle
                      obtain ⟨q, hq, rfl, hle, hE⟩ := hrel
                      have E := Lib.hid hE.out
                      have d0 := cells_at E.out.g
                      have d1 := cells_at E.out.h
                      simp only [lcells] at d0 d1
                      clear hE
                      by_cases hlt : q < ts.length
                      · obtain ⟨⟨⟨yr, yi⟩, ys⟩, hx⟩ : ∃ x, ts[q]? = some x := ⟨ts[q], by simp [hlt]⟩
                        obtain ⟨⟨⟨zr, zi⟩, zs⟩, hy⟩ : ∃ y, ts'[q]? = some y := ⟨ts'[q]'(by have := E6.out; omega), List.getElem?_eq_getElem _⟩
                        obtain ⟨ad, had, c0, c1, c2, hl0⟩ := (Hl.out.tms.below E.out.bel).at hx
                        obtain ⟨ae, hae, e0, e1, e2, hl1⟩ := (Hm.out.tms.below E.out.bel).at hy
                        subst had hae
                        dsimp only at c0 c1 c2 e0 e1 e2
                        have Hx := Lib.hid hx
                        have Hy := Lib.hid hy
                        have hlm : q < ts'.length := by have := E6.out; omega
                        clear hx hy
                        cases hq' : eqD ((yr, yi), ys) ((zr, zi), zs) with
                        | true =>
                          go_wp2_with fail
                          refine region_text [([0, 1, 2, 3, 4, 5, 6, 7, 8, 9, 10], false)] mixed (by kernel_rfl) ?_
                          simp only [wpSegs, List.map_cons, List.map_nil, List.getD_cons_succ, List.getD_cons_zero]
                          go_wp2_with fail
                          refine And.intro (by kernel_rfl) ?_
                          go_wp2_with fail
                          go_roundw
                          case rel => exact ⟨q + 1, by omega, by go_num, Lib.hid (by rw [take_snoc' Hx.out, take_snoc' Hy.out, hle.out, (eqD_iff _ _).1 hq']), Lib.hid (E.out.step (Below.refl _ _).drew)⟩
                          case measure => simp [intOf]; omega
                        | false =>
                          have He := Lib.hid (show ¬ ts = ts' by intro e; subst e; have := Hx.out.symm.trans Hy.out; rw [Option.some.injEq, ← eqD_iff, hq'] at this; cases this)
                          go_wp2_with fail
                          refine region_text [([0, 1, 2, 3, 4, 5, 6, 7, 8, 9, 10], false)] mixed (by kernel_rfl) ?_
                          simp only [wpSegs, List.map_cons, List.map_nil, List.getD_cons_succ, List.getD_cons_zero]
                          go_wp2_with fail
                          refine And.intro (by kernel_rfl) ?_
                          go_wp2_with fail
                          go_ret
                          exact ⟨false, rfl, ⟨fun h => (by cases h), fun h => absurd (show ts = ts' from congrArg Lf.tombs h) He.out⟩, E.out.bel.drew⟩
                      · have ET := Lib.hid (show ts = ts' from take_ext q E6.out (by omega) hle.out)
                        go_wp2_with fail
                        go_ret
                        exact ⟨true, rfl, true_iff' (Lf.ext' E0.out E1.out E2.out E3.out E4.out EI.out ET.out), E.out.bel⟩
end Go.Proofs.Ytmabjghjkgicgaa
