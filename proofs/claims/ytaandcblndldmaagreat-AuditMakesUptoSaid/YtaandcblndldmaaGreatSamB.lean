/- The reference's Bury, and Same on leaves (varveref05): contracts. | varveref07.Same where both trees are alike: the contract. | varveref12.SameBase where both are alike: the contract. -/
import Derived.Test.YtaandcblndldmaaGreatRefLA
import Derived.Test.YtaandcblndldmaaGreatOwtB
import Derived.Test.YtaandcblndldmaaGreatMeanW
import Derived.Test.YtaandcblndldmaaGreatWitA
/- RefLD -/
namespace Go.Proofs.YtaandcblndldmaaGreat
open Go.RowKit
set_option linter.unusedVariables false
set_option linter.unusedSimpArgs false

/-- two leaves' blocks came first -/
structure SM (w : World) (A B : Array Value) (W : World) : Prop where
  g : W.heap[w.heap.size]? = some (.cells A 178 (0, 0))
  h : W.heap[w.heap.size + 1]? = some (.cells B 178 (0, 0))
  bel : Below w.heap.size w W
  BEL : Below ((w.alloc (.cells A 178)).alloc (.cells B 178)).heap.size ((w.alloc (.cells A 178)).alloc (.cells B 178)) W
theorem SM.of {w W : World} {A B : Array Value} (h : Below ((w.alloc (.cells A 178)).alloc (.cells B 178)).heap.size ((w.alloc (.cells A 178)).alloc (.cells B 178)) W) : SM w A B W := ⟨(new2 h).1, (new2 h).2.1, (new2 h).2.2.2, h⟩
theorem SM.step {w W W' : World} {A B : Array Value} (h : SM w A B W) (hb : Below W.heap.size W W') : SM w A B W' := SM.of (below2 h.BEL hb h.BEL.size)
set_option maxRecDepth 100000 in
set_option maxHeartbeats 4000000 in
theorem rsameL_any (l m : Lf) (ia ta ja ua : Option Addr) (ic tc jc uc : Nat) (w : World) (hl : LfAt w l ia ic ta tc) (hm : LfAt w m ja jc ua uc) :
    Calls Tryz.prog 146 #[lval l ia ic ta tc, lval m ja jc ua uc] w fun e w' => ∃ q : Bool, e = .returned (.bool q) ∧ (q = true ↔ l = m) ∧ Below w.heap.size w w' := by
  obtain ⟨k, n, t, ⟨⟨r, i⟩, s⟩, x, is, ts⟩ := l
  obtain ⟨k', n', t', ⟨⟨r', i'⟩, s'⟩, x', is', ts'⟩ := m
  have hn1 := hl.li
  have hn2 := hm.li
  have hn3 := hl.lt
  have hn4 := hm.lt
  dsimp only at hn1 hn2 hn3 hn4
  have Hl := Lib.hid hl
  have Hm := Lib.hid hm
  clear hl hm
  simp only [lval]
  cases h0 : (k == k') with
  | false =>
    have He := Lib.hid (show ¬ (k = k') from by simpa using h0)
    have g0 : (k != k') = true := by rw [bne, h0]; rfl
    go_enter Tryz.func146, Tryz.ntmps146
    go_wp2_with fail
    go_ret
    exact ⟨false, rfl, ⟨fun h => (by cases h), fun h => absurd (show k = k' from congrArg Lf.k h) He.out⟩, ((Below.refl _ _).alloc (Nat.le_refl _) _).alloc (by simp) _⟩
  | true =>
    have g0 : (k != k') = false := by rw [bne, h0]; rfl
    cases h1 : (n == n') with
    | false =>
      have He := Lib.hid (show ¬ (n = n') from by simpa using h1)
      have g1 : (n != n') = true := by rw [bne, h1]; rfl
      go_enter Tryz.func146, Tryz.ntmps146
      go_wp2_with fail
      go_ret
      exact ⟨false, rfl, ⟨fun h => (by cases h), fun h => absurd (show n = n' from congrArg Lf.n h) He.out⟩, ((Below.refl _ _).alloc (Nat.le_refl _) _).alloc (by simp) _⟩
    | true =>
      have g1 : (n != n') = false := by rw [bne, h1]; rfl
      cases h2 : (t == t') with
      | false =>
        have He := Lib.hid (show ¬ (t = t') from by simpa using h2)
        have g2 : (t != t') = true := by rw [bne, h2]; rfl
        go_enter Tryz.func146, Tryz.ntmps146
        go_wp2_with fail
        go_ret
        exact ⟨false, rfl, ⟨fun h => (by cases h), fun h => absurd (show t = t' from congrArg Lf.t h) He.out⟩, ((Below.refl _ _).alloc (Nat.le_refl _) _).alloc (by simp) _⟩
      | true =>
        have g2 : (t != t') = false := by rw [bne, h2]; rfl
        cases h3 : eqD ((r, i), s) ((r', i'), s') with
        | false =>
          have He := Lib.hid (show ¬ (((r, i), s) = ((r', i'), s')) from fun e => by rw [(eqD_iff _ _).2 e] at h3; cases h3)
          go_enter Tryz.func146, Tryz.ntmps146
          go_wp2_with fail
          go_ret
          exact ⟨false, rfl, ⟨fun h => (by cases h), fun h => absurd (show ((r, i), s) = ((r', i'), s') from congrArg Lf.d h) He.out⟩, ((Below.refl _ _).alloc (Nat.le_refl _) _).alloc (by simp) _⟩
        | true =>
          cases h4 : (x.toList == x'.toList) with
          | false =>
            have He := Lib.hid (show ¬ (x = x') from fun e => by subst e; simp at h4)
            have g4 : (x.toList != x'.toList) = true := by rw [bne, h4]; rfl
            go_enter Tryz.func146, Tryz.ntmps146
            go_wp2_with fail
            go_ret
            exact ⟨false, rfl, ⟨fun h => (by cases h), fun h => absurd (show x = x' from congrArg Lf.x h) He.out⟩, ((Below.refl _ _).alloc (Nat.le_refl _) _).alloc (by simp) _⟩
          | true =>
            have g4 : (x.toList != x'.toList) = false := by rw [bne, h4]; rfl
            cases h5 : ((is.length : Int) == (is'.length : Int)) with
            | false =>
              have He := Lib.hid (show ¬ (is = is') from fun e => by subst e; simp at h5)
              have g5 : ((is.length : Int) != (is'.length : Int)) = true := by rw [bne, h5]; rfl
              go_enter Tryz.func146, Tryz.ntmps146
              go_wp2_with fail
              go_ret
              exact ⟨false, rfl, ⟨fun h => (by cases h), fun h => absurd (show is = is' from congrArg Lf.items h) He.out⟩, ((Below.refl _ _).alloc (Nat.le_refl _) _).alloc (by simp) _⟩
            | true =>
              have g5 : ((is.length : Int) != (is'.length : Int)) = false := by rw [bne, h5]; rfl
              cases h6 : ((ts.length : Int) == (ts'.length : Int)) with
              | false =>
                have He := Lib.hid (show ¬ (ts = ts') from fun e => by subst e; simp at h6)
                have g6 : ((ts.length : Int) != (ts'.length : Int)) = true := by rw [bne, h6]; rfl
                go_enter Tryz.func146, Tryz.ntmps146
                go_wp2_with fail
                go_ret
                exact ⟨false, rfl, ⟨fun h => (by cases h), fun h => absurd (show ts = ts' from congrArg Lf.tombs h) He.out⟩, ((Below.refl _ _).alloc (Nat.le_refl _) _).alloc (by simp) _⟩
              | true =>
                have g6 : ((ts.length : Int) != (ts'.length : Int)) = false := by rw [bne, h6]; rfl
                have E0 := Lib.hid (show k = k' by simpa using h0)
                have E1 := Lib.hid (show n = n' by simpa using h1)
                have E2 := Lib.hid (show t = t' by simpa using h2)
                have E3 := Lib.hid ((eqD_iff _ _).1 h3)
                have E4 := Lib.hid (show x = x' by rw [beq_bytes] at h4; simpa using h4)
                have E5 := Lib.hid (show is.length = is'.length by simp at h5; omega)
                have E6 := Lib.hid (show ts.length = ts'.length by simp at h6; omega)
                go_enter Tryz.func146, Tryz.ntmps146
                go_wp2_with fail
                go_loopw [5] (fun j wr => ∃ q : Nat, q ≤ is.length ∧ j = .int .i64 q ∧ Hid (is.take q = is'.take q) ∧ Hid (SM w (lcells ⟨k, n, t, ((r, i), s), x, is, ts⟩ ia ic ta tc) (lcells ⟨k', n', t', ((r', i'), s'), x', is', ts'⟩ ja jc ua uc) wr)) (fun j _ => is.length - (intOf j).toNat)
                case atStart => exact ⟨0, Nat.zero_le _, rfl, Lib.hid (by simp), Lib.hid (SM.of (Below.refl _ _))⟩
                case round =>
                  clear h0 h1 h2 h3 h4 h5 h6 g0 g1 g2 g4 g5 g6
                  obtain ⟨q, hq, rfl, hle, hE⟩ := hrel
                  have E := Lib.hid hE.out
                  have d0 := cells_at E.out.g
                  have d1 := cells_at E.out.h
                  simp only [lcells] at d0 d1
                  clear hE
                  by_cases hlt : q < is.length
                  · obtain ⟨⟨yt, ⟨⟨yr, yi⟩, ys⟩, yx⟩, hx⟩ : ∃ x, is[q]? = some x := ⟨is[q], by simp [hlt]⟩
                    obtain ⟨⟨zt, ⟨⟨zr, zi⟩, zs⟩, zx⟩, hy⟩ : ∃ y, is'[q]? = some y := ⟨is'[q]'(by have := E5.out; omega), List.getElem?_eq_getElem _⟩
                    obtain ⟨ad, had, ⟨c0, c1, c2, c3, c4⟩, hl0⟩ := (Hl.out.its.below E.out.bel).at hx
                    obtain ⟨ae, hae, ⟨e0, e1, e2, e3, e4⟩, hl1⟩ := (Hm.out.its.below E.out.bel).at hy
                    subst had hae
                    dsimp only at c0 c1 c2 c3 c4 e0 e1 e2 e3 e4
                    have Hx := Lib.hid hx
                    have Hy := Lib.hid hy
                    have hlm : q < is'.length := by have := E5.out; omega
                    clear hx hy
                    cases hq' : eqI ⟨yt, ((yr, yi), ys), yx⟩ ⟨zt, ((zr, zi), zs), zx⟩ with
                    | true =>
                      go_wp2_with fail
                      refine region_text [([0, 1, 2, 3, 4, 5, 6, 7, 8, 9, 10], false)] mixed (by kernel_rfl) ?_
                      simp only [wpSegs, List.map_cons, List.map_nil, List.getD_cons_succ, List.getD_cons_zero]
                      go_wp2_with fail
                      refine And.intro (by kernel_rfl) ?_
                      go_wp2_with fail
                      go_roundw
                      case rel => exact ⟨q + 1, by omega, by go_num, Lib.hid (by rw [take_snoc' Hx.out, take_snoc' Hy.out, hle.out, (eqI_iff _ _).1 hq']), Lib.hid (E.out.step (Below.refl _ _).drew)⟩
                      case measure => simp [intOf]; omega
                    | false =>
                      have He := Lib.hid (show ¬ is = is' by intro e; subst e; have := Hx.out.symm.trans Hy.out; rw [Option.some.injEq, ← eqI_iff, hq'] at this; cases this)
                      go_wp2_with fail
                      refine region_text [([0, 1, 2, 3, 4, 5, 6, 7, 8, 9, 10], false)] mixed (by kernel_rfl) ?_
                      simp only [wpSegs, List.map_cons, List.map_nil, List.getD_cons_succ, List.getD_cons_zero]
                      go_wp2_with fail
                      refine And.intro (by kernel_rfl) ?_
                      go_wp2_with fail
                      go_ret
                      exact ⟨false, rfl, ⟨fun h => (by cases h), fun h => absurd (show is = is' from congrArg Lf.items h) He.out⟩, E.out.bel.drew⟩
                  · have EI := Lib.hid (show is = is' from take_ext q E5.out (by omega) hle.out)
                    go_wp2_with fail
                    go_loopw [6] (fun j wr => ∃ q : Nat, q ≤ ts.length ∧ j = .int .i64 q ∧ Hid (ts.take q = ts'.take q) ∧ Hid (SM w (lcells ⟨k, n, t, ((r, i), s), x, is, ts⟩ ia ic ta tc) (lcells ⟨k', n', t', ((r', i'), s'), x', is', ts'⟩ ja jc ua uc) wr)) (fun j _ => ts.length - (intOf j).toNat)
                    case atStart => exact ⟨0, Nat.zero_le _, rfl, Lib.hid (by simp), E⟩
                    case round =>
                      clear E d0 d1 hlt hq hle
                      obtain ⟨q, hq, rfl, hle, hE⟩ := hrel
                      have E := Lib.hid hE.out
                      have d0 := cells_at E.out.g
                      have d1 := cells_at E.out.h
                      simp only [lcells] at d0 d1
                      clear hE
                      by_cases hlt : q < ts.length
                      · obtain ⟨⟨⟨yr, yi⟩, ys⟩, hx⟩ : ∃ x, ts[q]? = some x := ⟨ts[q], by simp [hlt]⟩
                        obtain ⟨⟨⟨zr, zi⟩, zs⟩, hy⟩ : ∃ y, ts'[q]? = some y := ⟨ts'[q]'(by have := E6.out; omega), List.getElem?_eq_getElem _⟩
                        obtain ⟨ad, had, c0, c1, c2, hl0⟩ := (Hl.out.tms.below E.out.bel).at hx
                        obtain ⟨ae, hae, e0, e1, e2, hl1⟩ := (Hm.out.tms.below E.out.bel).at hy
                        subst had hae
                        dsimp only at c0 c1 c2 e0 e1 e2
                        have Hx := Lib.hid hx
                        have Hy := Lib.hid hy
                        have hlm : q < ts'.length := by have := E6.out; omega
                        clear hx hy
                        cases hq' : eqD ((yr, yi), ys) ((zr, zi), zs) with
                        | true =>
                          go_wp2_with fail
                          refine region_text [([0, 1, 2, 3, 4, 5, 6, 7, 8, 9, 10], false)] mixed (by kernel_rfl) ?_
                          simp only [wpSegs, List.map_cons, List.map_nil, List.getD_cons_succ, List.getD_cons_zero]
                          go_wp2_with fail
                          refine And.intro (by kernel_rfl) ?_
                          go_wp2_with fail
                          go_roundw
                          case rel => exact ⟨q + 1, by omega, by go_num, Lib.hid (by rw [take_snoc' Hx.out, take_snoc' Hy.out, hle.out, (eqD_iff _ _).1 hq']), Lib.hid (E.out.step (Below.refl _ _).drew)⟩
                          case measure => simp [intOf]; omega
                        | false =>
                          have He := Lib.hid (show ¬ ts = ts' by intro e; subst e; have := Hx.out.symm.trans Hy.out; rw [Option.some.injEq, ← eqD_iff, hq'] at this; cases this)
                          go_wp2_with fail
                          refine region_text [([0, 1, 2, 3, 4, 5, 6, 7, 8, 9, 10], false)] mixed (by kernel_rfl) ?_
                          simp only [wpSegs, List.map_cons, List.map_nil, List.getD_cons_succ, List.getD_cons_zero]
                          go_wp2_with fail
                          refine And.intro (by kernel_rfl) ?_
                          go_wp2_with fail
                          go_ret
                          exact ⟨false, rfl, ⟨fun h => (by cases h), fun h => absurd (show ts = ts' from congrArg Lf.tombs h) He.out⟩, E.out.bel.drew⟩
                      · have ET := Lib.hid (show ts = ts' from take_ext q E6.out (by omega) hle.out)
                        go_wp2_with fail
                        go_ret
                        exact ⟨true, rfl, true_iff' (Lf.ext' E0.out E1.out E2.out E3.out E4.out EI.out ET.out), E.out.bel⟩
end Go.Proofs.YtaandcblndldmaaGreat

/- TrS -/
namespace Go.Proofs.YtaandcblndldmaaGreat
open Go.RowKit
set_option linter.unusedVariables false
set_option linter.unusedSimpArgs false

set_option maxRecDepth 100000 in
set_option maxHeartbeats 16000000 in
theorem sameTr_any (n : Nat) : ∀ (m m' : Nat) (a a' : Option Addr) (c c' : Nat) (T U : List Nd) (w : World), TrRd w m a c T → TrRd w m' a' c' U → BdA 1100000 n T → sameT n T U →
    Calls Tryz.prog 102 #[.slice a T.length c, .slice a' U.length c'] w fun e w' => e = .returned (.bool true) ∧ Below w.heap.size w w' := by
  induction n with
  | zero =>
    intro m m' a a' c c' T U w hT hU hB hs
    obtain ⟨rfl, rfl⟩ := hs
    clear hT hU hB
    go_enter Tryz.func102, Tryz.ntmps102
    go_wp2_with fail
    refine wp_loop_rounds 1 ?_
    rw [rounds_succ]
    go_wp2_with fail
    go_ret
    exact ⟨rfl, Below.refl _ _⟩
  | succ n ih =>
    intro m m' a a' c c' T U w hT hU hB hs
    have HT := Lib.hid hT
    have HU := Lib.hid hU
    have HBd := Lib.hid hB
    have Hs := Lib.hid hs
    have hcap := hT.sl.2.2.1
    have hlen := hT.sl.2.1
    have hll := hs.1
    rw [← hll]
    have Hll := Lib.hid hll
    unfold maxLen at hcap
    clear hT hU hB hs hll
    go_enter Tryz.func102, Tryz.ntmps102
    go_wp2_with fail
    go_loopw [5] (fun j wr => ∃ q : Nat, q ≤ T.length ∧ j = .int .i64 q ∧ Hid (Below w.heap.size w wr)) (fun j _ => T.length - (intOf j).toNat)
    case atStart => exact ⟨0, Nat.zero_le _, rfl, Lib.hid (Below.refl _ _)⟩
    case round =>
      obtain ⟨q, hq, rfl, B⟩ := hrel
      by_cases hlt : q < T.length
      · obtain ⟨x, hx⟩ : ∃ x, T[q]? = some x := ⟨T[q], by simp [hlt]⟩
        obtain ⟨y, hy⟩ : ∃ y, U[q]? = some y := ⟨U[q]'(by rw [← Hll.out]; exact hlt), by simp⟩
        cases m with
        | zero => exact absurd HT.out.1 (by intro e; rw [e] at hlt; cases hlt)
        | succ m =>
        cases m' with
        | zero => exact absurd HU.out.1 (by intro e; rw [e] at hy; cases hy)
        | succ m' =>
        obtain ⟨hn, hls, hks⟩ := Hs.out.2 q x y hx hy
        obtain ⟨HLx, HKx⟩ := HT.out.2 x (List.mem_of_getElem? hx)
        obtain ⟨HLy, HKy⟩ := HU.out.2 y (List.mem_of_getElem? hy)
        obtain ⟨b1, b2, b3⟩ := HBd.out.2 x (List.mem_of_getElem? hx)
        have HB3 := Lib.hid b3
        have HB2 := Lib.hid b2
        have hlsl : y.ls.length = x.ls.length := by have h1 := congrArg List.length hls; simpa using h1.symm
        have HLS := Lib.hid hls
        have HKS := Lib.hid hks
        have HX1 := Lib.hid HLx
        have HX2 := Lib.hid HKx
        have HY1 := Lib.hid HLy
        have HY2 := Lib.hid HKy
        have HXX : Hid (∀ W, Below w.heap.size w W → ∃ ad, a = some ad ∧ NdAt W (ad.add (q * 3)) x ∧ ad.block < W.heap.size) := Lib.hid (fun W hW => nds_at (HT.out.below hW).sl hx)
        have HYY : Hid (∀ W, Below w.heap.size w W → ∃ ad, a' = some ad ∧ NdAt W (ad.add (q * 3)) y ∧ ad.block < W.heap.size) := Lib.hid (fun W hW => nds_at (HU.out.below hW).sl hy)
        have BD := Lib.hid (show Below w.heap.size w wr.drew from B.out.trans (((Below.refl wr.heap.size wr).drew).mono B.out.size))
        obtain ⟨ad, had, ⟨c0, c1, c2⟩, hlb⟩ := HXX.out wr B.out
        obtain ⟨ae, hae, ⟨e0, e1, e2⟩, hlb2⟩ := HYY.out wr B.out
        rw [← hn] at e0
        rw [hlsl] at e1
        subst had
        subst hae
        have Hlsl := Lib.hid hlsl
        clear hx hy hn hls hks HLx HKx HLy HKy b2 b3 hlsl
        go_wp2_with fail
        refine region_text [([0, 1, 2, 3, 4, 5, 6, 7, 8, 9, 10, 11, 12, 13, 14, 15, 16, 17, 18, 19, 20, 21, 22, 23, 24, 25, 26, 27, 28, 29, 30, 31, 32, 33, 34, 35, 36, 37, 38, 39], false)] mixed (by kernel_rfl) ?_
        simp only [wpSegs, List.map_cons, List.map_nil, List.getD_cons_succ, List.getD_cons_zero]
        go_wp2_with fail
        refine (ih m m' x.ba y.ba x.bc y.bc x.kids y.kids _ (HX2.out.below BD.out) (HY2.out.below BD.out) HB3.out HKS.out).mono ?_
        rintro e w2 ⟨rfl, hb⟩
        have B2 := Lib.hid (below2 BD.out hb BD.out.size)
        clear hb c0 c1 c2 e0 e1 e2 hlb hlb2
        go_wp2_with fail
        refine And.intro (by kernel_rfl) ?_
        go_wp2_with fail
        generalize hxl : x.ls.length = xl
        have hxl9 : xl ≤ 2000000 := by omega
        go_loopw [6] (fun j wx => ∃ r : Nat, r ≤ xl ∧ j = .int .i64 r ∧ Hid (Below w.heap.size w wx)) (fun j _ => xl - (intOf j).toNat)
        case atStart => exact ⟨0, Nat.zero_le _, rfl, B2⟩
        case round =>
          obtain ⟨r, hr, rfl, G⟩ := hrel
          clear B2
          obtain ⟨ad1, had, ⟨c0, c1, c2⟩, hlb⟩ := HXX.out wr G.out
          obtain ⟨ae1, hae, ⟨e0, e1, e2⟩, hlb2⟩ := HYY.out wr G.out
          obtain rfl := Option.some.inj had
          obtain rfl := Option.some.inj hae
          rw [Hlsl.out, hxl] at e1
          rw [hxl] at c1
          clear had hae c0 c2 e0 e2
          by_cases hrl : r < xl
          · obtain ⟨u, hu⟩ : ∃ u, x.ls[r]? = some u := ⟨x.ls[r]'(by omega), by simp⟩
            obtain ⟨v, hv⟩ : ∃ v, y.ls[r]? = some v := ⟨y.ls[r]'(by rw [Hlsl.out]; omega), by simp⟩
            have huv : u.l = v.l := by
              have h1 : (x.ls.map (·.l))[r]? = some u.l := by rw [List.getElem?_map, hu]; rfl
              have h2 : (y.ls.map (·.l))[r]? = some v.l := by rw [List.getElem?_map, hv]; rfl
              rw [HLS.out, h2] at h1
              exact (Option.some.inj h1).symm
            have Huv := Lib.hid huv
            obtain ⟨i1, i2⟩ := HB2.out u (List.mem_of_getElem? hu)
            have LU := (HX1.out.below G.out).2 u (List.mem_of_getElem? hu)
            have LV := (HY1.out.below G.out).2 v (List.mem_of_getElem? hv)
            have HLU := Lib.hid (show LfAt wr u.l u.ia u.ic u.ta u.tc from ⟨LU.1.its, LU.1.tms, i1, i2⟩)
            have HLV := Lib.hid (show LfAt wr v.l v.ia v.ic v.ta v.tc from ⟨LV.1.its, LV.1.tms, by rw [← huv]; exact i1, by rw [← huv]; exact i2⟩)
            obtain ⟨al, hal, ⟨f0, f1, f2, f3, f4, f5, f6, f7, f8⟩, hlb3⟩ := (HX1.out.below G.out).at hu
            obtain ⟨am, ham, ⟨g0, g1, g2, g3, g4, g5, g6, g7, g8⟩, hlb4⟩ := (HY1.out.below G.out).at hv
            rw [hal] at c1
            rw [ham] at e1
            have GD := Lib.hid (show Below w.heap.size w wr.drew from G.out.trans (((Below.refl wr.heap.size wr).drew).mono G.out.size))
            clear hu hv huv LU LV i1 i2 hxl
            go_wp2_with fail
            refine region_text [([0, 1, 2, 3, 4, 5, 6, 7, 8, 9, 10, 11, 12, 13, 14, 15, 16, 17], false)] mixed (by kernel_rfl) ?_
            simp only [wpSegs, List.map_cons, List.map_nil, List.getD_cons_succ, List.getD_cons_zero]
            go_wp2_with fail
            refine (rsameL_any u.l v.l u.ia u.ta v.ia v.ta u.ic u.tc v.ic v.tc _ (HLU.out.below (Below.refl _ _).drew) (HLV.out.below (Below.refl _ _).drew)).mono ?_
            rintro e w3 ⟨z, rfl, hz, hb⟩
            obtain rfl : z = true := hz.2 Huv.out
            have G3 := Lib.hid (below2 GD.out hb GD.out.size)
            clear hb hz c1 e1 f0 f1 f2 f3 f4 f5 f6 f7 f8 g0 g1 g2 g3 g4 g5 g6 g7 g8 hal ham
            go_wp2_with fail
            refine And.intro (by kernel_rfl) ?_
            go_wp2_with fail
            go_roundw
            case rel => exact ⟨r + 1, by omega, by go_num, G3⟩
            case measure => simp [intOf]; omega
          · go_wp2_with fail
            go_roundw
            case rel => exact ⟨q + 1, by omega, by go_num, G⟩
            case measure => simp [intOf]; omega
      · go_wp2_with fail
        go_ret
        exact ⟨rfl, B.out⟩
end Go.Proofs.YtaandcblndldmaaGreat

/- SamB -/
namespace Go.Proofs.YtaandcblndldmaaGreat
open Go.RowKit
set_option linter.unusedVariables false
set_option linter.unusedSimpArgs false

set_option maxRecDepth 100000 in
set_option maxHeartbeats 8000000 in
theorem sameBase_any (u v : Bw) (m m' : Nat) (w : World) (hu : BwAt w m u) (hv : BwAt w m' v) (hs : SameBw u.b v.b) (hB : BdA 1100000 3 u.b.tr) (hf : u.b.f.length ≤ 1100000) (ht : u.b.tips.length ≤ 1100000) :
    Calls Tryz.prog 44 #[.agg (bwcells u), .agg (bwcells v)] w fun e w' => e = .returned (.bool true) ∧ Below w.heap.size w w' := by
  obtain ⟨⟨num, F, tips, t, tr⟩, fa, fc, ta, tc, ra, rc⟩ := u
  obtain ⟨⟨num', F', tips', t', tr'⟩, fa', fc', ta', tc', ra', rc'⟩ := v
  have HU := Lib.hid hu
  have HV := Lib.hid hv
  have HBd := Lib.hid hB
  have HT := Lib.hid hs.tr
  obtain rfl : num' = num := hs.num
  obtain rfl : F' = F := hs.f
  obtain rfl : tips' = tips := hs.tips
  obtain rfl : t' = t := hs.t
  dsimp only at hf ht
  have E : Hid (Below w.heap.size w ((w.alloc (.cells (basecells num' fa F'.length fc ta tips'.length tc t' ra tr.length rc) 32)).alloc (.cells (basecells num' fa' F'.length fc' ta' tips'.length tc' t' ra' tr'.length rc') 32)) ∧ ((w.alloc (.cells (basecells num' fa F'.length fc ta tips'.length tc t' ra tr.length rc) 32)).alloc (.cells (basecells num' fa' F'.length fc' ta' tips'.length tc' t' ra' tr'.length rc') 32)).heap[w.heap.size]? = some (.cells (basecells num' fa F'.length fc ta tips'.length tc t' ra tr.length rc) 32 (0, 0)) ∧ ((w.alloc (.cells (basecells num' fa F'.length fc ta tips'.length tc t' ra tr.length rc) 32)).alloc (.cells (basecells num' fa' F'.length fc' ta' tips'.length tc' t' ra' tr'.length rc') 32)).heap[w.heap.size + 1]? = some (.cells (basecells num' fa' F'.length fc' ta' tips'.length tc' t' ra' tr'.length rc') 32 (0, 0))) :=
    Lib.hid ⟨((Below.refl _ _).alloc (Nat.le_refl _) _).alloc (by simp) _, (heap_old _ _ (by simp)).trans (heap_new _ _), heap_new2 _ _ _⟩
  clear hu hv hs hB
  simp only [bwcells]
  go_enter Tryz.func44, Tryz.ntmps44
  go_upto_region 1 with (fail)
  generalize ((w.alloc (.cells (basecells num' fa F'.length fc ta tips'.length tc t' ra tr.length rc) 32)).alloc (.cells (basecells num' fa' F'.length fc' ta' tips'.length tc' t' ra' tr'.length rc') 32)) = wa at E ⊢
  have d0 := cells_at E.out.2.1
  have d1 := cells_at E.out.2.2
  have z0 := heap_lt E.out.2.1
  have z1 := heap_lt E.out.2.2
  simp only [basecells] at d0 d1
  go_wp2_with fail
  refine (same_any fa fa' fc fc' F' F' _ (HU.out.f.below E.out.1) (HV.out.f.below E.out.1) hf hf).mono ?_
  rintro e w1 ⟨rfl, hb1⟩
  have B1 := Lib.hid (below2 E.out.1 hb1 E.out.1.size)
  have F1 := Lib.hid ((hb1.block _ z0).trans E.out.2.1)
  have G1 := Lib.hid ((hb1.block _ z1).trans E.out.2.2)
  clear hb1 E d0 d1 z0 z1
  have d0 := cells_at F1.out
  have d1 := cells_at G1.out
  have z0 := heap_lt F1.out
  have z1 := heap_lt G1.out
  simp only [basecells] at d0 d1
  have x2 : decide (F' = F') = true := decide_eq_true rfl
  go_wp2_with fail
  refine (same_any ta ta' tc tc' tips' tips' _ (HU.out.tips.below B1.out) (HV.out.tips.below B1.out) ht ht).mono ?_
  rintro e w2 ⟨rfl, hb1⟩
  have B2 := Lib.hid (below2 B1.out hb1 B1.out.size)
  have F2 := Lib.hid ((hb1.block _ z0).trans F1.out)
  have G2 := Lib.hid ((hb1.block _ z1).trans G1.out)
  clear hb1 d0 d1 z0 z1 B1 F1 G1
  have d0 := cells_at F2.out
  have d1 := cells_at G2.out
  have z0 := heap_lt F2.out
  have z1 := heap_lt G2.out
  simp only [basecells] at d0 d1
  have x3 : decide (tips' = tips') = true := decide_eq_true rfl
  go_wp2_with fail
  refine (sameTr_any 3 m m' ra ra' rc rc' tr tr' _ (HU.out.tr.below B2.out) (HV.out.tr.below B2.out) HBd.out HT.out).mono ?_
  rintro e w3 ⟨rfl, hb1⟩
  have B3 := Lib.hid (below2 B2.out hb1 B2.out.size)
  clear hb1
  go_wp2_with fail
  go_ret
  exact ⟨rfl, B3.out⟩
theorem sameT.symm : ∀ {n : Nat} {T U : List Nd}, sameT n T U → sameT n U T
  | 0, _, _, h => ⟨h.2, h.1⟩
  | n + 1, _, _, h => ⟨h.1.symm, fun i x y hx hy => by
      obtain ⟨h1, h2, h3⟩ := h.2 i y x hy hx
      exact ⟨h1.symm, h2.symm, sameT.symm h3⟩⟩
theorem sameT.trans : ∀ {n : Nat} {T U V : List Nd}, sameT n T U → sameT n U V → sameT n T V
  | 0, _, _, _, h, k => ⟨h.1, k.2⟩
  | n + 1, T, U, V, h, k => ⟨h.1.trans k.1, fun i x z hx hz => by
      have hi := (List.getElem?_eq_some_iff.1 hx).1
      have hy : U[i]? = some (U[i]'(by rw [← h.1]; exact hi)) := List.getElem?_eq_getElem _
      obtain ⟨a1, a2, a3⟩ := h.2 i x _ hx hy
      obtain ⟨b1, b2, b3⟩ := k.2 i _ z hy hz
      exact ⟨a1.trans b1, a2.trans b2, sameT.trans a3 b3⟩⟩
theorem SameBw.symm {u v : Bs} (h : SameBw u v) : SameBw v u := ⟨h.num.symm, h.f.symm, h.tips.symm, h.t.symm, h.tr.symm⟩
theorem SameBw.trans {u v x : Bs} (h : SameBw u v) (k : SameBw v x) : SameBw u x := ⟨k.num.trans h.num, k.f.trans h.f, k.tips.trans h.tips, k.t.trans h.t, h.tr.trans k.tr⟩
end Go.Proofs.YtaandcblndldmaaGreat
