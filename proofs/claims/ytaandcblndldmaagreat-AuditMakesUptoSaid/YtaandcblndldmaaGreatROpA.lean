/- The reference's SamePath and Same of operations: contracts. (printed by wip/tools/genropa.py) | The reference's both (varveref39): contract. (printed by wip/tools/genropb.py) -/
import Derived.Test.YtaandcblndldmaaGreatBatA
import Derived.Test.YtaandcblndldmaaGreatRefLA
import Derived.Test.YtaandcblndldmaaGreatBatC
/- ROpA -/
namespace Go.Proofs.YtaandcblndldmaaGreat
open Go.RowKit
set_option linter.unusedVariables false
set_option linter.unusedSimpArgs false

structure SMO (w : World) (A B : Array Value) (W : World) : Prop where
  g : W.heap[w.heap.size]? = some (.cells A 52 (0, 0))
  h : W.heap[w.heap.size + 1]? = some (.cells B 52 (0, 0))
  bel : Below w.heap.size w W
  BEL : Below ((w.alloc (.cells A 52)).alloc (.cells B 52)).heap.size ((w.alloc (.cells A 52)).alloc (.cells B 52)) W
theorem SMO.of {w W : World} {A B : Array Value} (h : Below ((w.alloc (.cells A 52)).alloc (.cells B 52)).heap.size ((w.alloc (.cells A 52)).alloc (.cells B 52)) W) : SMO w A B W := ⟨(new2 h).1, (new2 h).2.1, (new2 h).2.2.2, h⟩
theorem SMO.step {w W W' : World} {A B : Array Value} (h : SMO w A B W) (hb : Below W.heap.size W W') : SMO w A B W' := SMO.of (below2 h.BEL hb h.BEL.size)
theorem Opn.ext' {k n k' n' : Int} {x x' : ByteArray} {p p' : List ByteArray} {ds ds' : List Dt} (h0 : k = k') (h1 : n = n') (h2 : x = x') (h3 : p = p') (h4 : ds = ds') : (⟨k, n, x, p, ds⟩ : Opn) = ⟨k', n', x', p', ds'⟩ := by subst h0 h1 h2 h3 h4; rfl
set_option maxRecDepth 100000 in
set_option maxHeartbeats 4000000 in
theorem rsameO_any (u v : Ow) (w : World) (hu : OwAt w u) (hv : OwAt w v) (hn1 : u.o.p.length ≤ 1100000) (hn2 : u.o.ds.length ≤ 1100000) (hn3 : v.o.p.length ≤ 1100000) (hn4 : v.o.ds.length ≤ 1100000) :
    Calls Tryz.prog 103 #[.agg #[.int .u8 u.o.k, .slice u.pa u.o.p.length u.pc, .int .i64 u.o.n, .string u.o.x, .slice u.da u.o.ds.length u.dc], .agg #[.int .u8 v.o.k, .slice v.pa v.o.p.length v.pc, .int .i64 v.o.n, .string v.o.x, .slice v.da v.o.ds.length v.dc]] w (IsTo w (u.o = v.o)) := by
  obtain ⟨⟨k, n, x, p, ds⟩, pa, pc, da, dc⟩ := u
  obtain ⟨⟨k', n', x', p', ds'⟩, pa', pc', da', dc'⟩ := v
  have Hl := Lib.hid hu
  have Hm := Lib.hid hv
  dsimp only at hn1 hn2 hn3 hn4 ⊢
  clear hu hv
  cases h0 : (k == k') with
  | false =>
    have He := Lib.hid (show ¬ (k = k') from by simpa using h0)
    have g0 : (k != k') = true := by rw [bne, h0]; rfl
    go_enter Tryz.func103, Tryz.ntmps103
    go_wp2_with fail
    go_ret
    exact no_name (fun h => He.out (congrArg Opn.k h)) (((Below.refl _ _).alloc (Nat.le_refl _) _).alloc (by simp) _)
  | true =>
    have g0 : (k != k') = false := by rw [bne, h0]; rfl
    cases h1 : (n == n') with
    | false =>
      have He := Lib.hid (show ¬ (n = n') from by simpa using h1)
      have g1 : (n != n') = true := by rw [bne, h1]; rfl
      go_enter Tryz.func103, Tryz.ntmps103
      go_wp2_with fail
      go_ret
      exact no_name (fun h => He.out (congrArg Opn.n h)) (((Below.refl _ _).alloc (Nat.le_refl _) _).alloc (by simp) _)
    | true =>
      have g1 : (n != n') = false := by rw [bne, h1]; rfl
      cases h2 : (x.toList == x'.toList) with
      | false =>
        have He := Lib.hid (show ¬ (x = x') from fun e => by subst e; simp at h2)
        have g2 : (x.toList != x'.toList) = true := by rw [bne, h2]; rfl
        go_enter Tryz.func103, Tryz.ntmps103
        go_wp2_with fail
        go_ret
        exact no_name (fun h => He.out (congrArg Opn.x h)) (((Below.refl _ _).alloc (Nat.le_refl _) _).alloc (by simp) _)
      | true =>
        have g2 : (x.toList != x'.toList) = false := by rw [bne, h2]; rfl
        cases h3 : ((p.length : Int) == (p'.length : Int)) with
        | false =>
          have He := Lib.hid (show ¬ (p = p') from fun e => by subst e; simp at h3)
          have g3 : ((p.length : Int) != (p'.length : Int)) = true := by rw [bne, h3]; rfl
          go_enter Tryz.func103, Tryz.ntmps103
          go_wp2_with fail
          go_ret
          exact no_name (fun h => He.out (congrArg Opn.p h)) (((Below.refl _ _).alloc (Nat.le_refl _) _).alloc (by simp) _)
        | true =>
          have g3 : ((p.length : Int) != (p'.length : Int)) = false := by rw [bne, h3]; rfl
          cases h4 : ((ds.length : Int) == (ds'.length : Int)) with
          | false =>
            have He := Lib.hid (show ¬ (ds = ds') from fun e => by subst e; simp at h4)
            have g4 : ((ds.length : Int) != (ds'.length : Int)) = true := by rw [bne, h4]; rfl
            go_enter Tryz.func103, Tryz.ntmps103
            go_wp2_with fail
            go_ret
            exact no_name (fun h => He.out (congrArg Opn.ds h)) (((Below.refl _ _).alloc (Nat.le_refl _) _).alloc (by simp) _)
          | true =>
            have g4 : ((ds.length : Int) != (ds'.length : Int)) = false := by rw [bne, h4]; rfl
            have E0 := Lib.hid (show k = k' by simpa using h0)
            have E1 := Lib.hid (show n = n' by simpa using h1)
            have E2 := Lib.hid (show x = x' by rw [beq_bytes] at h2; simpa using h2)
            have E3 := Lib.hid (show p.length = p'.length by simp at h3; omega)
            have E4 := Lib.hid (show ds.length = ds'.length by simp at h4; omega)
            go_enter Tryz.func103, Tryz.ntmps103
            go_wp2_with fail
            go_loopw [5] (fun j wr => ∃ q : Nat, q ≤ p.length ∧ j = .int .i64 q ∧ Hid (p.take q = p'.take q) ∧ Hid (SMO w (ocells k n x pa p.length pc da ds.length dc) (ocells k' n' x' pa' p'.length pc' da' ds'.length dc') wr)) (fun j _ => p.length - (intOf j).toNat)
            case atStart => exact ⟨0, Nat.zero_le _, rfl, Lib.hid (by simp), Lib.hid (SMO.of (Below.refl _ _))⟩
            case round =>
              clear h0 h1 h2 h3 h4 g0 g1 g2 g3 g4
              obtain ⟨q, hq, rfl, hle, hE⟩ := hrel
              have E := Lib.hid hE.out
              have d0 := cells_at E.out.g
              have d1 := cells_at E.out.h
              simp only [ocells] at d0 d1
              clear hE
              by_cases hlt : q < p.length
              · obtain ⟨y, hx⟩ : ∃ x, p[q]? = some x := ⟨p[q], by simp [hlt]⟩
                obtain ⟨z, hy⟩ : ∃ y, p'[q]? = some y := ⟨p'[q]'(by have := E3.out; omega), List.getElem?_eq_getElem _⟩
                obtain ⟨ad, had, c0, hl0⟩ := (Hl.out.pt.below E.out.bel).at hx
                obtain ⟨ae, hae, e0, hl1⟩ := (Hm.out.pt.below E.out.bel).at hy
                dsimp only at had hae
                subst had hae
                have Hx := Lib.hid hx
                have Hy := Lib.hid hy
                have hlm : q < p'.length := by have := E3.out; omega
                clear hx hy
                by_cases hq' : y = z
                · subst hq'
                  go_wp2_with fail
                  refine region_text [([0, 1, 2, 3, 4, 5, 6, 7, 8, 9, 10], false)] mixed (by kernel_rfl) ?_
                  simp only [wpSegs, List.map_cons, List.map_nil, List.getD_cons_succ, List.getD_cons_zero]
                  go_wp2_with fail
                  refine And.intro (by kernel_rfl) ?_
                  go_wp2_with fail
                  go_roundw
                  case rel => exact ⟨q + 1, by omega, by go_num, Lib.hid (by rw [take_snoc' Hx.out, take_snoc' Hy.out, hle.out]), Lib.hid (E.out.step (Below.refl _ _).drew)⟩
                  case measure => simp [intOf]; omega
                · have q1 : (y.toList == z.toList) = false := by rw [beq_bytes]; simpa using hq'
                  have He := Lib.hid (show ¬ p = p' by intro e; subst e; have := Hx.out.symm.trans Hy.out; rw [Option.some.injEq] at this; exact hq' this)
                  go_wp2_with fail
                  refine region_text [([0, 1, 2, 3, 4, 5, 6, 7, 8, 9, 10], false)] mixed (by kernel_rfl) ?_
                  simp only [wpSegs, List.map_cons, List.map_nil, List.getD_cons_succ, List.getD_cons_zero]
                  go_wp2_with fail
                  refine And.intro (by kernel_rfl) ?_
                  go_wp2_with fail
                  all_goals (go_ret; exact no_name (fun h => He.out (congrArg Opn.p h)) E.out.bel.drew)
              · have EI := Lib.hid (show p = p' from take_ext q E3.out (by omega) hle.out)
                go_wp2_with fail
                go_loopw [6] (fun j wr => ∃ q : Nat, q ≤ ds.length ∧ j = .int .i64 q ∧ Hid (ds.take q = ds'.take q) ∧ Hid (SMO w (ocells k n x pa p.length pc da ds.length dc) (ocells k' n' x' pa' p'.length pc' da' ds'.length dc') wr)) (fun j _ => ds.length - (intOf j).toNat)
                case atStart => exact ⟨0, Nat.zero_le _, rfl, Lib.hid (by simp), E⟩
                case round =>
                  clear E d0 d1 hlt hq hle
                  obtain ⟨q, hq, rfl, hle, hE⟩ := hrel
                  have E := Lib.hid hE.out
                  have d0 := cells_at E.out.g
                  have d1 := cells_at E.out.h
                  simp only [ocells] at d0 d1
                  clear hE
                  by_cases hlt : q < ds.length
                  · obtain ⟨⟨⟨yr, yi⟩, ys⟩, hx⟩ : ∃ x, ds[q]? = some x := ⟨ds[q], by simp [hlt]⟩
                    obtain ⟨⟨⟨zr, zi⟩, zs⟩, hy⟩ : ∃ y, ds'[q]? = some y := ⟨ds'[q]'(by have := E4.out; omega), List.getElem?_eq_getElem _⟩
                    obtain ⟨ad, had, c0, c1, c2, hl0⟩ := (Hl.out.ds.below E.out.bel).at hx
                    obtain ⟨ae, hae, e0, e1, e2, hl1⟩ := (Hm.out.ds.below E.out.bel).at hy
                    dsimp only at had hae
                    subst had hae
                    dsimp only at c0 c1 c2 e0 e1 e2
                    have Hx := Lib.hid hx
                    have Hy := Lib.hid hy
                    have hlm : q < ds'.length := by have := E4.out; omega
                    clear hx hy
                    cases hq' : eqD ((yr, yi), ys) ((zr, zi), zs) with
                    | true =>
                      go_wp2_with fail
                      refine region_text [([0, 1, 2, 3, 4, 5, 6, 7, 8, 9, 10], false)] mixed (by kernel_rfl) ?_
                      simp only [wpSegs, List.map_cons, List.map_nil, List.getD_cons_succ, List.getD_cons_zero]
                      go_wp2_with fail
                      refine And.intro (by kernel_rfl) ?_
                      go_wp2_with fail
                      go_roundw
                      case rel => exact ⟨q + 1, by omega, by go_num, Lib.hid (by rw [take_snoc' Hx.out, take_snoc' Hy.out, hle.out, (eqD_iff _ _).1 hq']), Lib.hid (E.out.step (Below.refl _ _).drew)⟩
                      case measure => simp [intOf]; omega
                    | false =>
                      have He := Lib.hid (show ¬ ds = ds' by intro e; subst e; have := Hx.out.symm.trans Hy.out; rw [Option.some.injEq, ← eqD_iff, hq'] at this; cases this)
                      go_wp2_with fail
                      refine region_text [([0, 1, 2, 3, 4, 5, 6, 7, 8, 9, 10], false)] mixed (by kernel_rfl) ?_
                      simp only [wpSegs, List.map_cons, List.map_nil, List.getD_cons_succ, List.getD_cons_zero]
                      go_wp2_with fail
                      refine And.intro (by kernel_rfl) ?_
                      go_wp2_with fail
                      go_ret
                      exact no_name (fun h => He.out (congrArg Opn.ds h)) E.out.bel.drew
                  · have ET := Lib.hid (show ds = ds' from take_ext q E4.out (by omega) hle.out)
                    go_wp2_with fail
                    go_ret
                    exact yes_name (Opn.ext' E0.out E1.out E2.out EI.out ET.out) E.out.bel
end Go.Proofs.YtaandcblndldmaaGreat

/- ROpB -/
namespace Go.Proofs.YtaandcblndldmaaGreat
open Go.RowKit
set_option linter.unusedVariables false
set_option linter.unusedSimpArgs false

end Go.Proofs.YtaandcblndldmaaGreat
