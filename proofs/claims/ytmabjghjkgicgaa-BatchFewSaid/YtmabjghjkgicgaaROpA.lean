/- The reference's SamePath and Same of operations: contracts. (printed by wip/tools/genropa.py) | The reference's both (varveref39): contract. (printed by wip/tools/genropb.py) -/
import Derived.Test.YtmabjghjkgicgaaBatA
import Derived.Test.YtmabjghjkgicgaaRefLA
import Derived.Test.YtmabjghjkgicgaaFuseA
/- ROpA -/
namespace Go.Proofs.Ytmabjghjkgicgaa
open Go.RowKit
set_option linter.unusedVariables false
set_option linter.unusedSimpArgs false

set_option maxHeartbeats 4000000 in
theorem samePath_any (a b : Option Addr) (c d : Nat) (l m : List ByteArray) (w : World) (hv : Strs w a c l) (hu : Strs w b d m) (hn : l.length ≤ 1000000) (hm : m.length ≤ 1000000) :
    Calls Try.prog 75 #[.slice a l.length c, .slice b m.length d] w (IsTo w (l = m)) := by
  have Hv := Lib.hid hv
  have Hu := Lib.hid hu
  clear hv hu
  by_cases hl : l.length = m.length
  · have Hl := Lib.hid hl
    rw [← hl]
    clear hl
    go_enter Try.func75, Try.ntmps75
    go_wp2_with fail
    go_loopw [5] (fun j wr => ∃ k : Nat, k ≤ l.length ∧ j = .int .i64 k ∧ Hid (l.take k = m.take k) ∧ Below w.heap.size w wr) (fun j _ => l.length - (intOf j).toNat)
    case atStart => exact ⟨0, Nat.zero_le _, rfl, Lib.hid (by simp), Below.refl _ _⟩
    case round =>
      obtain ⟨k, hk, rfl, hle, hb⟩ := hrel
      have Hb := Lib.hid hb
      clear hb
      by_cases hlt : k < l.length
      · have hlm : k < m.length := by have := Hl.out; omega
        obtain ⟨x, hx⟩ : ∃ x, l[k]? = some x := ⟨l[k], by simp [hlt]⟩
        obtain ⟨y, hy⟩ : ∃ y, m[k]? = some y := ⟨m[k], by simp [hlm]⟩
        obtain ⟨ad, had, d0, hl0⟩ := (Hv.out.below Hb.out).at hx
        obtain ⟨ae, hae, e0, hl1⟩ := (Hu.out.below Hb.out).at hy
        subst had hae
        have Hx := Lib.hid hx
        have Hy := Lib.hid hy
        clear hx hy
        by_cases hq : x = y
        · subst hq
          go_wp2_with fail
          refine region_text [([0, 1, 2, 3, 4, 5, 6, 7, 8], false)] mixed (by kernel_rfl) ?_
          simp only [wpSegs, List.map_cons, List.map_nil, List.getD_cons_succ, List.getD_cons_zero]
          go_wp2_with fail
          refine And.intro (by kernel_rfl) ?_
          go_wp2_with fail
          go_roundw
          case rel => exact ⟨k + 1, by omega, by go_num, Lib.hid (by rw [take_snoc' Hx.out, take_snoc' Hy.out, hle.out]), below_drewN Hb.out _⟩
          case measure => simp [intOf]; omega
        · have q1 : (x.toList == y.toList) = false := by rw [beq_bytes]; simpa using hq
          have He := Lib.hid (show ¬ l = m by intro e; subst e; have := Hx.out.symm.trans Hy.out; rw [Option.some.injEq] at this; exact hq this)
          go_wp2_with fail
          refine region_text [([0, 1, 2, 3, 4, 5, 6, 7, 8], false)] mixed (by kernel_rfl) ?_
          simp only [wpSegs, List.map_cons, List.map_nil, List.getD_cons_succ, List.getD_cons_zero]
          go_wp2_with fail
          refine And.intro (by kernel_rfl) ?_
          go_wp2_with fail
          all_goals (go_ret; exact no_name He.out (below_drewN Hb.out _))
      · have He := Lib.hid (show l = m from take_ext k Hl.out (by omega) hle.out)
        go_wp2_with fail
        go_ret
        exact yes_name He.out Hb.out
  · have He := Lib.hid (show ¬ l = m from fun e => hl (by rw [e]))
    have q2 : ((l.length : Int) != (m.length : Int)) = true := by simp; omega
    go_enter Try.func75, Try.ntmps75
    go_wp2_with fail
    all_goals (go_ret; exact no_name He.out (Below.refl _ _))
structure SMO (w : World) (A B : Array Value) (W : World) : Prop where
  g : W.heap[w.heap.size]? = some (.cells A 35 (0, 0))
  h : W.heap[w.heap.size + 1]? = some (.cells B 35 (0, 0))
  bel : Below w.heap.size w W
  BEL : Below ((w.alloc (.cells A 35)).alloc (.cells B 35)).heap.size ((w.alloc (.cells A 35)).alloc (.cells B 35)) W
theorem SMO.of {w W : World} {A B : Array Value} (h : Below ((w.alloc (.cells A 35)).alloc (.cells B 35)).heap.size ((w.alloc (.cells A 35)).alloc (.cells B 35)) W) : SMO w A B W := ⟨(new2 h).1, (new2 h).2.1, (new2 h).2.2.2, h⟩
theorem SMO.step {w W W' : World} {A B : Array Value} (h : SMO w A B W) (hb : Below W.heap.size W W') : SMO w A B W' := SMO.of (below2 h.BEL hb h.BEL.size)
theorem Opn.ext' {k n k' n' : Int} {x x' : ByteArray} {p p' : List ByteArray} {ds ds' : List Dt} (h0 : k = k') (h1 : n = n') (h2 : x = x') (h3 : p = p') (h4 : ds = ds') : (⟨k, n, x, p, ds⟩ : Opn) = ⟨k', n', x', p', ds'⟩ := by subst h0 h1 h2 h3 h4; rfl
set_option maxRecDepth 100000 in
set_option maxHeartbeats 4000000 in
theorem rsameO_any (u v : Ow) (w : World) (hu : OwAt w u) (hv : OwAt w v) (hn1 : u.o.p.length ≤ 1000000) (hn2 : u.o.ds.length ≤ 1000000) (hn3 : v.o.p.length ≤ 1000000) (hn4 : v.o.ds.length ≤ 1000000) :
    Calls Try.prog 39 #[.agg #[.int .u8 u.o.k, .slice u.pa u.o.p.length u.pc, .int .i64 u.o.n, .string u.o.x, .slice u.da u.o.ds.length u.dc], .agg #[.int .u8 v.o.k, .slice v.pa v.o.p.length v.pc, .int .i64 v.o.n, .string v.o.x, .slice v.da v.o.ds.length v.dc]] w (IsTo w (u.o = v.o)) := by
  obtain ⟨⟨k, n, x, p, ds⟩, pa, pc, da, dc⟩ := u
  obtain ⟨⟨k', n', x', p', ds'⟩, pa', pc', da', dc'⟩ := v
  have Hl := Lib.hid hu
  have Hm := Lib.hid hv
  dsimp only at hn1 hn2 hn3 hn4 ⊢
  clear hu hv
  cases h0 : (k == k') with
  | false =>
    have He := Lib.hid (show ¬ (k = k') from by simpa using h0)
    have g0 : (k != k') = true := by rw [bne, h0]; rfl
    go_enter Try.func39, Try.ntmps39
    go_wp2_with fail
    go_ret
    exact no_name (fun h => He.out (congrArg Opn.k h)) (((Below.refl _ _).alloc (Nat.le_refl _) _).alloc (by simp) _)
  | true =>
    have g0 : (k != k') = false := by rw [bne, h0]; rfl
    cases h1 : (n == n') with
    | false =>
      have He := Lib.hid (show ¬ (n = n') from by simpa using h1)
      have g1 : (n != n') = true := by rw [bne, h1]; rfl
      go_enter Try.func39, Try.ntmps39
      go_wp2_with fail
      go_ret
      exact no_name (fun h => He.out (congrArg Opn.n h)) (((Below.refl _ _).alloc (Nat.le_refl _) _).alloc (by simp) _)
    | true =>
      have g1 : (n != n') = false := by rw [bne, h1]; rfl
      cases h2 : (x.toList == x'.toList) with
      | false =>
        have He := Lib.hid (show ¬ (x = x') from fun e => by subst e; simp at h2)
        have g2 : (x.toList != x'.toList) = true := by rw [bne, h2]; rfl
        go_enter Try.func39, Try.ntmps39
        go_wp2_with fail
        go_ret
        exact no_name (fun h => He.out (congrArg Opn.x h)) (((Below.refl _ _).alloc (Nat.le_refl _) _).alloc (by simp) _)
      | true =>
        have g2 : (x.toList != x'.toList) = false := by rw [bne, h2]; rfl
        cases h3 : ((p.length : Int) == (p'.length : Int)) with
        | false =>
          have He := Lib.hid (show ¬ (p = p') from fun e => by subst e; simp at h3)
          have g3 : ((p.length : Int) != (p'.length : Int)) = true := by rw [bne, h3]; rfl
          go_enter Try.func39, Try.ntmps39
          go_wp2_with fail
          go_ret
          exact no_name (fun h => He.out (congrArg Opn.p h)) (((Below.refl _ _).alloc (Nat.le_refl _) _).alloc (by simp) _)
        | true =>
          have g3 : ((p.length : Int) != (p'.length : Int)) = false := by rw [bne, h3]; rfl
          cases h4 : ((ds.length : Int) == (ds'.length : Int)) with
          | false =>
            have He := Lib.hid (show ¬ (ds = ds') from fun e => by subst e; simp at h4)
            have g4 : ((ds.length : Int) != (ds'.length : Int)) = true := by rw [bne, h4]; rfl
            go_enter Try.func39, Try.ntmps39
            go_wp2_with fail
            go_ret
            exact no_name (fun h => He.out (congrArg Opn.ds h)) (((Below.refl _ _).alloc (Nat.le_refl _) _).alloc (by simp) _)
          | true =>
            have g4 : ((ds.length : Int) != (ds'.length : Int)) = false := by rw [bne, h4]; rfl
            have E0 := Lib.hid (show k = k' by simpa using h0)
            have E1 := Lib.hid (show n = n' by simpa using h1)
            have E2 := Lib.hid (show x = x' by rw [beq_bytes] at h2; simpa using h2)
            have E3 := Lib.hid (show p.length = p'.length by simp at h3; omega)
            have E4 := Lib.hid (show ds.length = ds'.length by simp at h4; omega)
            go_enter Try.func39, Try.ntmps39
            go_wp2_with fail
            go_loopw [5] (fun j wr => ∃ q : Nat, q ≤ p.length ∧ j = .int .i64 q ∧ Hid (p.take q = p'.take q) ∧ Hid (SMO w (ocells k n x pa p.length pc da ds.length dc) (ocells k' n' x' pa' p'.length pc' da' ds'.length dc') wr)) (fun j _ => p.length - (intOf j).toNat)
            case atStart => exact ⟨0, Nat.zero_le _, rfl, Lib.hid (by simp), Lib.hid (SMO.of (Below.refl _ _))⟩
            case round =>
              clear h0 h1 h2 h3 h4 g0 g1 g2 g3 g4
              obtain ⟨q, hq, rfl, hle, hE⟩ := hrel
              have E := Lib.hid hE.out
              have d0 := cells_at E.out.g
              have d1 := cells_at E.out.h
              simp only [ocells] at d0 d1
              clear hE
              by_cases hlt : q < p.length
              · obtain ⟨y, hx⟩ : ∃ x, p[q]? = some x := ⟨p[q], by simp [hlt]⟩
                obtain ⟨z, hy⟩ : ∃ y, p'[q]? = some y := ⟨p'[q]'(by have := E3.out; omega), List.getElem?_eq_getElem _⟩
                obtain ⟨ad, had, c0, hl0⟩ := (Hl.out.pt.below E.out.bel).at hx
                obtain ⟨ae, hae, e0, hl1⟩ := (Hm.out.pt.below E.out.bel).at hy
                dsimp only at had hae
                subst had hae
                have Hx := Lib.hid hx
                have Hy := Lib.hid hy
                have hlm : q < p'.length := by have := E3.out; omega
                clear hx hy
                by_cases hq' : y = z
                · subst hq'
                  go_wp2_with fail
                  refine region_text [([0, 1, 2, 3, 4, 5, 6, 7, 8, 9, 10], false)] mixed (by kernel_rfl) ?_
                  simp only [wpSegs, List.map_cons, List.map_nil, List.getD_cons_succ, List.getD_cons_zero]
                  go_wp2_with fail
                  refine And.intro (by kernel_rfl) ?_
                  go_wp2_with fail
                  go_roundw
                  case rel => exact ⟨q + 1, by omega, by go_num, Lib.hid (by rw [take_snoc' Hx.out, take_snoc' Hy.out, hle.out]), Lib.hid (E.out.step (Below.refl _ _).drew)⟩
                  case measure => simp [intOf]; omega
                · have q1 : (y.toList == z.toList) = false := by rw [beq_bytes]; simpa using hq'
                  have He := Lib.hid (show ¬ p = p' by intro e; subst e; have := Hx.out.symm.trans Hy.out; rw [Option.some.injEq] at this; exact hq' this)
                  go_wp2_with fail
                  refine region_text [([0, 1, 2, 3, 4, 5, 6, 7, 8, 9, 10], false)] mixed (by kernel_rfl) ?_
                  simp only [wpSegs, List.map_cons, List.map_nil, List.getD_cons_succ, List.getD_cons_zero]
                  go_wp2_with fail
                  refine And.intro (by kernel_rfl) ?_
                  go_wp2_with fail
                  all_goals (go_ret; exact no_name (fun h => He.out (congrArg Opn.p h)) E.out.bel.drew)
              · have EI := Lib.hid (show p = p' from take_ext q E3.out (by omega) hle.out)
                go_wp2_with fail
                go_loopw [6] (fun j wr => ∃ q : Nat, q ≤ ds.length ∧ j = .int .i64 q ∧ Hid (ds.take q = ds'.take q) ∧ Hid (SMO w (ocells k n x pa p.length pc da ds.length dc) (ocells k' n' x' pa' p'.length pc' da' ds'.length dc') wr)) (fun j _ => ds.length - (intOf j).toNat)
                case atStart => exact ⟨0, Nat.zero_le _, rfl, Lib.hid (by simp), E⟩
                case round =>
                  clear E d0 d1 hlt hq hle
                  obtain ⟨q, hq, rfl, hle, hE⟩ := hrel
                  have E := Lib.hid hE.out
                  have d0 := cells_at E.out.g
                  have d1 := cells_at E.out.h
                  simp only [ocells] at d0 d1
                  clear hE
                  by_cases hlt : q < ds.length
                  · obtain ⟨⟨⟨yr, yi⟩, ys⟩, hx⟩ : ∃ x, ds[q]? = some x := ⟨ds[q], by simp [hlt]⟩
                    obtain ⟨⟨⟨zr, zi⟩, zs⟩, hy⟩ : ∃ y, ds'[q]? = some y := ⟨ds'[q]'(by have := E4.out; omega), List.getElem?_eq_getElem _⟩
                    obtain ⟨ad, had, c0, c1, c2, hl0⟩ := (Hl.out.ds.below E.out.bel).at hx
                    obtain ⟨ae, hae, e0, e1, e2, hl1⟩ := (Hm.out.ds.below E.out.bel).at hy
                    dsimp only at had hae
                    subst had hae
                    dsimp only at c0 c1 c2 e0 e1 e2
                    have Hx := Lib.hid hx
                    have Hy := Lib.hid hy
                    have hlm : q < ds'.length := by have := E4.out; omega
                    clear hx hy
                    cases hq' : eqD ((yr, yi), ys) ((zr, zi), zs) with
                    | true =>
                      go_wp2_with fail
                      refine region_text [([0, 1, 2, 3, 4, 5, 6, 7, 8, 9, 10], false)] mixed (by kernel_rfl) ?_
                      simp only [wpSegs, List.map_cons, List.map_nil, List.getD_cons_succ, List.getD_cons_zero]
                      go_wp2_with fail
                      refine And.intro (by kernel_rfl) ?_
                      go_wp2_with fail
                      go_roundw
                      case rel => exact ⟨q + 1, by omega, by go_num, Lib.hid (by rw [take_snoc' Hx.out, take_snoc' Hy.out, hle.out, (eqD_iff _ _).1 hq']), Lib.hid (E.out.step (Below.refl _ _).drew)⟩
                      case measure => simp [intOf]; omega
                    | false =>
                      have He := Lib.hid (show ¬ ds = ds' by intro e; subst e; have := Hx.out.symm.trans Hy.out; rw [Option.some.injEq, ← eqD_iff, hq'] at this; cases this)
                      go_wp2_with fail
                      refine region_text [([0, 1, 2, 3, 4, 5, 6, 7, 8, 9, 10], false)] mixed (by kernel_rfl) ?_
                      simp only [wpSegs, List.map_cons, List.map_nil, List.getD_cons_succ, List.getD_cons_zero]
                      go_wp2_with fail
                      refine And.intro (by kernel_rfl) ?_
                      go_wp2_with fail
                      go_ret
                      exact no_name (fun h => He.out (congrArg Opn.ds h)) E.out.bel.drew
                  · have ET := Lib.hid (show ds = ds' from take_ext q E4.out (by omega) hle.out)
                    go_wp2_with fail
                    go_ret
                    exact yes_name (Opn.ext' E0.out E1.out E2.out EI.out ET.out) E.out.bel
end Go.Proofs.Ytmabjghjkgicgaa

/- ROpB -/
namespace Go.Proofs.Ytmabjghjkgicgaa
open Go.RowKit
set_option linter.unusedVariables false
set_option linter.unusedSimpArgs false

theorem both_nin {v : List Dt} (hv : v.Pairwise ltD) {x : Dt} {k : Nat} (h1 : ∀ j y, j < k → v[j]? = some y → lessD y x = true) (h2 : ∀ y, v[k]? = some y → lessD y x = false) (h3 : ∀ y, v[k]? = some y → y ≠ x) : x ∉ v := fun hm => by
  obtain ⟨j, hj⟩ := List.mem_iff_getElem?.1 hm
  rcases Nat.lt_trichotomy j k with h | h | h
  · have := h1 j x h hj
    exact ltD_irrefl x this
  · subst h
    exact h3 x hj rfl
  · obtain ⟨hjl, hje⟩ := List.getElem?_eq_some_iff.1 hj
    have hk : k < v.length := by omega
    have := List.pairwise_iff_getElem.1 hv k j hk hjl h
    rw [hje] at this
    have h4 := h2 v[k] (by simp [hk])
    unfold ltD at this
    rw [h4] at this
    cases this
theorem both_in {v A : List Dt} {k : Nat} {x : Dt} (hx : A[k]? = some x) (hm : ∀ d, d ∈ v ↔ d ∈ A.take k) (hv : x ∈ v) : ∀ d, d ∈ v ↔ d ∈ A.take (k + 1) := fun d => by
  rw [take_snoc' hx, List.mem_append, List.mem_singleton, ← hm d]
  exact ⟨.inl, fun h => h.elim id (fun e => e ▸ hv)⟩
theorem both_put {v A : List Dt} {k : Nat} {x : Dt} (hx : A[k]? = some x) (hm : ∀ d, d ∈ v ↔ d ∈ A.take k) : ∀ d, d ∈ buryP v x ↔ d ∈ A.take (k + 1) := fun d => by
  rw [take_snoc' hx, List.mem_append, List.mem_singleton, ← hm d, mem_buryP]
def JB (w1 : World) (A : List Dt) (o j : Value) (wr : World) : Prop := ∃ (k : Nat) (va : Option Addr) (vc : Nat) (v : List Dt), k ≤ A.length ∧ j = .int .i64 k ∧ o = .slice va v.length vc ∧ v.length ≤ k ∧ Hid (v.Pairwise ltD) ∧ Hid (∀ d, d ∈ v ↔ d ∈ A.take k) ∧ Hid (OwnD wr w1.heap.size va vc v) ∧ Below w1.heap.size w1 wr
set_option maxRecDepth 100000 in
set_option maxHeartbeats 4000000 in
theorem rboth39_any (a b : Option Addr) (c d : Nat) (l m : List Dt) (w : World) (hv : Vec w a c l) (hu : Vec w b d m) (hn : l.length ≤ 1000000) (hm : m.length ≤ 1000000) :
    Calls Try.prog 76 #[.slice a l.length c, .slice b m.length d] w fun e w' => ∃ a' c' y, e = .returned (.slice a' (List.length y) c') ∧ TombsOf l m y ∧ OwnD w' w.heap.size a' c' y ∧ Below w.heap.size w w' := by
  have Hv := Lib.hid hv
  have Hu := Lib.hid hu
  clear hv hu
  go_enter Try.func76, Try.ntmps76
  go_wp2_with (at_builtin; go_must (refine wpList_appD rfl _ _ rfl w.heap.size (some ⟨w.heap.size, 0, none⟩) 0 [] rfl (OwnD.made w (Nat.le_refl _)) a c l rfl (Hv.out.below ((Below.refl _ _).alloc (Nat.le_refl _) _)) ?n1 ?b1 ?_))
  case n1 => simp; omega
  case b1 => simp
  intro v' a1 c1 wa hva hoa hba _
  have hB1 : Below w.heap.size w wa := ((Below.refl _ _).alloc (Nat.le_refl _) _).trans hba
  have HB1 := Lib.hid hB1
  have Hoa := Lib.hid hoa
  obtain rfl : v' = l := by simpa using hva
  clear hva hoa hba hB1
  go_wp2_with (at_builtin; go_must (refine wpList_appD rfl _ _ rfl w.heap.size a1 c1 v' rfl Hoa.out b d m rfl (Hu.out.below HB1.out) ?n2 ?b2 ?_))
  case n2 => omega
  case b2 => exact HB1.out.size
  intro A aa ac w1 hA hoA hb1 _
  have hAl : A.length ≤ 2000000 := by rw [hA, List.length_append]; omega
  have HA := Lib.hid hA
  have HB2 := Lib.hid (HB1.out.trans hb1)
  have HoA := Lib.hid hoA
  have hcA := hoA.vec.cap
  clear hA hoA hb1
  go_wp2_with fail
  go_loopw [5, 7] (fun o j wr => JB w1 A o j wr) (fun _ j _ => A.length - (intOf j).toNat)
  case atStart => exact ⟨0, none, 0, [], Nat.zero_le _, rfl, rfl, Nat.le_refl _, Lib.hid List.Pairwise.nil, Lib.hid (by simp), Lib.hid (OwnD.nil _ _), Below.refl _ _⟩
  case round =>
    obtain ⟨k, va, vc, v, hk, rfl, rfl, hvk, hpw, hmem, ho, hb⟩ := hrel
    have Hb := Lib.hid hb
    have hz := hb.size
    have hcv := ho.out.vec.cap
    clear hb
    by_cases hlt : k < A.length
    · obtain ⟨⟨⟨xr, xi⟩, xs⟩, hx⟩ : ∃ x, A[k]? = some x := ⟨A[k], by simp [hlt]⟩
      have Hx := Lib.hid hx
      clear hx
      go_wp2_with fail
      go_loopw [8] (fun j wx => ∃ q : Nat, q ≤ v.length ∧ j = .int .i64 q ∧ Hid (∀ (j : Nat) (y : Dt), j < q → v[j]? = some y → lessD y ((xr, xi), xs) = true) ∧ Hid (OwnD wx w1.heap.size va vc v) ∧ Below w1.heap.size w1 wx) (fun j _ => v.length - (intOf j).toNat)
      case atStart => exact ⟨0, Nat.zero_le _, rfl, Lib.hid (fun j y h => absurd h (Nat.not_lt_zero _)), ho, Hb.out⟩
      case round =>
        clear Hb ho hz
        obtain ⟨q, hq, rfl, hup, ho, hb⟩ := hrel
        have Hb := Lib.hid hb
        have hz := hb.size
        clear hb
        obtain ⟨ae, hae, e0, e1, e2, hl1⟩ := (HoA.out.vec.below Hb.out).at Hx.out
        dsimp only at e0 e1 e2
        subst hae
        by_cases hqv : q < v.length
        · obtain ⟨⟨⟨r, i⟩, s⟩, hy⟩ : ∃ x, v[q]? = some x := ⟨v[q], by simp [hqv]⟩
          obtain ⟨ad, had, d0, d1, d2, hl0⟩ := ho.out.vec.at hy
          subst had
          dsimp only at d0 d1 d2
          have Hy := Lib.hid hy
          clear hy
          go_wp2_with fail
          refine region_text [([0, 1, 2, 3, 4, 5, 6, 7, 8, 9, 10, 11, 12, 13, 14], false)] mixed (by kernel_rfl) ?_
          simp only [wpSegs, List.map_cons, List.map_nil, List.getD_cons_succ, List.getD_cons_zero]
          go_wp2_with fail
          refine (rless_any r i s xr xi xs _).mono ?_
          rintro e w2 ⟨rfl, hb2⟩
          have hb2' := ((Below.refl _ wr).drew).trans hb2
          have Hb2 := Lib.hid (below2 Hb.out hb2' Hb.out.size)
          have Ho2 := Lib.hid (ho.out.below hb2')
          have hz2 := Hb2.out.size
          clear hb2 hb2' d0 d1 d2 e0 e1 e2 ho hl0 hl1
          cases ha : lessD ((r, i), s) ((xr, xi), xs) with
          | true =>
            have Ha := Lib.hid ha
            clear ha
            go_wp2_with fail
            refine And.intro (by kernel_rfl) ?_
            go_wp2_with fail
            go_roundw
            case rel => exact ⟨q + 1, by omega, by go_num, Lib.hid (lt_snoc (p := fun y => lessD y ((xr, xi), xs) = true) hup.out Hy.out Ha.out), Ho2, Hb2.out⟩
            case measure => simp [intOf]; omega
          | false =>
            have Ha := Lib.hid ha
            clear ha
            obtain ⟨ae', hae, e0, e1, e2, hl1⟩ := (HoA.out.vec.below Hb2.out).at Hx.out
            dsimp only at e0 e1 e2
            cases hae
            obtain ⟨ad', had, d0, d1, d2, hl0⟩ := Ho2.out.vec.at Hy.out
            cases had
            dsimp only at d0 d1 d2
            cases hq' : eqD ((r, i), s) ((xr, xi), xs) with
            | true =>
              have Hin := Lib.hid (show ((xr, xi), xs) ∈ v from (eqD_iff _ _).1 hq' ▸ List.mem_of_getElem? Hy.out)
              go_wp2_with fail
              refine And.intro (by kernel_rfl) ?_
              go_wp2_with fail
              refine region_text [([0, 1, 2, 3, 4, 5, 6, 7, 8, 9, 10, 11, 12, 13, 14], false)] mixed (by kernel_rfl) ?_
              simp only [wpSegs, List.map_cons, List.map_nil, List.getD_cons_succ, List.getD_cons_zero]
              go_wp2_with fail
              refine And.intro (by kernel_rfl) ?_
              go_wp2_with fail
              go_roundw
              case rel => exact ⟨k + 1, _, vc, v, by omega, by go_num, rfl, by omega, hpw, Lib.hid (both_in Hx.out hmem.out Hin.out), Lib.hid (Ho2.out.below (Below.refl _ _).drew), Hb2.out.drew⟩
              case measure => simp [intOf]; omega
            | false =>
              have Hnin := Lib.hid (both_nin hpw.out hup.out (fun y hy => by rw [Hy.out] at hy; cases hy; exact Ha.out) (fun y hy e => by rw [Hy.out] at hy; cases hy; rw [(eqD_iff _ _).2 e] at hq'; cases hq'))
              have Hend := Lib.hid (bury_end Hnin.out hup.out (fun y hy => by rw [Hy.out] at hy; cases hy; exact Ha.out))
              go_wp2_with fail
              refine And.intro (by kernel_rfl) ?_
              go_wp2_with fail
              refine region_text [([0, 1, 2, 3, 4, 5, 6, 7, 8, 9, 10, 11, 12, 13, 14], false)] mixed (by kernel_rfl) ?_
              simp only [wpSegs, List.map_cons, List.map_nil, List.getD_cons_succ, List.getD_cons_zero]
              go_wp2_with fail
              refine And.intro (by kernel_rfl) ?_
              obtain ⟨sa, sc, u, hu, hsl, hits⟩ := cutD (some ad) vc v q (by omega) hcv
              have hhi := slice_hiD (some ad) v.length vc q (by omega)
              have hul := Lib.hid (show u.length = v.length - q by rw [hu]; simp)
              have htl : (v.take q).length = q := by rw [List.length_take]; omega
              have Hits := Lib.hid hits
              have Hu' := Lib.hid hu
              clear hits hu
              obtain ⟨T, hT⟩ : ∃ T, T = v.take q := ⟨_, rfl⟩
              have hTl := Lib.hid (show T.length = q by rw [hT]; exact htl)
              have HT := Lib.hid hT
              clear hT htl
              go_wp2_with (at_builtin; go_must (refine wpList_appD rfl _ _ rfl w2.heap.size _ 0 [] rfl ?o1 (some ad) vc T (by rw [hTl.out]; rfl) ?s1 ?n1 ?b1 ?_))
              case o1 => exact OwnD.made _ (by simp)
              case s1 =>
                rw [HT.out]
                exact (Ho2.out.vec.below (by first | exact (Below.refl _ _).drew.alloc (by simp) _ | exact ((Below.refl _ _).alloc (Nat.le_refl _) _).drew.drew | exact ((Below.refl _ _).alloc (Nat.le_refl _) _).drew | exact (Below.refl _ _).alloc (Nat.le_refl _) _)).take (by omega)
              case n1 => have := hTl.out; simp; omega
              case b1 => simp
              intro v1 b1 g1 w3 hv1 ho1 hb1 _
              have hv1' : v1 = T := by simpa using hv1
              have Hv1 := Lib.hid hv1'
              have hl1' := Lib.hid (show v1.length = q by rw [hv1']; exact hTl.out)
              have Hx3 : Hid (Below w2.heap.size w2 w3) := Lib.hid ((by first | exact ((Below.refl _ w2).drew.alloc (by simp) _) | exact ((Below.refl _ w2).alloc (Nat.le_refl _) _).drew.drew | exact ((Below.refl _ w2).alloc (Nat.le_refl _) _).drew | exact ((Below.refl _ w2).alloc (Nat.le_refl _) _) : Below w2.heap.size w2 _).trans hb1)
              have Hb3 := Lib.hid (below2 Hb2.out Hx3.out Hb2.out.size)
              have Ho3 := Lib.hid ho1
              have hz3 := Hx3.out.size
              clear hv1 ho1 hb1 hv1'
              obtain ⟨af, haf, k0, k1, k2, hl3⟩ := (HoA.out.vec.below Hb3.out).at Hx.out
              dsimp only at k0 k1 k2
              cases haf
              go_wp2_with (at_builtin; go_must (refine wpList_appD rfl _ _ rfl w2.heap.size b1 g1 v1 rfl ?o2 (some ⟨w3.heap.size, 0, none⟩) 1 [((xr, xi), xs)] rfl ?s2 ?n2 ?b2 ?_))
              case o2 => exact Ho3.out.below ((Below.refl _ _).alloc (Nat.le_refl _) _)
              case s2 => exact vec_one (heap_new w3 _)
              case n2 => have := hl1'.out; simp; omega
              case b2 => simp; omega
              intro v2 b2 g2 w4 hv2 ho2 hb2 _
              have Hv2 := Lib.hid hv2
              have hl2' := Lib.hid (show v2.length = q + 1 by rw [hv2]; simp [hl1'.out])
              have Hx4 : Hid (Below w2.heap.size w2 w4) := Lib.hid ((Hx3.out.alloc hz3 _).trans hb2)
              have Ho4 := Lib.hid ho2
              have hz4 := Hx4.out.size
              clear hv2 ho2 hb2 k0 k1 k2
              go_wp2_with (at_builtin; go_must (refine wpList_appD rfl _ _ rfl w2.heap.size b2 g2 v2 rfl Ho4.out sa sc u rfl (Hits.out _ (Ho2.out.below Hx4.out).vec) ?n3 hz4 ?_))
              case n3 => have := hl2'.out; have := hul.out; omega
              intro v3 b3 g3 w5 hv3 ho3 hb3 _
              have Hv3 := Lib.hid (show v3 = buryP v ((xr, xi), xs) by rw [hv3, Hv2.out, Hv1.out, HT.out, Hu'.out, Hend.out])
              have hl3' : v3.length ≤ k + 1 := by rw [hv3, List.length_append, hl2'.out, hul.out]; omega
              have Hb5 := Lib.hid (below2 Hb2.out (Hx4.out.trans hb3) Hb2.out.size)
              have Ho5 := Lib.hid (ho3.base (base' := w1.heap.size) Hb2.out.size)
              clear hv3 ho3 hb3
              go_wp2_with fail
              go_roundw
              case rel => exact ⟨k + 1, b3, g3, v3, by omega, by go_num, rfl, hl3', Lib.hid (by rw [Hv3.out]; exact buryP_pairwise hpw.out), Lib.hid (by rw [Hv3.out]; exact both_put Hx.out hmem.out), Ho5, Hb5.out⟩
              case measure => simp [intOf]; omega
        · have hqq := Lib.hid (show q = v.length by omega)
          have Hnin := Lib.hid (both_nin hpw.out hup.out (fun y hy => by rw [List.getElem?_eq_none (by omega)] at hy; cases hy) (fun y hy => by rw [List.getElem?_eq_none (by omega)] at hy; cases hy))
          have Hend := Lib.hid (bury_end Hnin.out hup.out (fun y hy => by rw [List.getElem?_eq_none (by omega)] at hy; cases hy))
          go_wp2_with fail
          refine region_text [([0, 1, 2, 3, 4, 5, 6, 7, 8, 9, 10, 11, 12, 13, 14], false)] mixed (by kernel_rfl) ?_
          simp only [wpSegs, List.map_cons, List.map_nil, List.getD_cons_succ, List.getD_cons_zero]
          go_wp2_with fail
          refine And.intro (by kernel_rfl) ?_
          go_wp2_with fail
          refine region_text [([0, 1, 2, 3, 4, 5, 6, 7, 8, 9, 10, 11, 12, 13, 14], false)] mixed (by kernel_rfl) ?_
          simp only [wpSegs, List.map_cons, List.map_nil, List.getD_cons_succ, List.getD_cons_zero]
          go_wp2_with fail
          refine And.intro (by kernel_rfl) ?_
          obtain ⟨sa, sc, u, hu, hsl, hits⟩ := cutD va vc v q (by omega) hcv
          have hhi := slice_hiD va v.length vc q (by omega)
          have hul := Lib.hid (show u.length = v.length - q by rw [hu]; simp)
          have htl : (v.take q).length = q := by rw [List.length_take]; omega
          have Hits := Lib.hid hits
          have Hu' := Lib.hid hu
          clear hits hu
          obtain ⟨T, hT⟩ : ∃ T, T = v.take q := ⟨_, rfl⟩
          have hTl := Lib.hid (show T.length = q by rw [hT]; exact htl)
          have HT := Lib.hid hT
          clear hT htl
          go_wp2_with (at_builtin; go_must (refine wpList_appD rfl _ _ rfl wr.heap.size _ 0 [] rfl ?o1 va vc T (by rw [hTl.out]; rfl) ?s1 ?n1 ?b1 ?_))
          case o1 => exact OwnD.made _ (by simp)
          case s1 =>
            rw [HT.out]
            exact (ho.out.vec.below (by first | exact (Below.refl _ _).drew.alloc (by simp) _ | exact ((Below.refl _ _).alloc (Nat.le_refl _) _).drew.drew | exact ((Below.refl _ _).alloc (Nat.le_refl _) _).drew | exact (Below.refl _ _).alloc (Nat.le_refl _) _)).take (by omega)
          case n1 => have := hTl.out; simp; omega
          case b1 => simp
          intro v1 b1 g1 w3 hv1 ho1 hb1 _
          have hv1' : v1 = T := by simpa using hv1
          have Hv1 := Lib.hid hv1'
          have hl1' := Lib.hid (show v1.length = q by rw [hv1']; exact hTl.out)
          have Hx3 : Hid (Below wr.heap.size wr w3) := Lib.hid ((by first | exact ((Below.refl _ wr).drew.alloc (by simp) _) | exact ((Below.refl _ wr).alloc (Nat.le_refl _) _).drew.drew | exact ((Below.refl _ wr).alloc (Nat.le_refl _) _).drew | exact ((Below.refl _ wr).alloc (Nat.le_refl _) _) : Below wr.heap.size wr _).trans hb1)
          have Hb3 := Lib.hid (below2 Hb.out Hx3.out Hb.out.size)
          have Ho3 := Lib.hid ho1
          have hz3 := Hx3.out.size
          clear hv1 ho1 hb1 hv1'
          obtain ⟨af, haf, k0, k1, k2, hl3⟩ := (HoA.out.vec.below Hb3.out).at Hx.out
          dsimp only at k0 k1 k2
          cases haf
          go_wp2_with (at_builtin; go_must (refine wpList_appD rfl _ _ rfl wr.heap.size b1 g1 v1 rfl ?o2 (some ⟨w3.heap.size, 0, none⟩) 1 [((xr, xi), xs)] rfl ?s2 ?n2 ?b2 ?_))
          case o2 => exact Ho3.out.below ((Below.refl _ _).alloc (Nat.le_refl _) _)
          case s2 => exact vec_one (heap_new w3 _)
          case n2 => have := hl1'.out; simp; omega
          case b2 => simp; omega
          intro v2 b2 g2 w4 hv2 ho2 hb2 _
          have Hv2 := Lib.hid hv2
          have hl2' := Lib.hid (show v2.length = q + 1 by rw [hv2]; simp [hl1'.out])
          have Hx4 : Hid (Below wr.heap.size wr w4) := Lib.hid ((Hx3.out.alloc hz3 _).trans hb2)
          have Ho4 := Lib.hid ho2
          have hz4 := Hx4.out.size
          clear hv2 ho2 hb2 k0 k1 k2
          go_wp2_with (at_builtin; go_must (refine wpList_appD rfl _ _ rfl wr.heap.size b2 g2 v2 rfl Ho4.out sa sc u rfl (Hits.out _ (ho.out.below Hx4.out).vec) ?n3 hz4 ?_))
          case n3 => have := hl2'.out; have := hul.out; omega
          intro v3 b3 g3 w5 hv3 ho3 hb3 _
          have Hv3 := Lib.hid (show v3 = buryP v ((xr, xi), xs) by rw [hv3, Hv2.out, Hv1.out, HT.out, Hu'.out, Hend.out])
          have hl3' : v3.length ≤ k + 1 := by rw [hv3, List.length_append, hl2'.out, hul.out]; omega
          have Hb5 := Lib.hid (below2 Hb.out (Hx4.out.trans hb3) Hb.out.size)
          have Ho5 := Lib.hid (ho3.base (base' := w1.heap.size) Hb.out.size)
          clear hv3 ho3 hb3
          go_wp2_with fail
          go_roundw
          case rel => exact ⟨k + 1, b3, g3, v3, by omega, by go_num, rfl, hl3', Lib.hid (by rw [Hv3.out]; exact buryP_pairwise hpw.out), Lib.hid (by rw [Hv3.out]; exact both_put Hx.out hmem.out), Ho5, Hb5.out⟩
          case measure => simp [intOf]; omega
    · have hkk : k = A.length := by omega
      go_wp2_with fail
      go_ret
      refine ⟨va, vc, v, rfl, ⟨hpw.out, fun d => ?_⟩, ho.out.base HB2.out.size, below2 HB2.out Hb.out HB2.out.size⟩
      rw [hmem.out d, List.take_of_length_le (by omega), HA.out, List.mem_append]
end Go.Proofs.Ytmabjghjkgicgaa
