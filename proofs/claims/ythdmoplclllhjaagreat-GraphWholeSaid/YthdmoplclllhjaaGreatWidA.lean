/- varvelaw12.wide: what it tells when it is false. -/
import Derived.Test.YthdmoplclllhjaaGreatOwtB
import Derived.Test.YthdmoplclllhjaaGreatMeanW
import Derived.Test.YthdmoplclllhjaaGreatGraA
namespace Go.Proofs.YthdmoplclllhjaaGreat
open Go.RowKit
set_option linter.unusedVariables false
set_option linter.unusedSimpArgs false

/-- no wider, and no deeper -/
def WdP : Nat → List Nd → Prop
  | 0, T => T = []
  | n + 1, T => T.length ≤ 40 ∧ ∀ x ∈ T, x.ls.length ≤ 20 ∧ (∀ v ∈ x.ls, v.l.items.length ≤ 40 ∧ v.l.tombs.length ≤ 100) ∧ WdP n x.kids
theorem WdP.bdA : ∀ {n m : Nat} {T : List Nd}, WdP n T → BdA 1100000 m T
  | 0, 0, T, h => by
    have e : T = [] := h
    subst e
    simp [BdA]
  | n + 1, 0, T, h => by have := h.1; show T.length ≤ 1100000; omega
  | 0, m + 1, T, h => by
    have e : T = [] := h
    subst e
    exact ⟨by simp, fun x hx => by cases hx⟩
  | n + 1, m + 1, T, h => ⟨by have := h.1; omega, fun x hx => by
      obtain ⟨h1, h2, h3⟩ := h.2 x hx
      exact ⟨by omega, fun v hv => by have := h2 v hv; omega, WdP.bdA h3⟩⟩
theorem BdA.bdT : ∀ {n : Nat} {T : List Nd}, BdA 1100000 n T → BdT 1100000 n T
  | 0, _, _ => trivial
  | n + 1, T, h => fun x hx => ⟨(h.2 x hx).2.1, BdA.bdT (h.2 x hx).2.2⟩
def WdTo (w : World) (d : Nat) (T : List Nd) (e : Ending) (w' : World) : Prop := ∃ z : Bool, e = .returned (.bool z) ∧ (z = false → WdP d T) ∧ Below w.heap.size w w'
theorem WdTo.yes {w w' : World} {d : Nat} {T : List Nd} (hb : Below w.heap.size w w') : WdTo w d T (.returned (.bool true)) w' := ⟨true, rfl, fun h => (by cases h), hb⟩
/-- one node is narrow -/
def WdN (n : Nat) (x : Nd) : Prop := x.ls.length ≤ 20 ∧ (∀ v ∈ x.ls, v.l.items.length ≤ 40 ∧ v.l.tombs.length ≤ 100) ∧ WdP n x.kids
set_option maxRecDepth 100000 in
set_option maxHeartbeats 4000000 in
theorem wide_any (d : Nat) : ∀ (m : Nat) (a : Option Addr) (c : Nat) (T : List Nd) (w : World), d ≤ 10 → TrRd w m a c T → Calls Tryz.prog 68 #[.slice a T.length c, .int .i64 (d : Nat)] w (WdTo w d T) := by
  induction d with
  | zero =>
    intro m a c T w _ hT
    have hlen := hT.sl.2.1
    have hcap := hT.sl.2.2.1
    clear hT
    unfold maxLen at hcap
    by_cases hl : 0 < T.length
    · by_cases h4 : 40 < T.length
      all_goals
        go_enter Tryz.func68, Tryz.ntmps68
        go_wp2_with fail
        go_ret
        exact WdTo.yes (Below.refl _ _)
    · have hT0 : T = [] := List.eq_nil_of_length_eq_zero (by omega)
      subst hT0
      clear hl
      go_enter Tryz.func68, Tryz.ntmps68
      go_wp2_with fail
      refine wp_loop_rounds 1 ?_
      rw [rounds_succ]
      go_wp2_with fail
      go_ret
      exact ⟨false, rfl, fun _ => rfl, Below.refl _ _⟩
  | succ d ih =>
    intro m a c T w hd hT
    have HT := Lib.hid hT
    have hlen := hT.sl.2.1
    have hcap := hT.sl.2.2.1
    have Ih := Lib.hid ih
    clear hT ih
    unfold maxLen at hcap
    by_cases h4 : 40 < T.length
    · go_enter Tryz.func68, Tryz.ntmps68
      go_wp2_with fail
      go_ret
      exact WdTo.yes (Below.refl _ _)
    have e0 : ((((d + 1 : Nat) : Int)) == 0) = false := by simp; omega
    go_enter Tryz.func68, Tryz.ntmps68
    go_wp2_with fail
    go_loopw [23] (fun i wr => ∃ q : Nat, q ≤ T.length ∧ i = .int .i64 q ∧ Hid (∀ x ∈ T.take q, WdN d x) ∧ Hid (Below w.heap.size w wr)) (fun i _ => T.length - (intOf i).toNat)
    case atStart => exact ⟨0, Nat.zero_le _, rfl, Lib.hid (by simp), Lib.hid (Below.refl _ _)⟩
    case round =>
      obtain ⟨q, hq, rfl, HO, HB⟩ := hrel
      by_cases hlt : q < T.length
      · obtain ⟨x, hx⟩ : ∃ x, T[q]? = some x := ⟨T[q], by simp [hlt]⟩
        have hmem := List.mem_of_getElem? hx
        cases m with
        | zero => exact absurd HT.out.1 (by intro e; rw [e] at hlt; cases hlt)
        | succ m =>
          obtain ⟨ad, had, ⟨c0, c1, c2⟩, hlb⟩ := nds_at (HT.out.below HB.out).sl hx
          subst had
          have Hx := Lib.hid hx
          have Hm := Lib.hid (HT.out.2 x hmem)
          have hlc := (HT.out.2 x hmem).1.1.2.2.1
          have hll := (HT.out.2 x hmem).1.1.2.1
          unfold maxLen at hlc
          clear hx hmem
          obtain ⟨la, hla⟩ : ∃ la, la = x.la := ⟨_, rfl⟩
          rw [← hla] at c1
          have Hla := Lib.hid hla
          clear hla
          have HA := Lib.hid (show Below wr.heap.size wr (wr.alloc (.cells #[.string x.name, .slice la x.ls.length x.lc, .slice x.ba x.kids.length x.bc] 154)) from (Below.refl _ _).alloc (Nat.le_refl _) _)
          have HB1 := Lib.hid (below2 HB.out HA.out HB.out.size)
          by_cases h20 : 20 < x.ls.length
          · go_wp2_with fail
            go_ret
            exact WdTo.yes HB1.out
          by_cases h100 : 100 < x.name.size
          · go_wp2_with fail
            go_ret
            exact WdTo.yes HB1.out
          go_wp2_with fail
          refine (Ih.out m x.ba x.bc x.kids _ (by omega) ((Hm.out.2.below HB.out).below HA.out)).mono ?_
          intro e w2 hto
          obtain ⟨z, rfl, hz, hb2⟩ := hto
          have B2 : Hid (BoxE 154 wr w2 #[.string x.name, .slice la x.ls.length x.lc, .slice x.ba x.kids.length x.bc]) := Lib.hid (BoxE.of hb2)
          have HB2 := Lib.hid (below2 HB.out B2.out.bel HB.out.size)
          have Hz := Lib.hid hz
          clear hz hb2 c0 c1 c2
          cases z with
          | true =>
            go_wp2_with fail
            go_ret
            exact WdTo.yes HB2.out
          | false =>
            have Hk := Lib.hid (Hz.out rfl)
            have d2 := cells_at B2.out.blk
            have z2 := heap_lt B2.out.blk
            clear Hz
            go_wp2_with fail
            go_loopw [48] (fun k wx => ∃ r : Nat, r ≤ x.ls.length ∧ k = .int .i64 r ∧ Hid (∀ v ∈ x.ls.take r, v.l.items.length ≤ 40 ∧ v.l.tombs.length ≤ 100) ∧ Hid (Below w.heap.size w wx)) (fun k _ => x.ls.length - (intOf k).toNat)
            case atStart => exact ⟨0, Nat.zero_le _, rfl, Lib.hid (by simp), HB2⟩
            case round =>
              obtain ⟨r, hr, rfl, HL, HBx⟩ := hrel
              by_cases hlt2 : r < x.ls.length
              · obtain ⟨v, hv⟩ : ∃ v, x.ls[r]? = some v := ⟨x.ls[r], by simp [hlt2]⟩
                obtain ⟨al, hal, ⟨e0, e1, e2, e3, e4, e5, e6, e7, e8⟩, hlv, hvr⟩ := (Hm.out.1.below HBx.out).at hv
                obtain rfl : la = some al := Hla.out.trans hal
                have Hv := Lib.hid hv
                have hil := hvr.1.its.2.1
                have hic := hvr.1.its.2.2.1
                have htl := hvr.1.tms.2.1
                have htc := hvr.1.tms.2.2.1
                unfold maxLen at hic htc
                have HBy := Lib.hid (HBx.out.alloc HBx.out.size (.cells (lcells v.l v.ia v.ic v.ta v.tc) 157))
                clear hv hvr hal
                by_cases h40 : 40 < v.l.items.length
                · go_wp2_with fail
                  go_ret
                  exact WdTo.yes HBy.out
                by_cases h100 : 100 < v.l.tombs.length
                · go_wp2_with fail
                  go_ret
                  exact WdTo.yes HBy.out
                by_cases h200 : 200 < v.l.x.size
                · go_wp2_with fail
                  go_ret
                  exact WdTo.yes HBy.out
                go_wp2_with fail
                go_roundw
                case rel => exact ⟨r + 1, by omega, by go_num, Lib.hid (all_snoc (p := fun v : Lv => v.l.items.length ≤ 40 ∧ v.l.tombs.length ≤ 100) Hv.out HL.out ⟨by omega, by omega⟩), HBy⟩
                case measure => simp [intOf]; omega
              · have HN := Lib.hid (show WdN d x from ⟨by omega, fun v hv => HL.out v (by rw [List.take_of_length_le (by omega)]; exact hv), Hk.out⟩)
                go_wp2_with fail
                go_roundw
                case rel => exact ⟨q + 1, by omega, by go_num, Lib.hid (all_snoc Hx.out HO.out HN.out), HBx⟩
                case measure => simp [intOf]; omega
      · have Hf := Lib.hid (show WdP (d + 1) T from ⟨by omega, fun x hx => HO.out x (by rw [List.take_of_length_le (by omega)]; exact hx)⟩)
        go_wp2_with fail
        go_ret
        exact ⟨false, rfl, fun _ => Hf.out, HB.out⟩
end Go.Proofs.YthdmoplclllhjaaGreat
