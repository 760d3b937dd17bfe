/- code.Num. | Bytes as a string. | dot.Bytes; the reference's Same; Has; Next. | The reference's Same. | The page's examples hold (varvelaw03.known). -/
import Derived.Test.YthdmoplclllhjaaGreatBase
import Derived.Laws.BitsAll
import Derived.Test.YthdmoplclllhjaaGreatVec2
/- CodeA -/
namespace Go.Proofs.YthdmoplclllhjaaGreat
open Go.RowKit
set_option linter.unusedVariables false
set_option linter.unusedSimpArgs false

end Go.Proofs.YthdmoplclllhjaaGreat

/- StrA -/
namespace Go.Proofs.YthdmoplclllhjaaGreat
open Go.RowKit
set_option linter.unusedVariables false
set_option linter.unusedSimpArgs false
/-- a string of bytes -/
def strOf (bs : List UInt8) : ByteArray := ⟨bs.toArray⟩
theorem strOf_toList (bs : List UInt8) : (strOf bs).toList = bs := ByteArray.toList_mk bs
attribute [go_sem] strOf_toList
end Go.Proofs.YthdmoplclllhjaaGreat

/- DotI -/
namespace Go.Proofs.YthdmoplclllhjaaGreat
open Go.RowKit
set_option linter.unusedVariables false
set_option linter.unusedSimpArgs false

end Go.Proofs.YthdmoplclllhjaaGreat

/- DotJ -/
namespace Go.Proofs.YthdmoplclllhjaaGreat
open Go.RowKit
set_option linter.unusedVariables false
set_option linter.unusedSimpArgs false

theorem take_ext {α : Type} {v u : List α} (k : Nat) (hl : v.length = u.length) (hk : v.length ≤ k) (h : v.take k = u.take k) : v = u := by
  rw [List.take_of_length_le hk, List.take_of_length_le (by omega)] at h
  exact h

theorem below_drewN {B : Nat} {w w' : World} (h : Below B w w') (n : Nat) : Below B w (w'.drewN n) := ⟨h.os, h.tape, h.output, h.size, h.block⟩
set_option maxHeartbeats 1000000 in
theorem same_any (a b : Option Addr) (c d : Nat) (v u : List Dt) (w : World) (hv : Vec w a c v) (hu : Vec w b d u) (hn : v.length ≤ 1100000) (hm : u.length ≤ 1100000) :
    Calls Tryz.prog 33 #[.slice a v.length c, .slice b u.length d] w fun e w' => e = .returned (.bool (decide (v = u))) ∧ Below w.heap.size w w' := by
  have Hv := Lib.hid hv
  have Hu := Lib.hid hu
  clear hv hu
  by_cases hl : v.length = u.length
  · have Hl := Lib.hid hl
    rw [← hl]
    clear hl
    go_enter Tryz.func33, Tryz.ntmps33
    go_wp2_with fail
    go_loopw [5] (fun i wr => ∃ k : Nat, k ≤ v.length ∧ i = .int .i64 k ∧ Hid (v.take k = u.take k) ∧ Below w.heap.size w wr) (fun i _ => v.length - (intOf i).toNat)
    case atStart => exact ⟨0, Nat.zero_le _, rfl, Lib.hid (by simp), Below.refl _ _⟩
    case round =>
      obtain ⟨k, hk, rfl, heq, hb⟩ := hrel
      have Hb := Lib.hid hb
      clear hb
      by_cases hlt : k < v.length
      · have hlu : k < u.length := by have := Hl.out; omega
        obtain ⟨⟨⟨r, i⟩, s⟩, hx⟩ : ∃ x, v[k]? = some x := ⟨v[k], by simp [hlt]⟩
        obtain ⟨⟨⟨r', i'⟩, s'⟩, hy⟩ : ∃ x, u[k]? = some x := ⟨u[k], by simp [hlu]⟩
        obtain ⟨ad, had, d0, d1, d2, hlt0⟩ := (Hv.out.below Hb.out).at hx
        obtain ⟨ae, hae, e0, e1, e2, hlt1⟩ := (Hu.out.below Hb.out).at hy
        have had' := had
        have hae' := hae
        subst had' hae'
        dsimp only at d0 d1 d2 e0 e1 e2
        have Hx := Lib.hid hx
        have Hy := Lib.hid hy
        clear hx hy had hae
        by_cases hr : r = r'
        · subst hr
          by_cases hi : i = i'
          · subst hi
            by_cases hs : s = s'
            · subst hs
              go_wp2_with fail
              go_quiet (fail)
              go_wp2_with fail
              go_roundw
              case rel => exact ⟨k + 1, by omega, by go_num, Lib.hid (by rw [take_snoc' Hx.out, take_snoc' Hy.out, heq.out]), below_drewN Hb.out _⟩
              case measure => simp [intOf]; omega
            · have He := Lib.hid (show decide (v = u) = false by simp; intro e; subst e; have := Hx.out.symm.trans Hy.out; simp at this; exact hs this)
              go_wp2_with fail
              go_quiet (fail)
              go_wp2_with fail
              go_ret
              exact ⟨by rw [He.out]; rfl, below_drewN Hb.out _⟩
          · have He := Lib.hid (show decide (v = u) = false by simp; intro e; subst e; have := Hx.out.symm.trans Hy.out; simp at this; exact hi this.1)
            go_wp2_with fail
            go_quiet (fail)
            go_wp2_with fail
            go_ret
            exact ⟨by rw [He.out]; rfl, below_drewN Hb.out _⟩
        · have He := Lib.hid (show decide (v = u) = false by simp; intro e; subst e; have := Hx.out.symm.trans Hy.out; simp at this; exact hr this.1.1)
          go_wp2_with fail
          go_quiet (fail)
          go_wp2_with fail
          go_ret
          exact ⟨by rw [He.out]; rfl, below_drewN Hb.out _⟩
      · have he : v = u := take_ext k Hl.out (by omega) heq.out
        have He := Lib.hid (show decide (v = u) = true by simpa using he)
        clear he
        go_wp2_with fail
        go_ret
        exact ⟨by rw [He.out]; rfl, Hb.out⟩
  · have he : decide (v = u) = false := by simp; intro e; exact hl (by rw [e])
    have He := Lib.hid he
    have hl' : ((v.length : Int) != (u.length : Int)) = true := by simp; omega
    clear he
    go_enter Tryz.func33, Tryz.ntmps33
    go_wp2_with fail
    go_ret
    exact ⟨by rw [He.out]; rfl, Below.refl _ _⟩
end Go.Proofs.YthdmoplclllhjaaGreat

/- DotK -/
namespace Go.Proofs.YthdmoplclllhjaaGreat
open Go.RowKit
set_option linter.unusedVariables false
set_option linter.unusedSimpArgs false

def kA : List Dt := [((0, 1), 3)]
def kB : List Dt := [((0, 1), 2), ((1, 1), 5)]
def kJ : List Dt := [((0, 1), 3), ((1, 1), 5)]
def kM : List Dt := [((0, 1), 2)]
theorem okK : okV kA ∧ okV kB ∧ okV kJ ∧ okV kM := by
  refine ⟨?_, ?_, ?_, ?_⟩ <;> intro d hd <;> simp [kA, kB, kJ, kM] at hd
  · subst hd; unfold okD okA; decide
  · rcases hd with rfl | rfl <;> (unfold okD okA; decide)
  · rcases hd with rfl | rfl <;> (unfold okD okA; decide)
  · subst hd; unfold okD okA; decide
end Go.Proofs.YthdmoplclllhjaaGreat
