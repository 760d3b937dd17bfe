/- code.Num. | Bytes as a string. | dot.Bytes; the reference's Same; Has; Next. | The reference's Same. | The page's examples hold (varvelaw03.known). -/
import Derived.Test.YtbeblbgbngplhaaGreatBase
import Derived.Laws.BitsAll
import Derived.Test.YtbeblbgbngplhaaGreatVec2
/- CodeA -/
namespace Go.Proofs.YtbeblbgbngplhaaGreat
open Go.RowKit
set_option linter.unusedVariables false
set_option linter.unusedSimpArgs false

end Go.Proofs.YtbeblbgbngplhaaGreat

/- StrA -/
namespace Go.Proofs.YtbeblbgbngplhaaGreat
open Go.RowKit
set_option linter.unusedVariables false
set_option linter.unusedSimpArgs false
/-- a string of bytes -/
def strOf (bs : List UInt8) : ByteArray := ⟨bs.toArray⟩
theorem strOf_toList (bs : List UInt8) : (strOf bs).toList = bs := ByteArray.toList_mk bs
attribute [go_sem] strOf_toList
end Go.Proofs.YtbeblbgbngplhaaGreat

/- DotI -/
namespace Go.Proofs.YtbeblbgbngplhaaGreat
open Go.RowKit
set_option linter.unusedVariables false
set_option linter.unusedSimpArgs false

end Go.Proofs.YtbeblbgbngplhaaGreat

/- DotJ -/
namespace Go.Proofs.YtbeblbgbngplhaaGreat
open Go.RowKit
set_option linter.unusedVariables false
set_option linter.unusedSimpArgs false

theorem take_ext {α : Type} {v u : List α} (k : Nat) (hl : v.length = u.length) (hk : v.length ≤ k) (h : v.take k = u.take k) : v = u := by
  rw [List.take_of_length_le hk, List.take_of_length_le (by omega)] at h
  exact h

theorem below_drewN {B : Nat} {w w' : World} (h : Below B w w') (n : Nat) : Below B w (w'.drewN n) := ⟨h.os, h.tape, h.output, h.size, h.block⟩
end Go.Proofs.YtbeblbgbngplhaaGreat

/- DotK -/
namespace Go.Proofs.YtbeblbgbngplhaaGreat
open Go.RowKit
set_option linter.unusedVariables false
set_option linter.unusedSimpArgs false

def kA : List Dt := [((0, 1), 3)]
def kB : List Dt := [((0, 1), 2), ((1, 1), 5)]
def kJ : List Dt := [((0, 1), 3), ((1, 1), 5)]
def kM : List Dt := [((0, 1), 2)]
theorem okK : okV kA ∧ okV kB ∧ okV kJ ∧ okV kM := by
  refine ⟨?_, ?_, ?_, ?_⟩ <;> intro d hd <;> simp [kA, kB, kJ, kM] at hd
  · subst hd; unfold okD okA; decide
  · rcases hd with rfl | rfl <;> (unfold okD okA; decide)
  · rcases hd with rfl | rfl <;> (unfold okD okA; decide)
  · subst hd; unfold okD okA; decide
end Go.Proofs.YtbeblbgbngplhaaGreat
