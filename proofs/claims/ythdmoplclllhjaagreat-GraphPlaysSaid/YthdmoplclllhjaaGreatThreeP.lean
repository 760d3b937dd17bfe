/- The reference's merge in plain words: tombs buried one by one, items laid one by one. No program in sight. | The law FuseThree in plain words: what is behind events, one by one; the merge of two such leaves over a third. No program in sight. | Events behind a leaf: which leaves stay such that may be; numbers in range; lengths. No program in sight. -/
import Derived.Test.YthdmoplclllhjaaGreatLeafP
import Derived.Test.YthdmoplclllhjaaGreatLeafA
/- RefMA -/
namespace Go.Proofs.YthdmoplclllhjaaGreat
set_option linter.unusedVariables false
set_option linter.unusedSimpArgs false

end Go.Proofs.YthdmoplclllhjaaGreat

/- ThreeP -/
/- ThreeP -/
namespace Go.Proofs.YthdmoplclllhjaaGreat
set_option linter.unusedVariables false
set_option linter.unusedSimpArgs false

/-- an event: its dot and time, its operation's kind, number, text and dots -/
structure Ev where
  d : Dt
  t : Int
  k : Int
  n : Int
  x : ByteArray
  ds : List Dt
def typeOf (k : Int) : Int := if k = 1 then 1 else if k = 2 then 2 else if k = 3 then 3 else if k = 4 then 3 else if k = 5 then 4 else 0
/-! counters -/
/-! registers -/
/-! sets -/
/-! logs -/
end Go.Proofs.YthdmoplclllhjaaGreat

/- ThreeQ -/
namespace Go.Proofs.YthdmoplclllhjaaGreat
set_option linter.unusedVariables false
set_option linter.unusedSimpArgs false

/-- an event's numbers in range -/
def okE (e : Ev) : Prop := okD e.d ∧ isU e.t ∧ okV e.ds
end Go.Proofs.YthdmoplclllhjaaGreat
