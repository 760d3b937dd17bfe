/- Operations in memory; what batch.Few asks first. | slices.IndexFunc, ContainsFunc of operations that may not be. -/
import Derived.Test.YtbeblbgbngplhaaGreatMayE
/- BatA -/
namespace Go.Proofs.YtbeblbgbngplhaaGreat
open Go.RowKit Go.ChangeShapes Go.WideShapes
set_option linter.unusedVariables false
set_option linter.unusedSimpArgs false

/-- an operation -/
structure Opn where
  k : Int
  n : Int
  x : ByteArray
  p : List ByteArray
  ds : List Dt
/-- an operation, and where its path and its dots lie -/
structure Ow where
  o : Opn
  pa : Option Addr
  pc : Nat
  da : Option Addr
  dc : Nat
abbrev owcells (v : Ow) : Array Value := ocells v.o.k v.o.n v.o.x v.pa v.o.p.length v.pc v.da v.o.ds.length v.dc
structure OwAt (w : World) (v : Ow) : Prop where
  pt : Strs w v.pa v.pc v.o.p
  ds : Vec w v.da v.dc v.o.ds
  ok : okV v.o.ds
section
variable {H : Type} {enc : TypeId × Value → H} {w : World} {base : Nat} {spare : Nat → Bool} {held : Bool}
end
end Go.Proofs.YtbeblbgbngplhaaGreat

/- BatB -/
namespace Go.Proofs.YtbeblbgbngplhaaGreat
open Go.RowKit
set_option linter.unusedVariables false
set_option linter.unusedSimpArgs false

end Go.Proofs.YtbeblbgbngplhaaGreat
