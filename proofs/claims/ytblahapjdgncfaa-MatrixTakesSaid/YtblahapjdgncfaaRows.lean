/-
  No cell of these rows narrows 'for every input' (looked for: loops, veiled, ifaces, maps, wideKeys, modest, calm, conditions, laid).
  DERIVED. THE GIVEN ROWS OF THIS SEAT. 6 by the template 'for every input the law returns true; each argument reads behind the call as it read before'; 0 by the template 'total and deterministic' (their statements: YtblahapjdgncfaaTotals.lean).
  GIVEN WITH THE SEED: the statements are not yours to turn. If you find one false, say at which input.
  Laid BY PROGRAM, IN A SANDBOX (cutbox-rows.mjs): the forced cells as the released guide's own fill.sh prints them over the translation c593340a1faf0c60… (all of the seat's roots in one cut). By AI agents, Wed Nov 11 2026. No macro, syntax, notation, axiom, sorry.
-/
import Derived.Test.YtblahapjdgncfaaChecked
import GoSem.Claim
import GoSem.ClaimJoined
import GoSem.ClaimMapViews
import Derived.JoinedTies
import Derived.KernelRfl
namespace Go.Proofs.Ytblahapjdgncfaa
/- THE CELL 'sum', in the pinned program and in every row, IS THE sha256 OF THE DUMP (.gsa) THAT YtblahapjdgncfaaProg.lean LOADS. Nothing in Lean hashes anything: it is a label: what it is worth is what the hold of that sum in a sandbox is worth. -/
noncomputable def Try.pinned : Pinned := { name := "ytblahapjdgncfaa", sum := "c593340a1faf0c602b82b8eca50d51b10d0ca388679dd347875838859204e0f2", checked := Try.checked }
namespace Rows
def none {H : Type} : Left H := { results := [], args := [] }

/-- 'varvelaw03.DotOrder': WHATEVER THE INPUT: true; the input reads as it did. -/
def dotOrderSpec : ChangeSpec := { name := "dotOrder", fn := fun _ => fun
  | [d1, d2, d3] => { results := [.lit (.bool true)], args := [d1, d2, d3] }
  | _ => none }
def dotOrderRow : OpenClaim := { program := "ytblahapjdgncfaa", sum := "c593340a1faf0c602b82b8eca50d51b10d0ca388679dd347875838859204e0f2", func := "varve/varvelaw03.DotOrder", spec := "dotOrder", unfollowed := true, recurses := true, plainKeys := false, apart := false }
def DotOrderSaid : Prop := dotOrderRow.holds Try.pinned (OpenSpec.ofChange dotOrderSpec)

/-- ITS FALSE NEIGHBOUR: 'it returns false'. Refute it at one input. -/
def dotOrderWrong : ChangeSpec := { name := "dotOrder", fn := fun _ => fun
  | [d1, d2, d3] => { results := [.lit (.bool false)], args := [d1, d2, d3] }
  | _ => none }
def DotOrderWrongFalsely : Prop := dotOrderRow.holds Try.pinned (OpenSpec.ofChange dotOrderWrong)

/-- 'varvelaw03.DotVectors': WHATEVER THE INPUT: true; the input reads as it did. -/
def dotVectorsSpec : ChangeSpec := { name := "dotVectors", fn := fun _ => fun
  | [d1, d2, d3, d4] => { results := [.lit (.bool true)], args := [d1, d2, d3, d4] }
  | _ => none }
def dotVectorsRow : OpenClaim := { program := "ytblahapjdgncfaa", sum := "c593340a1faf0c602b82b8eca50d51b10d0ca388679dd347875838859204e0f2", func := "varve/varvelaw03.DotVectors", spec := "dotVectors", unfollowed := true, recurses := true, plainKeys := false, apart := false }
def DotVectorsSaid : Prop := dotVectorsRow.holds Try.pinned (OpenSpec.ofChange dotVectorsSpec)

/-- ITS FALSE NEIGHBOUR: 'it returns false'. Refute it at one input. -/
def dotVectorsWrong : ChangeSpec := { name := "dotVectors", fn := fun _ => fun
  | [d1, d2, d3, d4] => { results := [.lit (.bool false)], args := [d1, d2, d3, d4] }
  | _ => none }
def DotVectorsWrongFalsely : Prop := dotVectorsRow.holds Try.pinned (OpenSpec.ofChange dotVectorsWrong)

/-- 'varvelaw17.MatrixRises': WHATEVER THE INPUT: true; the input reads as it did. -/
def matrixRisesSpec : ChangeSpec := { name := "matrixRises", fn := fun _ => fun
  | [d1, d2, d3] => { results := [.lit (.bool true)], args := [d1, d2, d3] }
  | _ => none }
def matrixRisesRow : OpenClaim := { program := "ytblahapjdgncfaa", sum := "c593340a1faf0c602b82b8eca50d51b10d0ca388679dd347875838859204e0f2", func := "varve/varvelaw17.MatrixRises", spec := "matrixRises", unfollowed := true, recurses := true, plainKeys := false, apart := false }
def MatrixRisesSaid : Prop := matrixRisesRow.holds Try.pinned (OpenSpec.ofChange matrixRisesSpec)

/-- ITS FALSE NEIGHBOUR: 'it returns false'. Refute it at one input. -/
def matrixRisesWrong : ChangeSpec := { name := "matrixRises", fn := fun _ => fun
  | [d1, d2, d3] => { results := [.lit (.bool false)], args := [d1, d2, d3] }
  | _ => none }
def MatrixRisesWrongFalsely : Prop := matrixRisesRow.holds Try.pinned (OpenSpec.ofChange matrixRisesWrong)

/-- 'varvelaw17.MatrixTakes': WHATEVER THE INPUT: true; the input reads as it did. -/
def matrixTakesSpec : ChangeSpec := { name := "matrixTakes", fn := fun _ => fun
  | [d1, d2, d3, d4] => { results := [.lit (.bool true)], args := [d1, d2, d3, d4] }
  | _ => none }
def matrixTakesRow : OpenClaim := { program := "ytblahapjdgncfaa", sum := "c593340a1faf0c602b82b8eca50d51b10d0ca388679dd347875838859204e0f2", func := "varve/varvelaw17.MatrixTakes", spec := "matrixTakes", unfollowed := true, recurses := true, plainKeys := false, apart := false }
def MatrixTakesSaid : Prop := matrixTakesRow.holds Try.pinned (OpenSpec.ofChange matrixTakesSpec)

/-- ITS FALSE NEIGHBOUR: 'it returns false'. Refute it at one input. -/
def matrixTakesWrong : ChangeSpec := { name := "matrixTakes", fn := fun _ => fun
  | [d1, d2, d3, d4] => { results := [.lit (.bool false)], args := [d1, d2, d3, d4] }
  | _ => none }
def MatrixTakesWrongFalsely : Prop := matrixTakesRow.holds Try.pinned (OpenSpec.ofChange matrixTakesWrong)

/-- 'varvelaw18.EpochRises': WHATEVER THE INPUT: true; the input reads as it did. -/
def epochRisesSpec : ChangeSpec := { name := "epochRises", fn := fun _ => fun
  | [d1, d2, d3] => { results := [.lit (.bool true)], args := [d1, d2, d3] }
  | _ => none }
def epochRisesRow : OpenClaim := { program := "ytblahapjdgncfaa", sum := "c593340a1faf0c602b82b8eca50d51b10d0ca388679dd347875838859204e0f2", func := "varve/varvelaw18.EpochRises", spec := "epochRises", unfollowed := true, recurses := true, plainKeys := false, apart := false }
def EpochRisesSaid : Prop := epochRisesRow.holds Try.pinned (OpenSpec.ofChange epochRisesSpec)

/-- ITS FALSE NEIGHBOUR: 'it returns false'. Refute it at one input. -/
def epochRisesWrong : ChangeSpec := { name := "epochRises", fn := fun _ => fun
  | [d1, d2, d3] => { results := [.lit (.bool false)], args := [d1, d2, d3] }
  | _ => none }
def EpochRisesWrongFalsely : Prop := epochRisesRow.holds Try.pinned (OpenSpec.ofChange epochRisesWrong)

/-- 'varvelaw18.EpochDecides': WHATEVER THE INPUT: true; the input reads as it did. -/
def epochDecidesSpec : ChangeSpec := { name := "epochDecides", fn := fun _ => fun
  | [d1, d2, d3, d4, d5, d6, d7] => { results := [.lit (.bool true)], args := [d1, d2, d3, d4, d5, d6, d7] }
  | _ => none }
def epochDecidesRow : OpenClaim := { program := "ytblahapjdgncfaa", sum := "c593340a1faf0c602b82b8eca50d51b10d0ca388679dd347875838859204e0f2", func := "varve/varvelaw18.EpochDecides", spec := "epochDecides", unfollowed := true, recurses := true, plainKeys := false, apart := false }
def EpochDecidesSaid : Prop := epochDecidesRow.holds Try.pinned (OpenSpec.ofChange epochDecidesSpec)

/-- ITS FALSE NEIGHBOUR: 'it returns false'. Refute it at one input. -/
def epochDecidesWrong : ChangeSpec := { name := "epochDecides", fn := fun _ => fun
  | [d1, d2, d3, d4, d5, d6, d7] => { results := [.lit (.bool false)], args := [d1, d2, d3, d4, d5, d6, d7] }
  | _ => none }
def EpochDecidesWrongFalsely : Prop := epochDecidesRow.holds Try.pinned (OpenSpec.ofChange epochDecidesWrong)

/- THE SECOND FORM. 'bulk': how many values and letters a reading holds, each counted each time it is reached (what is shared counts as often as it is met; a slice's spare places count too). A statement '..UptoSaid' is the law's where the arguments, and the package variables that the reading takes, are together of bulk at most 1048576: NARROWER than '..Said'. Prove '..Said' where nothing that the law and all that it calls make is longer than what came in: it says more and counts as full. Else prove '..UptoSaid'. A law counts once. -/
mutual
def uptoBulk {H : Type} : DataW H → Nat
  | .lit (.string bytes) => bytes.length + 1
  | .lit _ => 1
  | .nil => 1
  | .ptr d => uptoBulk d + 1
  | .slice elems spare => uptoBulkAll elems + uptoBulkAll spare + 1
  | .agg parts => uptoBulkAll parts + 1
  | .iface _ d => uptoBulk d + 1
  | .map entries => uptoBulkEntries entries + 1
  | .held _ => 1
def uptoBulkAll {H : Type} : List (DataW H) → Nat
  | [] => 0
  | d :: r => uptoBulk d + uptoBulkAll r
def uptoBulkEntries {H : Type} : List (Lit × DataW H) → Nat
  | [] => 0
  | x :: r => uptoBulkEntry x + uptoBulkEntries r
def uptoBulkEntry {H : Type} : Lit × DataW H → Nat
  | (.string bytes, d) => bytes.length + uptoBulk d + 1
  | (_, d) => uptoBulk d + 1
 end
def uptoSmall : (H : Type) → List (DataW H) → Bool := fun _ ds => decide (uptoBulkAll ds ≤ 1048576)
def OpenSpec.upto (s : _root_.Go.ChangeSpec) : _root_.Go.OpenSpec := { _root_.Go.OpenSpec.ofChange s with cond := some uptoSmall }

/-- 'varvelaw03.DotOrder', WHERE WHAT IT READS IS OF BULK AT MOST 1048576: true; the input reads as it did. -/
def dotOrderUptoRow : OpenClaim := { program := "ytblahapjdgncfaa", sum := "c593340a1faf0c602b82b8eca50d51b10d0ca388679dd347875838859204e0f2", func := "varve/varvelaw03.DotOrder", spec := "dotOrder", unfollowed := true, recurses := true, plainKeys := false, apart := false, narrowed := true }
def DotOrderUptoSaid : Prop := dotOrderUptoRow.holds Try.pinned (OpenSpec.upto dotOrderSpec)

/-- 'varvelaw03.DotVectors', WHERE WHAT IT READS IS OF BULK AT MOST 1048576: true; the input reads as it did. -/
def dotVectorsUptoRow : OpenClaim := { program := "ytblahapjdgncfaa", sum := "c593340a1faf0c602b82b8eca50d51b10d0ca388679dd347875838859204e0f2", func := "varve/varvelaw03.DotVectors", spec := "dotVectors", unfollowed := true, recurses := true, plainKeys := false, apart := false, narrowed := true }
def DotVectorsUptoSaid : Prop := dotVectorsUptoRow.holds Try.pinned (OpenSpec.upto dotVectorsSpec)

/-- 'varvelaw17.MatrixRises', WHERE WHAT IT READS IS OF BULK AT MOST 1048576: true; the input reads as it did. -/
def matrixRisesUptoRow : OpenClaim := { program := "ytblahapjdgncfaa", sum := "c593340a1faf0c602b82b8eca50d51b10d0ca388679dd347875838859204e0f2", func := "varve/varvelaw17.MatrixRises", spec := "matrixRises", unfollowed := true, recurses := true, plainKeys := false, apart := false, narrowed := true }
def MatrixRisesUptoSaid : Prop := matrixRisesUptoRow.holds Try.pinned (OpenSpec.upto matrixRisesSpec)

/-- 'varvelaw17.MatrixTakes', WHERE WHAT IT READS IS OF BULK AT MOST 1048576: true; the input reads as it did. -/
def matrixTakesUptoRow : OpenClaim := { program := "ytblahapjdgncfaa", sum := "c593340a1faf0c602b82b8eca50d51b10d0ca388679dd347875838859204e0f2", func := "varve/varvelaw17.MatrixTakes", spec := "matrixTakes", unfollowed := true, recurses := true, plainKeys := false, apart := false, narrowed := true }
def MatrixTakesUptoSaid : Prop := matrixTakesUptoRow.holds Try.pinned (OpenSpec.upto matrixTakesSpec)

/-- 'varvelaw18.EpochRises', WHERE WHAT IT READS IS OF BULK AT MOST 1048576: true; the input reads as it did. -/
def epochRisesUptoRow : OpenClaim := { program := "ytblahapjdgncfaa", sum := "c593340a1faf0c602b82b8eca50d51b10d0ca388679dd347875838859204e0f2", func := "varve/varvelaw18.EpochRises", spec := "epochRises", unfollowed := true, recurses := true, plainKeys := false, apart := false, narrowed := true }
def EpochRisesUptoSaid : Prop := epochRisesUptoRow.holds Try.pinned (OpenSpec.upto epochRisesSpec)

/-- 'varvelaw18.EpochDecides', WHERE WHAT IT READS IS OF BULK AT MOST 1048576: true; the input reads as it did. -/
def epochDecidesUptoRow : OpenClaim := { program := "ytblahapjdgncfaa", sum := "c593340a1faf0c602b82b8eca50d51b10d0ca388679dd347875838859204e0f2", func := "varve/varvelaw18.EpochDecides", spec := "epochDecides", unfollowed := true, recurses := true, plainKeys := false, apart := false, narrowed := true }
def EpochDecidesUptoSaid : Prop := epochDecidesUptoRow.holds Try.pinned (OpenSpec.upto epochDecidesSpec)

end Rows
end Go.Proofs.Ytblahapjdgncfaa
