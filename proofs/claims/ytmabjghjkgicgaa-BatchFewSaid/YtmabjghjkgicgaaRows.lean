/-
  No cell of these rows narrows 'for every input' (looked for: loops, veiled, ifaces, maps, wideKeys, modest, calm, conditions, laid).
  DERIVED. THE GIVEN ROWS OF THIS SEAT. 3 by the template 'for every input the law returns true; each argument reads behind the call as it read before'; 0 by the template 'total and deterministic' (their statements: YtmabjghjkgicgaaTotals.lean).
  GIVEN WITH THE SEED: the statements are not yours to turn. If you find one false, say at which input.
  Laid BY PROGRAM, IN A SANDBOX (cutbox-rows.mjs): the forced cells as the released guide's own fill.sh prints them over the translation dffccfe920399b18… (all of the seat's roots in one cut). By AI agents, Wed Nov 11 2026. No macro, syntax, notation, axiom, sorry.
-/
import Derived.Test.YtmabjghjkgicgaaChecked
import GoSem.Claim
import GoSem.ClaimJoined
import GoSem.ClaimMapViews
import Derived.JoinedTies
import Derived.KernelRfl
namespace Go.Proofs.Ytmabjghjkgicgaa
/- THE CELL 'sum', in the pinned program and in every row, IS THE sha256 OF THE DUMP (.gsa) THAT YtmabjghjkgicgaaProg.lean LOADS. Nothing in Lean hashes anything: it is a label: what it is worth is what the hold of that sum in a sandbox is worth. -/
noncomputable def Try.pinned : Pinned := { name := "ytmabjghjkgicgaa", sum := "dffccfe920399b185684ff7c8b248654a298a20b96c1688c357821bdbb85fa8c", checked := Try.checked }
namespace Rows
def none {H : Type} : Left H := { results := [], args := [] }

/-- 'varvelaw06.FuseThree': WHATEVER THE INPUT: true; the input reads as it did. -/
def fuseThreeSpec : ChangeSpec := { name := "fuseThree", fn := fun _ => fun
  | [d1, d2, d3, d4] => { results := [.lit (.bool true)], args := [d1, d2, d3, d4] }
  | _ => none }
def fuseThreeRow : OpenClaim := { program := "ytmabjghjkgicgaa", sum := "dffccfe920399b185684ff7c8b248654a298a20b96c1688c357821bdbb85fa8c", func := "varve/varvelaw06.FuseThree", spec := "fuseThree", unfollowed := true, recurses := true, plainKeys := false, apart := false }
def FuseThreeSaid : Prop := fuseThreeRow.holds Try.pinned (OpenSpec.ofChange fuseThreeSpec)

/-- ITS FALSE NEIGHBOUR: 'it returns false'. Refute it at one input. -/
def fuseThreeWrong : ChangeSpec := { name := "fuseThree", fn := fun _ => fun
  | [d1, d2, d3, d4] => { results := [.lit (.bool false)], args := [d1, d2, d3, d4] }
  | _ => none }
def FuseThreeWrongFalsely : Prop := fuseThreeRow.holds Try.pinned (OpenSpec.ofChange fuseThreeWrong)

/-- 'varvelaw39.BatchFew': WHATEVER THE INPUT: true; the input reads as it did. -/
def batchFewSpec : ChangeSpec := { name := "batchFew", fn := fun _ => fun
  | [d] => { results := [.lit (.bool true)], args := [d] }
  | _ => none }
def batchFewRow : OpenClaim := { program := "ytmabjghjkgicgaa", sum := "dffccfe920399b185684ff7c8b248654a298a20b96c1688c357821bdbb85fa8c", func := "varve/varvelaw39.BatchFew", spec := "batchFew", unfollowed := true, recurses := true, plainKeys := false, apart := false }
def BatchFewSaid : Prop := batchFewRow.holds Try.pinned (OpenSpec.ofChange batchFewSpec)

/-- ITS FALSE NEIGHBOUR: 'it returns false'. Refute it at one input. -/
def batchFewWrong : ChangeSpec := { name := "batchFew", fn := fun _ => fun
  | [d] => { results := [.lit (.bool false)], args := [d] }
  | _ => none }
def BatchFewWrongFalsely : Prop := batchFewRow.holds Try.pinned (OpenSpec.ofChange batchFewWrong)

/-- 'varvelaw06.FuseMerges': WHATEVER THE INPUT: true; the input reads as it did. -/
def fuseMergesSpec : ChangeSpec := { name := "fuseMerges", fn := fun _ => fun
  | [d1, d2, d3] => { results := [.lit (.bool true)], args := [d1, d2, d3] }
  | _ => none }
def fuseMergesRow : OpenClaim := { program := "ytmabjghjkgicgaa", sum := "dffccfe920399b185684ff7c8b248654a298a20b96c1688c357821bdbb85fa8c", func := "varve/varvelaw06.FuseMerges", spec := "fuseMerges", unfollowed := true, recurses := true, plainKeys := false, apart := false }
def FuseMergesSaid : Prop := fuseMergesRow.holds Try.pinned (OpenSpec.ofChange fuseMergesSpec)

/-- ITS FALSE NEIGHBOUR: 'it returns false'. Refute it at one input. -/
def fuseMergesWrong : ChangeSpec := { name := "fuseMerges", fn := fun _ => fun
  | [d1, d2, d3] => { results := [.lit (.bool false)], args := [d1, d2, d3] }
  | _ => none }
def FuseMergesWrongFalsely : Prop := fuseMergesRow.holds Try.pinned (OpenSpec.ofChange fuseMergesWrong)

/- THE SECOND FORM. 'bulk': how many values and letters a reading holds, each counted each time it is reached (what is shared counts as often as it is met; a slice's spare places count too). A statement '..UptoSaid' is the law's where the arguments, and the package variables that the reading takes, are together of bulk at most 1048576: NARROWER than '..Said'. Prove '..Said' where nothing that the law and all that it calls make is longer than what came in: it says more and counts as full. Else prove '..UptoSaid'. A law counts once. -/
mutual
def uptoBulk {H : Type} : DataW H → Nat
  | .lit (.string bytes) => bytes.length + 1
  | .lit _ => 1
  | .nil => 1
  | .ptr d => uptoBulk d + 1
  | .slice elems spare => uptoBulkAll elems + uptoBulkAll spare + 1
  | .agg parts => uptoBulkAll parts + 1
  | .iface _ d => uptoBulk d + 1
  | .map entries => uptoBulkEntries entries + 1
  | .held _ => 1
def uptoBulkAll {H : Type} : List (DataW H) → Nat
  | [] => 0
  | d :: r => uptoBulk d + uptoBulkAll r
def uptoBulkEntries {H : Type} : List (Lit × DataW H) → Nat
  | [] => 0
  | x :: r => uptoBulkEntry x + uptoBulkEntries r
def uptoBulkEntry {H : Type} : Lit × DataW H → Nat
  | (.string bytes, d) => bytes.length + uptoBulk d + 1
  | (_, d) => uptoBulk d + 1
 end
def uptoSmall : (H : Type) → List (DataW H) → Bool := fun _ ds => decide (uptoBulkAll ds ≤ 1048576)
def OpenSpec.upto (s : _root_.Go.ChangeSpec) : _root_.Go.OpenSpec := { _root_.Go.OpenSpec.ofChange s with cond := some uptoSmall }

/-- 'varvelaw06.FuseThree', WHERE WHAT IT READS IS OF BULK AT MOST 1048576: true; the input reads as it did. -/
def fuseThreeUptoRow : OpenClaim := { program := "ytmabjghjkgicgaa", sum := "dffccfe920399b185684ff7c8b248654a298a20b96c1688c357821bdbb85fa8c", func := "varve/varvelaw06.FuseThree", spec := "fuseThree", unfollowed := true, recurses := true, plainKeys := false, apart := false, narrowed := true }
def FuseThreeUptoSaid : Prop := fuseThreeUptoRow.holds Try.pinned (OpenSpec.upto fuseThreeSpec)

/-- 'varvelaw39.BatchFew', WHERE WHAT IT READS IS OF BULK AT MOST 1048576: true; the input reads as it did. -/
def batchFewUptoRow : OpenClaim := { program := "ytmabjghjkgicgaa", sum := "dffccfe920399b185684ff7c8b248654a298a20b96c1688c357821bdbb85fa8c", func := "varve/varvelaw39.BatchFew", spec := "batchFew", unfollowed := true, recurses := true, plainKeys := false, apart := false, narrowed := true }
def BatchFewUptoSaid : Prop := batchFewUptoRow.holds Try.pinned (OpenSpec.upto batchFewSpec)

/-- 'varvelaw06.FuseMerges', WHERE WHAT IT READS IS OF BULK AT MOST 1048576: true; the input reads as it did. -/
def fuseMergesUptoRow : OpenClaim := { program := "ytmabjghjkgicgaa", sum := "dffccfe920399b185684ff7c8b248654a298a20b96c1688c357821bdbb85fa8c", func := "varve/varvelaw06.FuseMerges", spec := "fuseMerges", unfollowed := true, recurses := true, plainKeys := false, apart := false, narrowed := true }
def FuseMergesUptoSaid : Prop := fuseMergesUptoRow.holds Try.pinned (OpenSpec.upto fuseMergesSpec)

end Rows
end Go.Proofs.Ytmabjghjkgicgaa
