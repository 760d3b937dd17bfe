/-
  NARROWER THAN 'FOR EVERY INPUT', by the rows' own cells (each row's printed sentence says how): GraphWhole: loops · BaseAncestors: loops · GraphPlays: loops · BaseOf: loops · OrderLacks: loops · OrderFills: loops · LevelsMake: loops · LevelsShape: loops.
  DERIVED. THE GIVEN ROWS OF THIS SEAT. 10 by the template 'for every input the law returns true; each argument reads behind the call as it read before'; 0 by the template 'total and deterministic' (their statements: YthdmoplclllhjaaGreatTotals.lean).
  GIVEN WITH THE SEED: the statements are not yours to turn. If you find one false, say at which input.
  Laid BY PROGRAM, IN A SANDBOX (cutbox-rows.mjs): the forced cells as the released guide's own fill.sh prints them over the translation 9d0f4886d71081f1… (all of the seat's roots in one cut). By AI agents, Wed Nov 11 2026. No macro, syntax, notation, axiom, sorry.
-/
import Derived.Test.YthdmoplclllhjaaGreatChecked
import GoSem.Claim
import GoSem.ClaimJoined
import GoSem.ClaimMapViews
import Derived.JoinedTies
import Derived.KernelRfl
namespace Go.Proofs.YthdmoplclllhjaaGreat
/- THE CELL 'sum', in the pinned program and in every row, IS THE sha256 OF THE DUMP (.gsa) THAT YthdmoplclllhjaaGreatProg.lean LOADS. Nothing in Lean hashes anything: it is a label: what it is worth is what the hold of that sum in a sandbox is worth. -/
noncomputable def Tryz.pinned : Pinned := { name := "ythdmoplclllhjaagreat", sum := "9d0f4886d71081f1925841ef0cd77d325c01a6ef6d8a35b2e37fd0f8b70b766f", checked := Tryz.checked }
namespace Rows
def none {H : Type} : Left H := { results := [], args := [] }

/-- 'varvelaw12.GraphWhole': WHATEVER THE INPUT: true; the input reads as it did. -/
def graphWholeSpec : ChangeSpec := { name := "graphWhole", fn := fun _ => fun
  | [d1, d2] => { results := [.lit (.bool true)], args := [d1, d2] }
  | _ => none }
def graphWholeRow : OpenClaim := { program := "ythdmoplclllhjaagreat", sum := "9d0f4886d71081f1925841ef0cd77d325c01a6ef6d8a35b2e37fd0f8b70b766f", func := "varve/varvelaw12.GraphWhole", spec := "graphWhole", unfollowed := true, recurses := true, loops := true, plainKeys := false, apart := false }
def GraphWholeSaid : Prop := graphWholeRow.holds Tryz.pinned (OpenSpec.ofChange graphWholeSpec)

/-- ITS FALSE NEIGHBOUR: 'it returns false'. Refute it at one input. -/
def graphWholeWrong : ChangeSpec := { name := "graphWhole", fn := fun _ => fun
  | [d1, d2] => { results := [.lit (.bool false)], args := [d1, d2] }
  | _ => none }
def GraphWholeWrongFalsely : Prop := graphWholeRow.holds Tryz.pinned (OpenSpec.ofChange graphWholeWrong)

/-- 'varvelaw13.BaseAncestors': WHATEVER THE INPUT: true; the input reads as it did. -/
def baseAncestorsSpec : ChangeSpec := { name := "baseAncestors", fn := fun _ => fun
  | [d1, d2, d3, d4] => { results := [.lit (.bool true)], args := [d1, d2, d3, d4] }
  | _ => none }
def baseAncestorsRow : OpenClaim := { program := "ythdmoplclllhjaagreat", sum := "9d0f4886d71081f1925841ef0cd77d325c01a6ef6d8a35b2e37fd0f8b70b766f", func := "varve/varvelaw13.BaseAncestors", spec := "baseAncestors", unfollowed := true, recurses := true, loops := true, plainKeys := false, apart := false }
def BaseAncestorsSaid : Prop := baseAncestorsRow.holds Tryz.pinned (OpenSpec.ofChange baseAncestorsSpec)

/-- ITS FALSE NEIGHBOUR: 'it returns false'. Refute it at one input. -/
def baseAncestorsWrong : ChangeSpec := { name := "baseAncestors", fn := fun _ => fun
  | [d1, d2, d3, d4] => { results := [.lit (.bool false)], args := [d1, d2, d3, d4] }
  | _ => none }
def BaseAncestorsWrongFalsely : Prop := baseAncestorsRow.holds Tryz.pinned (OpenSpec.ofChange baseAncestorsWrong)

/-- 'varvelaw12.GraphPlays': WHATEVER THE INPUT: true; the input reads as it did. -/
def graphPlaysSpec : ChangeSpec := { name := "graphPlays", fn := fun _ => fun
  | [d1, d2, d3] => { results := [.lit (.bool true)], args := [d1, d2, d3] }
  | _ => none }
def graphPlaysRow : OpenClaim := { program := "ythdmoplclllhjaagreat", sum := "9d0f4886d71081f1925841ef0cd77d325c01a6ef6d8a35b2e37fd0f8b70b766f", func := "varve/varvelaw12.GraphPlays", spec := "graphPlays", inPlace := ["maps.clone"], unfollowed := true, recurses := true, loops := true, plainKeys := false, apart := false }
def GraphPlaysSaid : Prop := graphPlaysRow.holds Tryz.pinned (OpenSpec.ofChange graphPlaysSpec)

/-- ITS FALSE NEIGHBOUR: 'it returns false'. Refute it at one input. -/
def graphPlaysWrong : ChangeSpec := { name := "graphPlays", fn := fun _ => fun
  | [d1, d2, d3] => { results := [.lit (.bool false)], args := [d1, d2, d3] }
  | _ => none }
def GraphPlaysWrongFalsely : Prop := graphPlaysRow.holds Tryz.pinned (OpenSpec.ofChange graphPlaysWrong)

/-- 'varvelaw12.GraphNone': WHATEVER THE INPUT: true; the input reads as it did. -/
def graphNoneSpec : ChangeSpec := { name := "graphNone", fn := fun _ => fun
  | [d] => { results := [.lit (.bool true)], args := [d] }
  | _ => none }
def graphNoneRow : OpenClaim := { program := "ythdmoplclllhjaagreat", sum := "9d0f4886d71081f1925841ef0cd77d325c01a6ef6d8a35b2e37fd0f8b70b766f", func := "varve/varvelaw12.GraphNone", spec := "graphNone", inPlace := ["maps.clone"], unfollowed := true, recurses := true, plainKeys := false, apart := false }
def GraphNoneSaid : Prop := graphNoneRow.holds Tryz.pinned (OpenSpec.ofChange graphNoneSpec)

/-- ITS FALSE NEIGHBOUR: 'it returns false'. Refute it at one input. -/
def graphNoneWrong : ChangeSpec := { name := "graphNone", fn := fun _ => fun
  | [d] => { results := [.lit (.bool false)], args := [d] }
  | _ => none }
def GraphNoneWrongFalsely : Prop := graphNoneRow.holds Tryz.pinned (OpenSpec.ofChange graphNoneWrong)

/-- 'varvelaw13.BaseOf': WHATEVER THE INPUT: true; the input reads as it did. -/
def baseOfSpec : ChangeSpec := { name := "baseOf", fn := fun _ => fun
  | [d1, d2, d3, d4, d5] => { results := [.lit (.bool true)], args := [d1, d2, d3, d4, d5] }
  | _ => none }
def baseOfRow : OpenClaim := { program := "ythdmoplclllhjaagreat", sum := "9d0f4886d71081f1925841ef0cd77d325c01a6ef6d8a35b2e37fd0f8b70b766f", func := "varve/varvelaw13.BaseOf", spec := "baseOf", unfollowed := true, recurses := true, loops := true, plainKeys := false, apart := false }
def BaseOfSaid : Prop := baseOfRow.holds Tryz.pinned (OpenSpec.ofChange baseOfSpec)

/-- ITS FALSE NEIGHBOUR: 'it returns false'. Refute it at one input. -/
def baseOfWrong : ChangeSpec := { name := "baseOf", fn := fun _ => fun
  | [d1, d2, d3, d4, d5] => { results := [.lit (.bool false)], args := [d1, d2, d3, d4, d5] }
  | _ => none }
def BaseOfWrongFalsely : Prop := baseOfRow.holds Tryz.pinned (OpenSpec.ofChange baseOfWrong)

/-- 'varvelaw15.OrderLacks': WHATEVER THE INPUT: true; the input reads as it did. -/
def orderLacksSpec : ChangeSpec := { name := "orderLacks", fn := fun _ => fun
  | [d1, d2, d3, d4, d5, d6] => { results := [.lit (.bool true)], args := [d1, d2, d3, d4, d5, d6] }
  | _ => none }
def orderLacksRow : OpenClaim := { program := "ythdmoplclllhjaagreat", sum := "9d0f4886d71081f1925841ef0cd77d325c01a6ef6d8a35b2e37fd0f8b70b766f", func := "varve/varvelaw15.OrderLacks", spec := "orderLacks", unfollowed := true, recurses := true, loops := true, plainKeys := false, apart := false }
def OrderLacksSaid : Prop := orderLacksRow.holds Tryz.pinned (OpenSpec.ofChange orderLacksSpec)

/-- ITS FALSE NEIGHBOUR: 'it returns false'. Refute it at one input. -/
def orderLacksWrong : ChangeSpec := { name := "orderLacks", fn := fun _ => fun
  | [d1, d2, d3, d4, d5, d6] => { results := [.lit (.bool false)], args := [d1, d2, d3, d4, d5, d6] }
  | _ => none }
def OrderLacksWrongFalsely : Prop := orderLacksRow.holds Tryz.pinned (OpenSpec.ofChange orderLacksWrong)

/-- 'varvelaw15.OrderFills': WHATEVER THE INPUT: true; the input reads as it did. -/
def orderFillsSpec : ChangeSpec := { name := "orderFills", fn := fun _ => fun
  | [d1, d2, d3, d4] => { results := [.lit (.bool true)], args := [d1, d2, d3, d4] }
  | _ => none }
def orderFillsRow : OpenClaim := { program := "ythdmoplclllhjaagreat", sum := "9d0f4886d71081f1925841ef0cd77d325c01a6ef6d8a35b2e37fd0f8b70b766f", func := "varve/varvelaw15.OrderFills", spec := "orderFills", unfollowed := true, recurses := true, loops := true, plainKeys := false, apart := false }
def OrderFillsSaid : Prop := orderFillsRow.holds Tryz.pinned (OpenSpec.ofChange orderFillsSpec)

/-- ITS FALSE NEIGHBOUR: 'it returns false'. Refute it at one input. -/
def orderFillsWrong : ChangeSpec := { name := "orderFills", fn := fun _ => fun
  | [d1, d2, d3, d4] => { results := [.lit (.bool false)], args := [d1, d2, d3, d4] }
  | _ => none }
def OrderFillsWrongFalsely : Prop := orderFillsRow.holds Tryz.pinned (OpenSpec.ofChange orderFillsWrong)

/-- 'varvelaw47.LevelsMake': WHATEVER THE INPUT: true; the input reads as it did. -/
def levelsMakeSpec : ChangeSpec := { name := "levelsMake", fn := fun _ => fun
  | [d1, d2, d3] => { results := [.lit (.bool true)], args := [d1, d2, d3] }
  | _ => none }
def levelsMakeRow : OpenClaim := { program := "ythdmoplclllhjaagreat", sum := "9d0f4886d71081f1925841ef0cd77d325c01a6ef6d8a35b2e37fd0f8b70b766f", func := "varve/varvelaw47.LevelsMake", spec := "levelsMake", unfollowed := true, recurses := true, loops := true, plainKeys := false, apart := false }
def LevelsMakeSaid : Prop := levelsMakeRow.holds Tryz.pinned (OpenSpec.ofChange levelsMakeSpec)

/-- ITS FALSE NEIGHBOUR: 'it returns false'. Refute it at one input. -/
def levelsMakeWrong : ChangeSpec := { name := "levelsMake", fn := fun _ => fun
  | [d1, d2, d3] => { results := [.lit (.bool false)], args := [d1, d2, d3] }
  | _ => none }
def LevelsMakeWrongFalsely : Prop := levelsMakeRow.holds Tryz.pinned (OpenSpec.ofChange levelsMakeWrong)

/-- 'varvelaw47.LevelsNone': WHATEVER THE INPUT: true; the input reads as it did. -/
def levelsNoneSpec : ChangeSpec := { name := "levelsNone", fn := fun _ => fun
  | [d] => { results := [.lit (.bool true)], args := [d] }
  | _ => none }
def levelsNoneRow : OpenClaim := { program := "ythdmoplclllhjaagreat", sum := "9d0f4886d71081f1925841ef0cd77d325c01a6ef6d8a35b2e37fd0f8b70b766f", func := "varve/varvelaw47.LevelsNone", spec := "levelsNone", unfollowed := true, recurses := true, plainKeys := false, apart := false }
def LevelsNoneSaid : Prop := levelsNoneRow.holds Tryz.pinned (OpenSpec.ofChange levelsNoneSpec)

/-- ITS FALSE NEIGHBOUR: 'it returns false'. Refute it at one input. -/
def levelsNoneWrong : ChangeSpec := { name := "levelsNone", fn := fun _ => fun
  | [d] => { results := [.lit (.bool false)], args := [d] }
  | _ => none }
def LevelsNoneWrongFalsely : Prop := levelsNoneRow.holds Tryz.pinned (OpenSpec.ofChange levelsNoneWrong)

/-- 'varvelaw47.LevelsShape': WHATEVER THE INPUT: true; the input reads as it did. -/
def levelsShapeSpec : ChangeSpec := { name := "levelsShape", fn := fun _ => fun
  | [d1, d2] => { results := [.lit (.bool true)], args := [d1, d2] }
  | _ => none }
def levelsShapeRow : OpenClaim := { program := "ythdmoplclllhjaagreat", sum := "9d0f4886d71081f1925841ef0cd77d325c01a6ef6d8a35b2e37fd0f8b70b766f", func := "varve/varvelaw47.LevelsShape", spec := "levelsShape", unfollowed := true, recurses := true, loops := true, plainKeys := false, apart := false }
def LevelsShapeSaid : Prop := levelsShapeRow.holds Tryz.pinned (OpenSpec.ofChange levelsShapeSpec)

/-- ITS FALSE NEIGHBOUR: 'it returns false'. Refute it at one input. -/
def levelsShapeWrong : ChangeSpec := { name := "levelsShape", fn := fun _ => fun
  | [d1, d2] => { results := [.lit (.bool false)], args := [d1, d2] }
  | _ => none }
def LevelsShapeWrongFalsely : Prop := levelsShapeRow.holds Tryz.pinned (OpenSpec.ofChange levelsShapeWrong)

/- THE SECOND FORM. 'bulk': how many values and letters a reading holds, each counted each time it is reached (what is shared counts as often as it is met; a slice's spare places count too). A statement '..UptoSaid' is the law's where the arguments, and the package variables that the reading takes, are together of bulk at most 1048576: NARROWER than '..Said'. Prove '..Said' where nothing that the law and all that it calls make is longer than what came in: it says more and counts as full. Else prove '..UptoSaid'. A law counts once. -/
mutual
def uptoBulk {H : Type} : DataW H → Nat
  | .lit (.string bytes) => bytes.length + 1
  | .lit _ => 1
  | .nil => 1
  | .ptr d => uptoBulk d + 1
  | .slice elems spare => uptoBulkAll elems + uptoBulkAll spare + 1
  | .agg parts => uptoBulkAll parts + 1
  | .iface _ d => uptoBulk d + 1
  | .map entries => uptoBulkEntries entries + 1
  | .held _ => 1
def uptoBulkAll {H : Type} : List (DataW H) → Nat
  | [] => 0
  | d :: r => uptoBulk d + uptoBulkAll r
def uptoBulkEntries {H : Type} : List (Lit × DataW H) → Nat
  | [] => 0
  | x :: r => uptoBulkEntry x + uptoBulkEntries r
def uptoBulkEntry {H : Type} : Lit × DataW H → Nat
  | (.string bytes, d) => bytes.length + uptoBulk d + 1
  | (_, d) => uptoBulk d + 1
 end
def uptoSmall : (H : Type) → List (DataW H) → Bool := fun _ ds => decide (uptoBulkAll ds ≤ 1048576)
def OpenSpec.upto (s : _root_.Go.ChangeSpec) : _root_.Go.OpenSpec := { _root_.Go.OpenSpec.ofChange s with cond := some uptoSmall }

/-- 'varvelaw12.GraphWhole', WHERE WHAT IT READS IS OF BULK AT MOST 1048576: true; the input reads as it did. -/
def graphWholeUptoRow : OpenClaim := { program := "ythdmoplclllhjaagreat", sum := "9d0f4886d71081f1925841ef0cd77d325c01a6ef6d8a35b2e37fd0f8b70b766f", func := "varve/varvelaw12.GraphWhole", spec := "graphWhole", unfollowed := true, recurses := true, loops := true, plainKeys := false, apart := false, narrowed := true }
def GraphWholeUptoSaid : Prop := graphWholeUptoRow.holds Tryz.pinned (OpenSpec.upto graphWholeSpec)

/-- 'varvelaw13.BaseAncestors', WHERE WHAT IT READS IS OF BULK AT MOST 1048576: true; the input reads as it did. -/
def baseAncestorsUptoRow : OpenClaim := { program := "ythdmoplclllhjaagreat", sum := "9d0f4886d71081f1925841ef0cd77d325c01a6ef6d8a35b2e37fd0f8b70b766f", func := "varve/varvelaw13.BaseAncestors", spec := "baseAncestors", unfollowed := true, recurses := true, loops := true, plainKeys := false, apart := false, narrowed := true }
def BaseAncestorsUptoSaid : Prop := baseAncestorsUptoRow.holds Tryz.pinned (OpenSpec.upto baseAncestorsSpec)

/-- 'varvelaw12.GraphPlays', WHERE WHAT IT READS IS OF BULK AT MOST 1048576: true; the input reads as it did. -/
def graphPlaysUptoRow : OpenClaim := { program := "ythdmoplclllhjaagreat", sum := "9d0f4886d71081f1925841ef0cd77d325c01a6ef6d8a35b2e37fd0f8b70b766f", func := "varve/varvelaw12.GraphPlays", spec := "graphPlays", inPlace := ["maps.clone"], unfollowed := true, recurses := true, loops := true, plainKeys := false, apart := false, narrowed := true }
def GraphPlaysUptoSaid : Prop := graphPlaysUptoRow.holds Tryz.pinned (OpenSpec.upto graphPlaysSpec)

/-- 'varvelaw12.GraphNone', WHERE WHAT IT READS IS OF BULK AT MOST 1048576: true; the input reads as it did. -/
def graphNoneUptoRow : OpenClaim := { program := "ythdmoplclllhjaagreat", sum := "9d0f4886d71081f1925841ef0cd77d325c01a6ef6d8a35b2e37fd0f8b70b766f", func := "varve/varvelaw12.GraphNone", spec := "graphNone", inPlace := ["maps.clone"], unfollowed := true, recurses := true, plainKeys := false, apart := false, narrowed := true }
def GraphNoneUptoSaid : Prop := graphNoneUptoRow.holds Tryz.pinned (OpenSpec.upto graphNoneSpec)

/-- 'varvelaw13.BaseOf', WHERE WHAT IT READS IS OF BULK AT MOST 1048576: true; the input reads as it did. -/
def baseOfUptoRow : OpenClaim := { program := "ythdmoplclllhjaagreat", sum := "9d0f4886d71081f1925841ef0cd77d325c01a6ef6d8a35b2e37fd0f8b70b766f", func := "varve/varvelaw13.BaseOf", spec := "baseOf", unfollowed := true, recurses := true, loops := true, plainKeys := false, apart := false, narrowed := true }
def BaseOfUptoSaid : Prop := baseOfUptoRow.holds Tryz.pinned (OpenSpec.upto baseOfSpec)

/-- 'varvelaw15.OrderLacks', WHERE WHAT IT READS IS OF BULK AT MOST 1048576: true; the input reads as it did. -/
def orderLacksUptoRow : OpenClaim := { program := "ythdmoplclllhjaagreat", sum := "9d0f4886d71081f1925841ef0cd77d325c01a6ef6d8a35b2e37fd0f8b70b766f", func := "varve/varvelaw15.OrderLacks", spec := "orderLacks", unfollowed := true, recurses := true, loops := true, plainKeys := false, apart := false, narrowed := true }
def OrderLacksUptoSaid : Prop := orderLacksUptoRow.holds Tryz.pinned (OpenSpec.upto orderLacksSpec)

/-- 'varvelaw15.OrderFills', WHERE WHAT IT READS IS OF BULK AT MOST 1048576: true; the input reads as it did. -/
def orderFillsUptoRow : OpenClaim := { program := "ythdmoplclllhjaagreat", sum := "9d0f4886d71081f1925841ef0cd77d325c01a6ef6d8a35b2e37fd0f8b70b766f", func := "varve/varvelaw15.OrderFills", spec := "orderFills", unfollowed := true, recurses := true, loops := true, plainKeys := false, apart := false, narrowed := true }
def OrderFillsUptoSaid : Prop := orderFillsUptoRow.holds Tryz.pinned (OpenSpec.upto orderFillsSpec)

/-- 'varvelaw47.LevelsMake', WHERE WHAT IT READS IS OF BULK AT MOST 1048576: true; the input reads as it did. -/
def levelsMakeUptoRow : OpenClaim := { program := "ythdmoplclllhjaagreat", sum := "9d0f4886d71081f1925841ef0cd77d325c01a6ef6d8a35b2e37fd0f8b70b766f", func := "varve/varvelaw47.LevelsMake", spec := "levelsMake", unfollowed := true, recurses := true, loops := true, plainKeys := false, apart := false, narrowed := true }
def LevelsMakeUptoSaid : Prop := levelsMakeUptoRow.holds Tryz.pinned (OpenSpec.upto levelsMakeSpec)

/-- 'varvelaw47.LevelsNone', WHERE WHAT IT READS IS OF BULK AT MOST 1048576: true; the input reads as it did. -/
def levelsNoneUptoRow : OpenClaim := { program := "ythdmoplclllhjaagreat", sum := "9d0f4886d71081f1925841ef0cd77d325c01a6ef6d8a35b2e37fd0f8b70b766f", func := "varve/varvelaw47.LevelsNone", spec := "levelsNone", unfollowed := true, recurses := true, plainKeys := false, apart := false, narrowed := true }
def LevelsNoneUptoSaid : Prop := levelsNoneUptoRow.holds Tryz.pinned (OpenSpec.upto levelsNoneSpec)

/-- 'varvelaw47.LevelsShape', WHERE WHAT IT READS IS OF BULK AT MOST 1048576: true; the input reads as it did. -/
def levelsShapeUptoRow : OpenClaim := { program := "ythdmoplclllhjaagreat", sum := "9d0f4886d71081f1925841ef0cd77d325c01a6ef6d8a35b2e37fd0f8b70b766f", func := "varve/varvelaw47.LevelsShape", spec := "levelsShape", unfollowed := true, recurses := true, loops := true, plainKeys := false, apart := false, narrowed := true }
def LevelsShapeUptoSaid : Prop := levelsShapeUptoRow.holds Tryz.pinned (OpenSpec.upto levelsShapeSpec)

end Rows
end Go.Proofs.YthdmoplclllhjaaGreat
