/-
  NARROWER THAN 'FOR EVERY INPUT', by the rows' own cells (each row's printed sentence says how): AuditMakes: loops · DigestLike: loops · DigestMore: loops.
  DERIVED. THE GIVEN ROWS OF THIS SEAT. 3 by the template 'for every input the law returns true; each argument reads behind the call as it read before'; 0 by the template 'total and deterministic' (their statements: YtaandcblndldmaaGreatTotals.lean).
  GIVEN WITH THE SEED: the statements are not yours to turn. If you find one false, say at which input.
  Laid BY PROGRAM, IN A SANDBOX (cutbox-rows.mjs): the forced cells as the released guide's own fill.sh prints them over the translation 6be3a09c453b41a9… (all of the seat's roots in one cut). By AI agents, Wed Nov 11 2026. No macro, syntax, notation, axiom, sorry.
-/
import Derived.Test.YtaandcblndldmaaGreatChecked
import GoSem.Claim
import GoSem.ClaimJoined
import GoSem.ClaimMapViews
import Derived.JoinedTies
import Derived.KernelRfl
namespace Go.Proofs.YtaandcblndldmaaGreat
/- THE CELL 'sum', in the pinned program and in every row, IS THE sha256 OF THE DUMP (.gsa) THAT YtaandcblndldmaaGreatProg.lean LOADS. Nothing in Lean hashes anything: it is a label: what it is worth is what the hold of that sum in a sandbox is worth. -/
noncomputable def Tryz.pinned : Pinned := { name := "ytaandcblndldmaagreat", sum := "6be3a09c453b41a935490af42799dbef04e4dd419d82f0b85608955a277db454", checked := Tryz.checked }
namespace Rows
def none {H : Type} : Left H := { results := [], args := [] }

/-- 'varvelaw36.AuditMakes': WHATEVER THE INPUT: true; the input reads as it did. -/
def auditMakesSpec : ChangeSpec := { name := "auditMakes", fn := fun _ => fun
  | [d] => { results := [.lit (.bool true)], args := [d] }
  | _ => none }
def auditMakesRow : OpenClaim := { program := "ytaandcblndldmaagreat", sum := "6be3a09c453b41a935490af42799dbef04e4dd419d82f0b85608955a277db454", func := "varve/varvelaw36.AuditMakes", spec := "auditMakes", unfollowed := true, recurses := true, loops := true, plainKeys := false, apart := false }
def AuditMakesSaid : Prop := auditMakesRow.holds Tryz.pinned (OpenSpec.ofChange auditMakesSpec)

/-- ITS FALSE NEIGHBOUR: 'it returns false'. Refute it at one input. -/
def auditMakesWrong : ChangeSpec := { name := "auditMakes", fn := fun _ => fun
  | [d] => { results := [.lit (.bool false)], args := [d] }
  | _ => none }
def AuditMakesWrongFalsely : Prop := auditMakesRow.holds Tryz.pinned (OpenSpec.ofChange auditMakesWrong)

/-- 'varvelaw37.DigestLike': WHATEVER THE INPUT: true; the input reads as it did. -/
def digestLikeSpec : ChangeSpec := { name := "digestLike", fn := fun _ => fun
  | [d1, d2, d3] => { results := [.lit (.bool true)], args := [d1, d2, d3] }
  | _ => none }
def digestLikeRow : OpenClaim := { program := "ytaandcblndldmaagreat", sum := "6be3a09c453b41a935490af42799dbef04e4dd419d82f0b85608955a277db454", func := "varve/varvelaw37.DigestLike", spec := "digestLike", unfollowed := true, recurses := true, loops := true, plainKeys := false, apart := false }
def DigestLikeSaid : Prop := digestLikeRow.holds Tryz.pinned (OpenSpec.ofChange digestLikeSpec)

/-- ITS FALSE NEIGHBOUR: 'it returns false'. Refute it at one input. -/
def digestLikeWrong : ChangeSpec := { name := "digestLike", fn := fun _ => fun
  | [d1, d2, d3] => { results := [.lit (.bool false)], args := [d1, d2, d3] }
  | _ => none }
def DigestLikeWrongFalsely : Prop := digestLikeRow.holds Tryz.pinned (OpenSpec.ofChange digestLikeWrong)

/-- 'varvelaw37.DigestMore': WHATEVER THE INPUT: true; the input reads as it did. -/
def digestMoreSpec : ChangeSpec := { name := "digestMore", fn := fun _ => fun
  | [d1, d2, d3] => { results := [.lit (.bool true)], args := [d1, d2, d3] }
  | _ => none }
def digestMoreRow : OpenClaim := { program := "ytaandcblndldmaagreat", sum := "6be3a09c453b41a935490af42799dbef04e4dd419d82f0b85608955a277db454", func := "varve/varvelaw37.DigestMore", spec := "digestMore", unfollowed := true, recurses := true, loops := true, plainKeys := false, apart := false }
def DigestMoreSaid : Prop := digestMoreRow.holds Tryz.pinned (OpenSpec.ofChange digestMoreSpec)

/-- ITS FALSE NEIGHBOUR: 'it returns false'. Refute it at one input. -/
def digestMoreWrong : ChangeSpec := { name := "digestMore", fn := fun _ => fun
  | [d1, d2, d3] => { results := [.lit (.bool false)], args := [d1, d2, d3] }
  | _ => none }
def DigestMoreWrongFalsely : Prop := digestMoreRow.holds Tryz.pinned (OpenSpec.ofChange digestMoreWrong)

/- THE SECOND FORM. 'bulk': how many values and letters a reading holds, each counted each time it is reached (what is shared counts as often as it is met; a slice's spare places count too). A statement '..UptoSaid' is the law's where the arguments, and the package variables that the reading takes, are together of bulk at most 1048576: NARROWER than '..Said'. Prove '..Said' where nothing that the law and all that it calls make is longer than what came in: it says more and counts as full. Else prove '..UptoSaid'. A law counts once. -/
mutual
def uptoBulk {H : Type} : DataW H → Nat
  | .lit (.string bytes) => bytes.length + 1
  | .lit _ => 1
  | .nil => 1
  | .ptr d => uptoBulk d + 1
  | .slice elems spare => uptoBulkAll elems + uptoBulkAll spare + 1
  | .agg parts => uptoBulkAll parts + 1
  | .iface _ d => uptoBulk d + 1
  | .map entries => uptoBulkEntries entries + 1
  | .held _ => 1
def uptoBulkAll {H : Type} : List (DataW H) → Nat
  | [] => 0
  | d :: r => uptoBulk d + uptoBulkAll r
def uptoBulkEntries {H : Type} : List (Lit × DataW H) → Nat
  | [] => 0
  | x :: r => uptoBulkEntry x + uptoBulkEntries r
def uptoBulkEntry {H : Type} : Lit × DataW H → Nat
  | (.string bytes, d) => bytes.length + uptoBulk d + 1
  | (_, d) => uptoBulk d + 1
 end
def uptoSmall : (H : Type) → List (DataW H) → Bool := fun _ ds => decide (uptoBulkAll ds ≤ 1048576)
def OpenSpec.upto (s : _root_.Go.ChangeSpec) : _root_.Go.OpenSpec := { _root_.Go.OpenSpec.ofChange s with cond := some uptoSmall }

/-- 'varvelaw36.AuditMakes', WHERE WHAT IT READS IS OF BULK AT MOST 1048576: true; the input reads as it did. -/
def auditMakesUptoRow : OpenClaim := { program := "ytaandcblndldmaagreat", sum := "6be3a09c453b41a935490af42799dbef04e4dd419d82f0b85608955a277db454", func := "varve/varvelaw36.AuditMakes", spec := "auditMakes", unfollowed := true, recurses := true, loops := true, plainKeys := false, apart := false, narrowed := true }
def AuditMakesUptoSaid : Prop := auditMakesUptoRow.holds Tryz.pinned (OpenSpec.upto auditMakesSpec)

/-- 'varvelaw37.DigestLike', WHERE WHAT IT READS IS OF BULK AT MOST 1048576: true; the input reads as it did. -/
def digestLikeUptoRow : OpenClaim := { program := "ytaandcblndldmaagreat", sum := "6be3a09c453b41a935490af42799dbef04e4dd419d82f0b85608955a277db454", func := "varve/varvelaw37.DigestLike", spec := "digestLike", unfollowed := true, recurses := true, loops := true, plainKeys := false, apart := false, narrowed := true }
def DigestLikeUptoSaid : Prop := digestLikeUptoRow.holds Tryz.pinned (OpenSpec.upto digestLikeSpec)

/-- 'varvelaw37.DigestMore', WHERE WHAT IT READS IS OF BULK AT MOST 1048576: true; the input reads as it did. -/
def digestMoreUptoRow : OpenClaim := { program := "ytaandcblndldmaagreat", sum := "6be3a09c453b41a935490af42799dbef04e4dd419d82f0b85608955a277db454", func := "varve/varvelaw37.DigestMore", spec := "digestMore", unfollowed := true, recurses := true, loops := true, plainKeys := false, apart := false, narrowed := true }
def DigestMoreUptoSaid : Prop := digestMoreUptoRow.holds Tryz.pinned (OpenSpec.upto digestMoreSpec)

end Rows
end Go.Proofs.YtaandcblndldmaaGreat
