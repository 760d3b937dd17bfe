/- maps.Keys over a map of commits by dots; slices.AppendSeq, slices.Collect of it. (printed by wip/tools/genkeysd.py) | slices.DeleteFunc of dots in a row of their own, by any function: contract. | graph.Heads: contract. | graph.Heads: contract. | graph.Time; a graph that is not there, or was not made. | graph.New of the baseline of nothing. -/
import Derived.Test.YtbeblbgbngplhaaGreatGraC
import Derived.Test.YtbeblbgbngplhaaGreatFuseA
/- GraJ -/
namespace Go.Proofs.YtbeblbgbngplhaaGreat
open Go.RowKit Go.Shelf
set_option linter.unusedVariables false
set_option linter.unusedSimpArgs false
attribute [local go_sem] Oper.semAt_some

/-- nothing is still to come -/
def NoneLeftD (left : Dt → Bool) : Prop := ∀ a, okD a → left a = false
/-- an entry has come -/
structure NextD (w : World) (b r n : Nat) (f : Dt → Option Value) (left : Dt → Bool) (cnt : Nat) (rr ii qq : Int) (v : Value) (w' : World) (cnt' : Nat) : Prop where
  ok : okD ((rr, ii), qq)
  was : left ((rr, ii), qq) = true
  val : f ((rr, ii), qq) = some v
  rng : RangeF w' Tryz.prog 52 mkD b r n f (fun y => left y && !decide (y = ((rr, ii), qq))) cnt'
  lt : cnt' < cnt
  grown : w.grownBy w' (some r)
  size : w'.heap.size = w.heap.size
section
variable {w : World} {ops : Array Oper} {rest : List Oper} {o : Oper} {a : Act} {Q : Exit → Act → World → Prop} {F : Fence} {nf : Nat}
theorem wpListIn_next_D (hg : o.guard = none) (it : Operand) (hop : o.op = Op.next it false) (b r n : Nat) (f : Dt → Option Value) (left : Dt → Bool) (cnt : Nat)
    (hit : a.eval it = .pointer (some ⟨r, 0, none⟩)) (h : RangeF w Tryz.prog 52 mkD b r n f left cnt)
    (hDone : NoneLeftD left → wpListIn F nf Tryz.prog ops Q rest (a.put o.dst (.tuple #[.bool false])) w)
    (hMore : ∀ rr ii qq v w' cnt', NextD w b r n f left cnt rr ii qq v w' cnt' → (Instr.entry (.pointer (some ⟨r, 0, none⟩))).run Tryz.prog w' = .ok (.tuple #[.agg #[.int .u8 rr, .int .u32 ii, .int .u64 qq], v]) w' →
      wpListIn F nf Tryz.prog ops Q rest (a.put o.dst (.tuple #[.bool true, .agg #[.int .u8 rr, .int .u32 ii, .int .u64 qq], v])) w') : wpListIn F nf Tryz.prog ops Q (o :: rest) a w :=
  wpListIn_next_F keysD hg it hop b r n f left cnt hit h (fun _ h => hDone fun a ha => by obtain ⟨l, hl⟩ := keyD_ok ha; exact h a l hl)
    (fun x v l w' cnt' h1 h2 h3 h4 h5 h6 h7 h8 => hMore x.1.1 x.1.2 x.2 v w' cnt' ⟨keyD_inv h1, h2, h3, h4, h5, h6, h7⟩ h8)
end

end Go.Proofs.YtbeblbgbngplhaaGreat

/- GraK -/
namespace Go.Proofs.YtbeblbgbngplhaaGreat
open Go.RowKit
set_option linter.unusedVariables false
set_option linter.unusedSimpArgs false

end Go.Proofs.YtbeblbgbngplhaaGreat

/- GraL -/
namespace Go.Proofs.YtbeblbgbngplhaaGreat
open Go.RowKit
set_option linter.unusedVariables false
set_option linter.unusedSimpArgs false

theorem fvW_mem {L : List Cw} (hn : ((cms L).map (·.d)).Nodup) {v : Cw} (hv : v ∈ L) : fdW L v.c.d = some v := by
  induction L with
  | nil => cases hv
  | cons a L ih =>
    unfold cms at hn
    rw [List.map_cons, List.map_cons, List.nodup_cons] at hn
    unfold fdW
    rw [List.find?_cons]
    by_cases e : a.c.d = v.c.d
    · rw [decide_eq_true e]
      rcases List.mem_cons.1 hv with rfl | h
      · rfl
      · exact absurd (List.mem_map.2 ⟨v.c, List.mem_map.2 ⟨v, h, rfl⟩, e.symm⟩) hn.1
    · rw [decide_eq_false e]
      rcases List.mem_cons.1 hv with rfl | h
      · exact absurd rfl e
      · exact ih hn.2 h
theorem fvW_some {L : List Cw} {d : Dt} {x : Value} (h : fvW L d = some x) : ∃ v ∈ L, v.c.d = d ∧ x = cwv v := by
  unfold fvW at h
  cases hf : fdW L d with
  | none => rw [hf] at h; cases h
  | some v => rw [hf] at h; exact ⟨v, (fdW_some hf).1, (fdW_some hf).2, (Option.some.inj h).symm⟩
theorem same_of_d {L : List Cw} (hn : ((cms L).map (·.d)).Nodup) {u v : Cw} (hu : u ∈ L) (hv : v ∈ L) (h : u.c.d = v.c.d) : u = v := by
  have h1 := fvW_mem hn hu
  rw [h, fvW_mem hn hv] at h1
  exact (Option.some.inj h1).symm
end Go.Proofs.YtbeblbgbngplhaaGreat

/- GraM -/
namespace Go.Proofs.YtbeblbgbngplhaaGreat
open Go.RowKit
set_option linter.unusedVariables false
set_option linter.unusedSimpArgs false

end Go.Proofs.YtbeblbgbngplhaaGreat

/- GraN -/
namespace Go.Proofs.YtbeblbgbngplhaaGreat
open Go.RowKit
set_option linter.unusedVariables false
set_option linter.unusedSimpArgs false

end Go.Proofs.YtbeblbgbngplhaaGreat

/- GraO -/
namespace Go.Proofs.YtbeblbgbngplhaaGreat
open Go.RowKit
set_option linter.unusedVariables false
set_option linter.unusedSimpArgs false

abbrev basecells (num : Int) (fa : Option Addr) (fn fc : Nat) (ta : Option Addr) (tn tc : Nat) (t : Int) (ra : Option Addr) (rn rc : Nat) : Array Value :=
  #[.int .u64 num, .slice fa fn fc, .slice ta tn tc, .int .u64 t, .slice ra rn rc]
end Go.Proofs.YtbeblbgbngplhaaGreat
