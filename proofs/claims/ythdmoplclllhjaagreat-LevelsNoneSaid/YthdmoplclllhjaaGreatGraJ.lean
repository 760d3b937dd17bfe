/- maps.Keys over a map of commits by dots; slices.AppendSeq, slices.Collect of it. (printed by wip/tools/genkeysd.py) -/
import Derived.Test.YthdmoplclllhjaaGreatGraI
namespace Go.Proofs.YthdmoplclllhjaaGreat
open Go.RowKit Go.Shelf
set_option linter.unusedVariables false
set_option linter.unusedSimpArgs false
attribute [local go_sem] Oper.semAt_some

/-- nothing is still to come -/
def NoneLeftD (left : Dt → Bool) : Prop := ∀ a, okD a → left a = false
/-- an entry has come -/
structure NextD (w : World) (b r n : Nat) (f : Dt → Option Value) (left : Dt → Bool) (cnt : Nat) (rr ii qq : Int) (v : Value) (w' : World) (cnt' : Nat) : Prop where
  ok : okD ((rr, ii), qq)
  was : left ((rr, ii), qq) = true
  val : f ((rr, ii), qq) = some v
  rng : RangeF w' Tryz.prog 41 mkD b r n f (fun y => left y && !decide (y = ((rr, ii), qq))) cnt'
  lt : cnt' < cnt
  grown : w.grownBy w' (some r)
  size : w'.heap.size = w.heap.size
section
variable {w : World} {ops : Array Oper} {rest : List Oper} {o : Oper} {a : Act} {Q : Exit → Act → World → Prop} {F : Fence} {nf : Nat}
theorem wpList_next_D (hg : o.guard = none) (it : Operand) (hop : o.op = Op.next it false) (b r n : Nat) (f : Dt → Option Value) (left : Dt → Bool) (cnt : Nat)
    (hit : a.eval it = .pointer (some ⟨r, 0, none⟩)) (h : RangeF w Tryz.prog 41 mkD b r n f left cnt)
    (hDone : NoneLeftD left → wpList Tryz.prog ops Q rest (a.put o.dst (.tuple #[.bool false])) w)
    (hMore : ∀ rr ii qq v w' cnt', NextD w b r n f left cnt rr ii qq v w' cnt' → (Instr.entry (.pointer (some ⟨r, 0, none⟩))).run Tryz.prog w' = .ok (.tuple #[.agg #[.int .u8 rr, .int .u32 ii, .int .u64 qq], v]) w' →
      wpList Tryz.prog ops Q rest (a.put o.dst (.tuple #[.bool true, .agg #[.int .u8 rr, .int .u32 ii, .int .u64 qq], v])) w') : wpList Tryz.prog ops Q (o :: rest) a w :=
  wpList_next_F keysD hg it hop b r n f left cnt hit h (fun _ h => hDone fun a ha => by obtain ⟨l, hl⟩ := keyD_ok ha; exact h a l hl)
    (fun x v l w' cnt' h1 h2 h3 h4 h5 h6 h7 h8 => hMore x.1.1 x.1.2 x.2 v w' cnt' ⟨keyD_inv h1, h2, h3, h4, h5, h6, h7⟩ h8)
theorem wpListIn_next_D (hg : o.guard = none) (it : Operand) (hop : o.op = Op.next it false) (b r n : Nat) (f : Dt → Option Value) (left : Dt → Bool) (cnt : Nat)
    (hit : a.eval it = .pointer (some ⟨r, 0, none⟩)) (h : RangeF w Tryz.prog 41 mkD b r n f left cnt)
    (hDone : NoneLeftD left → wpListIn F nf Tryz.prog ops Q rest (a.put o.dst (.tuple #[.bool false])) w)
    (hMore : ∀ rr ii qq v w' cnt', NextD w b r n f left cnt rr ii qq v w' cnt' → (Instr.entry (.pointer (some ⟨r, 0, none⟩))).run Tryz.prog w' = .ok (.tuple #[.agg #[.int .u8 rr, .int .u32 ii, .int .u64 qq], v]) w' →
      wpListIn F nf Tryz.prog ops Q rest (a.put o.dst (.tuple #[.bool true, .agg #[.int .u8 rr, .int .u32 ii, .int .u64 qq], v])) w') : wpListIn F nf Tryz.prog ops Q (o :: rest) a w :=
  wpListIn_next_F keysD hg it hop b r n f left cnt hit h (fun _ h => hDone fun a ha => by obtain ⟨l, hl⟩ := keyD_ok ha; exact h a l hl)
    (fun x v l w' cnt' h1 h2 h3 h4 h5 h6 h7 h8 => hMore x.1.1 x.1.2 x.2 v w' cnt' ⟨keyD_inv h1, h2, h3, h4, h5, h6, h7⟩ h8)
end

/-- the keys of f, each once -/
def KeysInD (f : Dt → Option Value) (n : Nat) (ss : List Dt) : Prop := ss.length ≤ n ∧ ss.Nodup ∧ (∀ a ∈ ss, okD a) ∧ ∀ a, okD a → (a ∈ ss ↔ (f a).isSome = true)
/-- so far -/
structure CameD (f : Dt → Option Value) (left : Dt → Bool) (ss : List Dt) : Prop where
  nd : ss.Nodup
  ok : ∀ a ∈ ss, okD a
  ne : ∀ a ∈ ss, left a = false
  mem : ∀ a, okD a → (a ∈ ss ↔ (f a).isSome = true ∧ left a = false)
theorem CameD.start (f : Dt → Option Value) : CameD f (fun a => (f a).isSome) [] := ⟨List.nodup_nil, by simp, by simp, fun a _ => by cases h : f a <;> simp [h]⟩
theorem CameD.step {f : Dt → Option Value} {left : Dt → Bool} {ss : List Dt} (h : CameD f left ss) {x : Dt} {v : Value} (hok : okD x) (hl : left x = true) (hf : f x = some v) : CameD f (fun y => left y && !decide (y = x)) (ss ++ [x]) := by
  have hx : x ∉ ss := fun hx => by have := h.ne x hx; rw [hl] at this; cases this
  refine ⟨List.nodup_append.2 ⟨h.nd, by simp, fun a ha b hb => by simp at hb; subst hb; intro e; subst e; exact hx ha⟩, fun a ha => ?_, fun a ha => ?_, fun a hoka => ?_⟩
  · rcases List.mem_append.1 ha with ha | ha
    · exact h.ok a ha
    · simp at ha; subst ha; exact hok
  · rcases List.mem_append.1 ha with ha | ha
    · simp [h.ne a ha]
    · simp at ha; subst ha; simp
  · rw [List.mem_append, List.mem_singleton, h.mem a hoka]
    by_cases e : a = x
    · subst e; simp [hf, hl]
    · simp [e]
theorem CameD.done {f : Dt → Option Value} {left : Dt → Bool} {ss : List Dt} (h : CameD f left ss) (hl : NoneLeftD left) {n : Nat} (hn : ss.length ≤ n) : KeysInD f n ss :=
  ⟨hn, h.nd, h.ok, fun a ha => by rw [h.mem a ha, hl a ha]; simp⟩

end Go.Proofs.YthdmoplclllhjaaGreat
