/- Maps that count dots: looked up, counted on, measured. -/
import Derived.Test.YtmabjghjkgicgaaGreatLowA
import Derived.WideKeyEntry
import Derived.Test.YtmabjghjkgicgaaGreatLeafP
namespace Go.Proofs.YtmabjghjkgicgaaGreat
open Go.RowKit
set_option linter.unusedVariables false
set_option linter.unusedSimpArgs false

section
variable {P : Program}
theorem keyLits_three {d : Nat} {k : TypeId} {f0 f1 : Field} (hu : P.underlying k = some (.struct #[f0, f1])) (n0 : (f0.name != "_") = true) (n1 : (f1.name != "_") = true) (o0 : f0.offset = 0) (o1 : f1.offset = 2)
    (c : P.cellsOf k = 3) (c0 : P.cellsOf f0.type = 2) (c1 : P.cellsOf f1.type = 1) (x y z : Value) :
    P.keyLits (d + 1) k [x, y, z] = (P.keyLits d f0.type [x, y]).bind fun a => (P.keyLits d f1.type [z]).map fun b => a ++ b := by
  conv => lhs; unfold Program.keyLits
  rw [hu]
  simp only [c, List.length_cons, List.length_nil, Nat.zero_add, Nat.reduceAdd, true_and]
  rw [if_pos (by simp [n0, n1])]
  simp only [List.mapM_cons, List.mapM_nil, o0, o1, c0, c1, List.drop_zero, List.drop_succ_cons, List.take_succ_cons, List.take_zero]
  cases P.keyLits d f0.type [x, y] <;> cases P.keyLits d f1.type [z] <;> simp
end

def mkD (d : Dt) : Value := .agg #[.int .u8 d.1.1, .int .u32 d.1.2, .int .u64 d.2]
theorem mkD_inj {a b : Dt} (h : mkD a = mkD b) : a = b := by
  obtain ⟨⟨r, i⟩, s⟩ := a
  obtain ⟨⟨r', i'⟩, s'⟩ := b
  simp [mkD] at h
  simp [h]
theorem keyedD : Maps.Keyed Tryz.prog 44 := Maps.Keyed.of_law (deep_law_gate laidOutP (of_decide_eq_true (by kernel_rfl)) (of_decide_eq_true (by kernel_rfl)) (by kernel_rfl) (by kernel_rfl))
theorem keyD_ok {d : Dt} (h : okD d) : ∃ l, keyOf Tryz.prog 44 (mkD d) = some l := by
  obtain ⟨⟨r, i⟩, s⟩ := d
  obtain ⟨n, hn⟩ : ∃ n, Tryz.prog.types.size = n + 2 := ⟨Tryz.prog.types.size - 2, by have : 2 ≤ Tryz.prog.types.size := of_decide_eq_true (by kernel_rfl); omega⟩
  have h2 := keyLits_two (d := n) Tryz.underlying42 (by decide) (by decide) rfl rfl (by kernel_rfl) (by kernel_rfl) (by kernel_rfl) Tryz.underlying5 Tryz.underlying40 (.int .u8 r) (.int .u32 i)
  have h3 : Tryz.prog.keyLits (n + 2) 32 [.int .u64 s] = litOf .u64 (.int .u64 s) := keyLits_one (d := n + 1) Tryz.underlying32 (.int .u64 s)
  have h4 := keyLits_three (d := n + 2) Tryz.underlying44 (by decide) (by decide) rfl rfl (by kernel_rfl) (by kernel_rfl) (by kernel_rfl) (.int .u8 r) (.int .u32 i) (.int .u64 s)
  have hk : Tryz.prog.keyType 44 = true := by kernel_rfl
  have hc : Tryz.prog.cellsOf 44 = 3 := by kernel_rfl
  have hf : (mkD ((r, i), s)).formed Tryz.prog 44 = true := by simp [mkD, Value.formed, Tryz.underlying44, hc]
  have hl : (mkD ((r, i), s)).cells.toList = [.int .u8 r, .int .u32 i, .int .u64 s] := by simp [mkD, Value.cells]
  have e1 := (wf8 r).2 h.1.1
  have e2 := (wf32 i).2 h.1.2
  have e3 := (wf64 s).2 h.2
  unfold keyOf
  rw [Tryz.underlying44]
  simp only [hk, hf, hl, hn, Bool.and_self, if_true]
  rw [h4, h2, h3]
  simp [litOf, e1, e2, e3]

section
open Go.MapKept
def insD (ks : List Dt) (d : Dt) : List Dt := if d ∈ ks then ks else ks ++ [d]
/-- block b is a map whose keys are the dots ks, one behind the other, with the numbers g -/
def CntE (w : World) (b : Nat) (ks : List Dt) (g : Dt → Int) (es : Array MapEntry) (clock : Nat) : Prop :=
  w.heap[b]? = some (.map es clock) ∧ Stamped es clock ∧ es.toList.map (fun e => (e.key, e.val)) = ks.map (fun d => (mkD d, Value.int .i64 (g d))) ∧ (∀ d ∈ ks, okD d) ∧ ∀ d, d ∉ ks → g d = 0
def CntD (w : World) (b : Nat) (ks : List Dt) (g : Dt → Int) : Prop := ∃ es clock, CntE w b ks g es clock
def MidD (w : World) (b : Nat) (ks : List Dt) (g : Dt → Int) (d : Dt) (st : Nat) : Prop :=
  ∃ es clock j, CntE w b ks g es clock ∧ es.findIdx? (fun e => ((e.born : Nat) : Int) == ((st : Nat) : Int)) = some j ∧ ks[j]? = some d
theorem MidD.cnt {w : World} {b st : Nat} {ks : List Dt} {g : Dt → Int} {d : Dt} (h : MidD w b ks g d st) : CntD w b ks g := by
  obtain ⟨es, c, _, h, _⟩ := h; exact ⟨es, c, h⟩
theorem CntE.at {w : World} {b : Nat} {ks : List Dt} {g : Dt → Int} {es : Array MapEntry} {clock : Nat} (h : CntE w b ks g es clock) {j : Nat} {e : MapEntry} (hj : es.toList[j]? = some e) : ∃ d, ks[j]? = some d ∧ e.key = mkD d ∧ e.val = .int .i64 (g d) := by
  have h1 := congrArg (fun l => l[j]?) h.2.2.1
  simp only [List.getElem?_map, hj, Option.map_some] at h1
  cases hk : ks[j]? with
  | none => rw [hk] at h1; cases h1
  | some d => rw [hk] at h1; simp only [Option.map_some, Option.some.injEq, Prod.mk.injEq] at h1; exact ⟨d, rfl, h1.1, h1.2⟩
theorem CntE.keys {w : World} {b : Nat} {ks : List Dt} {g : Dt → Int} {es : Array MapEntry} {clock : Nat} (h : CntE w b ks g es clock) : ∀ e ∈ es.toList, ∃ l, keyOf Tryz.prog 44 e.key = some l := fun e he => by
  obtain ⟨j, hj, rfl⟩ := List.getElem_of_mem he
  obtain ⟨d, h1, h2, _⟩ := h.at (List.getElem?_eq_getElem hj)
  obtain ⟨l, hl⟩ := keyD_ok (h.2.2.2.1 d (List.mem_of_getElem? h1))
  exact ⟨l, by rw [h2, hl]⟩
theorem CntE.find {w : World} {b : Nat} {ks : List Dt} {g : Dt → Int} {es : Array MapEntry} {clock : Nat} (h : CntE w b ks g es clock) {d : Dt} (hd : okD d) :
    (d ∉ ks ∧ (Instr.findKey 44 (mkD d) es.toList).run Tryz.prog w = .ok none w ∧ ∀ e ∈ es.toList, e.key ≠ mkD d) ∨
    ∃ j e, (Instr.findKey 44 (mkD d) es.toList).run Tryz.prog w = .ok (some (j, e.val)) w ∧ es.toList[j]? = some e ∧ e.key = mkD d ∧ e.val = .int .i64 (g d) ∧ ks[j]? = some d := by
  obtain ⟨l, hl⟩ := keyD_ok hd
  rcases keyedD.find w hl es.toList h.keys with ⟨h1, h2⟩ | ⟨j, e, h1, h2, h3⟩
  · refine .inl ⟨fun hm => ?_, h1, h2⟩
    obtain ⟨j, hj, hjd⟩ := List.getElem_of_mem hm
    have hlen : es.toList.length = ks.length := by have := congrArg List.length h.2.2.1; simpa using this
    have hj' : j < es.toList.length := by omega
    obtain ⟨d', h4, h5, _⟩ := h.at (List.getElem?_eq_getElem hj')
    rw [List.getElem?_eq_getElem hj, hjd] at h4
    cases h4
    exact h2 _ (List.getElem_mem hj') h5
  · obtain ⟨d', h4, h5, h6⟩ := h.at h2
    have : d' = d := mkD_inj (h5.symm.trans h3)
    subst this
    exact .inr ⟨j, e, h1, h2, h3, h6, h4⟩
end

/-- dots, each once, as they come -/
def distinct (L : List Dt) : List Dt := L.foldl insD []
def cntI (L : List Dt) (d : Dt) : Int := ((L.countP fun x => decide (x = d) : Nat) : Int)
/-- block b counts the dots of L -/
def SeenAt (w : World) (b : Nat) (L : List Dt) : Prop := CntD w b (distinct L) (cntI L)
theorem SeenAt.made (w : World) : SeenAt (w.alloc (.map #[] 0)) w.heap.size [] :=
  ⟨#[], 0, heap_new w _, MapKept.stamped_empty 0, rfl, by simp [distinct], fun d _ => by simp [cntI]⟩
theorem CntD.chg {w w' : World} {b : Nat} {ks : List Dt} {g : Dt → Int} {F : List Nat} (h : CntD w b ks g) (hc : Chg F w w') (hb : b ∉ F) : CntD w' b ks g := by
  obtain ⟨es, clock, h1, h2⟩ := h
  exact ⟨es, clock, heap_chg h1 hc hb, h2⟩
theorem CntD.lt {w : World} {b : Nat} {ks : List Dt} {g : Dt → Int} (h : CntD w b ks g) : b < w.heap.size := by
  obtain ⟨es, clock, h1, h2⟩ := h
  exact heap_lt h1
theorem SeenAt.chg {w w' : World} {b : Nat} {L : List Dt} {F : List Nat} (h : SeenAt w b L) (hc : Chg F w w') (hb : b ∉ F) : SeenAt w' b L := CntD.chg h hc hb
theorem SeenAt.below {w w' : World} {b : Nat} {L : List Dt} (h : SeenAt w b L) (hb : Below w.heap.size w w') : SeenAt w' b L := CntD.chg h (F := []) (Chg.of_below hb) (by simp)
theorem SeenAt.drew {w : World} {b : Nat} {L : List Dt} (h : SeenAt w b L) : SeenAt w.drew b L := h
theorem SeenAt.lt {w : World} {b : Nat} {L : List Dt} (h : SeenAt w b L) : b < w.heap.size := CntD.lt h
end Go.Proofs.YtmabjghjkgicgaaGreat
