/- Leaves in plain words: which may be, items at their place, tombs, what merges them. No program in sight. | Maps that count dots: looked up, counted on, measured. -/
import Derived.Test.YtaandcblndldmaaGreatDotP
import Derived.Test.YtaandcblndldmaaGreatVec4
import Derived.WideKeyEntry
/- LeafP -/
namespace Go.Proofs.YtaandcblndldmaaGreat
set_option linter.unusedVariables false
set_option linter.unusedSimpArgs false

theorem lessD_iff (a b : Dt) : lessD a b = true ↔ (a.1.1 < b.1.1 ∨ a.1.1 = b.1.1 ∧ (a.1.2 < b.1.2 ∨ a.1.2 = b.1.2 ∧ a.2 < b.2)) := by simp [lessD]
theorem lessD_irrefl (a : Dt) : lessD a a = false := by
  cases h : lessD a a with
  | false => rfl
  | true => rw [lessD_iff] at h; omega
theorem lessD_trans {a b c : Dt} (h : lessD a b = true) (k : lessD b c = true) : lessD a c = true := by rw [lessD_iff] at *; omega
theorem lessD_total {a b : Dt} (h : a ≠ b) : lessD a b = true ∨ lessD b a = true := by
  obtain ⟨⟨r, i⟩, s⟩ := a
  obtain ⟨⟨r', i'⟩, s'⟩ := b
  rw [lessD_iff, lessD_iff]
  simp only [ne_eq, Prod.mk.injEq, not_and] at *
  omega

/-- an item: its time, its dot, its text -/
structure It where
  t : Int
  d : Dt
  x : ByteArray
/-- a leaf -/
structure Lf where
  k : Int
  n : Int
  t : Int
  d : Dt
  x : ByteArray
  items : List It
  tombs : List Dt

/-- which of two times and dots is ahead -/
def aheadT (t : Int) (d : Dt) (u : Int) (o : Dt) : Bool := decide (t < u) || (decide (t = u) && lessD d o)
theorem aheadT_iff (t : Int) (d : Dt) (u : Int) (o : Dt) : aheadT t d u o = true ↔ (t < u ∨ t = u ∧ lessD d o = true) := by simp [aheadT]
theorem aheadT_trans {t u v : Int} {d o p : Dt} (h : aheadT t d u o = true) (k : aheadT u o v p = true) : aheadT t d v p = true := by
  rw [aheadT_iff] at *
  rcases h with h | ⟨rfl, h⟩
  · rcases k with k | ⟨rfl, k⟩
    · exact .inl (by omega)
    · exact .inl h
  · rcases k with k | ⟨rfl, k⟩
    · exact .inl k
    · exact .inr ⟨rfl, lessD_trans h k⟩
def ltI (a b : It) : Prop := aheadT a.t a.d b.t b.d = true
theorem ltI_trans {a b c : It} (h : ltI a b) (k : ltI b c) : ltI a c := aheadT_trans h k
def ltD (a b : Dt) : Prop := lessD a b = true
theorem ltD_irrefl (a : Dt) : ¬ ltD a a := by unfold ltD; rw [lessD_irrefl]; simp
theorem ltD_trans {a b c : Dt} (h : ltD a b) (k : ltD b c) : ltD a c := lessD_trans h k

/-- one behind the other: all of them -/
theorem chain_pairwise {α : Type} {lt : α → α → Prop} (ht : ∀ {a b c}, lt a b → lt b c → lt a c) {l : List α} (h : ∀ i x y, l[i]? = some x → l[i + 1]? = some y → lt x y) : l.Pairwise lt := by
  rw [List.pairwise_iff_getElem]
  intro i j hi hj hij
  obtain ⟨m, rfl⟩ : ∃ m, j = i + 1 + m := ⟨j - (i + 1), by omega⟩
  clear hij
  induction m with
  | zero => exact h i _ _ (List.getElem?_eq_getElem hi) (List.getElem?_eq_getElem hj)
  | succ m ih =>
    have h1 : i + 1 + m < l.length := by omega
    exact ht (ih h1) (h (i + 1 + m) _ _ (List.getElem?_eq_getElem h1) (List.getElem?_eq_getElem hj))
theorem pairwise_next {α : Type} {lt : α → α → Prop} {l : List α} (h : l.Pairwise lt) {i : Nat} {x y : α} (hx : l[i]? = some x) (hy : l[i + 1]? = some y) : lt x y := by
  obtain ⟨h1, rfl⟩ := List.getElem?_eq_some_iff.1 hx
  obtain ⟨h2, rfl⟩ := List.getElem?_eq_some_iff.1 hy
  exact List.pairwise_iff_getElem.1 h i (i + 1) h1 h2 (by omega)

/-- items that may be, of a set (no times) or of a log -/
def OkItem (timed : Bool) (x : It) : Prop := may x.d = true ∧ x.x.size ≤ 40 ∧ (timed = true → 1 ≤ x.t ∧ x.t ≤ 1099511627776) ∧ (timed = false → x.t = 0)
def dotsOf (l : List It) : List Dt := l.map (·.d)
def MayItems (timed : Bool) (l : List It) : Prop := (∀ x ∈ l, OkItem timed x) ∧ l.Pairwise ltI ∧ (dotsOf l).Nodup
def MayTombs (l : List Dt) (items : List It) : Prop := (∀ d ∈ l, may d = true) ∧ l.Pairwise ltD ∧ ∀ d ∈ l, d ∉ dotsOf items
def noDot : Dt := ((0, 0), 0)
/-- a register that may be -/
def MayReg (t : Int) (d : Dt) (x : ByteArray) : Prop := (t = 0 ∧ d = noDot ∧ x.size = 0) ∨ (t ≠ 0 ∧ t ≤ 1099511627776 ∧ may d = true ∧ x.size ≤ 40)
def NoReg (l : Lf) : Prop := l.t = 0 ∧ l.d = noDot ∧ l.x.size = 0
/-- a leaf that may be -/
def MayLf (l : Lf) : Prop :=
  (l.k = 1 ∧ NoReg l ∧ l.items = [] ∧ l.tombs = []) ∨
  (l.k = 2 ∧ l.n = 0 ∧ MayReg l.t l.d l.x ∧ l.items = [] ∧ l.tombs = []) ∨
  (l.k = 3 ∧ l.n = 0 ∧ NoReg l ∧ MayItems false l.items ∧ MayTombs l.tombs l.items) ∨
  (l.k = 4 ∧ l.n = 0 ∧ NoReg l ∧ MayItems true l.items ∧ l.tombs = [])
theorem MayLf.kind {l : Lf} (h : MayLf l) : l.k = 1 ∨ l.k = 2 ∨ l.k = 3 ∨ l.k = 4 := by
  rcases h with h | h | h | h
  · exact .inl h.1
  · exact .inr (.inl h.1)
  · exact .inr (.inr (.inl h.1))
  · exact .inr (.inr (.inr h.1))

/-! an item at its place, a tomb at its place, what is left -/
theorem mem_dotsOf {d : Dt} {l : List It} : d ∈ dotsOf l ↔ ∃ x ∈ l, x.d = d := by simp [dotsOf]
/-! the merge -/
def isU (x : Int) : Prop := 0 ≤ x ∧ x ≤ 18446744073709551615
end Go.Proofs.YtaandcblndldmaaGreat

/- Seen -/
namespace Go.Proofs.YtaandcblndldmaaGreat
open Go.RowKit
set_option linter.unusedVariables false
set_option linter.unusedSimpArgs false

section
variable {P : Program}
theorem keyLits_three {d : Nat} {k : TypeId} {f0 f1 : Field} (hu : P.underlying k = some (.struct #[f0, f1])) (n0 : (f0.name != "_") = true) (n1 : (f1.name != "_") = true) (o0 : f0.offset = 0) (o1 : f1.offset = 2)
    (c : P.cellsOf k = 3) (c0 : P.cellsOf f0.type = 2) (c1 : P.cellsOf f1.type = 1) (x y z : Value) :
    P.keyLits (d + 1) k [x, y, z] = (P.keyLits d f0.type [x, y]).bind fun a => (P.keyLits d f1.type [z]).map fun b => a ++ b := by
  conv => lhs; unfold Program.keyLits
  rw [hu]
  simp only [c, List.length_cons, List.length_nil, Nat.zero_add, Nat.reduceAdd, true_and]
  rw [if_pos (by simp [n0, n1])]
  simp only [List.mapM_cons, List.mapM_nil, o0, o1, c0, c1, List.drop_zero, List.drop_succ_cons, List.take_succ_cons, List.take_zero]
  cases P.keyLits d f0.type [x, y] <;> cases P.keyLits d f1.type [z] <;> simp
end

def mkD (d : Dt) : Value := .agg #[.int .u8 d.1.1, .int .u32 d.1.2, .int .u64 d.2]
theorem mkD_inj {a b : Dt} (h : mkD a = mkD b) : a = b := by
  obtain ⟨⟨r, i⟩, s⟩ := a
  obtain ⟨⟨r', i'⟩, s'⟩ := b
  simp [mkD] at h
  simp [h]
theorem keyedD : Maps.Keyed Tryz.prog 49 := Maps.Keyed.of_law (deep_law_gate laidOutP (of_decide_eq_true (by kernel_rfl)) (of_decide_eq_true (by kernel_rfl)) (by kernel_rfl) (by kernel_rfl))
theorem keyD_ok {d : Dt} (h : okD d) : ∃ l, keyOf Tryz.prog 49 (mkD d) = some l := by
  obtain ⟨⟨r, i⟩, s⟩ := d
  obtain ⟨n, hn⟩ : ∃ n, Tryz.prog.types.size = n + 2 := ⟨Tryz.prog.types.size - 2, by have : 2 ≤ Tryz.prog.types.size := of_decide_eq_true (by kernel_rfl); omega⟩
  have h2 := keyLits_two (d := n) Tryz.underlying24 (by decide) (by decide) rfl rfl (by kernel_rfl) (by kernel_rfl) (by kernel_rfl) Tryz.underlying5 Tryz.underlying22 (.int .u8 r) (.int .u32 i)
  have h3 : Tryz.prog.keyLits (n + 2) 26 [.int .u64 s] = litOf .u64 (.int .u64 s) := keyLits_one (d := n + 1) Tryz.underlying26 (.int .u64 s)
  have h4 := keyLits_three (d := n + 2) Tryz.underlying49 (by decide) (by decide) rfl rfl (by kernel_rfl) (by kernel_rfl) (by kernel_rfl) (.int .u8 r) (.int .u32 i) (.int .u64 s)
  have hk : Tryz.prog.keyType 49 = true := by kernel_rfl
  have hc : Tryz.prog.cellsOf 49 = 3 := by kernel_rfl
  have hf : (mkD ((r, i), s)).formed Tryz.prog 49 = true := by simp [mkD, Value.formed, Tryz.underlying49, hc]
  have hl : (mkD ((r, i), s)).cells.toList = [.int .u8 r, .int .u32 i, .int .u64 s] := by simp [mkD, Value.cells]
  have e1 := (wf8 r).2 h.1.1
  have e2 := (wf32 i).2 h.1.2
  have e3 := (wf64 s).2 h.2
  unfold keyOf
  rw [Tryz.underlying49]
  simp only [hk, hf, hl, hn, Bool.and_self, if_true]
  rw [h4, h2, h3]
  simp [litOf, e1, e2, e3]

section
open Go.MapKept
def insD (ks : List Dt) (d : Dt) : List Dt := if d ∈ ks then ks else ks ++ [d]
theorem mem_insD {ks : List Dt} {d x : Dt} : x ∈ insD ks d ↔ x ∈ ks ∨ x = d := by
  unfold insD
  by_cases h : d ∈ ks
  · rw [if_pos h]; exact ⟨.inl, fun h' => h'.elim id fun e => e ▸ h⟩
  · rw [if_neg h]; simp
/-- block b is a map whose keys are the dots ks, one behind the other, with the numbers g -/
def CntE (w : World) (b : Nat) (ks : List Dt) (g : Dt → Int) (es : Array MapEntry) (clock : Nat) : Prop :=
  w.heap[b]? = some (.map es clock) ∧ Stamped es clock ∧ es.toList.map (fun e => (e.key, e.val)) = ks.map (fun d => (mkD d, Value.int .i64 (g d))) ∧ (∀ d ∈ ks, okD d) ∧ ∀ d, d ∉ ks → g d = 0
def CntD (w : World) (b : Nat) (ks : List Dt) (g : Dt → Int) : Prop := ∃ es clock, CntE w b ks g es clock
def MidD (w : World) (b : Nat) (ks : List Dt) (g : Dt → Int) (d : Dt) (st : Nat) : Prop :=
  ∃ es clock j, CntE w b ks g es clock ∧ es.findIdx? (fun e => ((e.born : Nat) : Int) == ((st : Nat) : Int)) = some j ∧ ks[j]? = some d
theorem MidD.cnt {w : World} {b st : Nat} {ks : List Dt} {g : Dt → Int} {d : Dt} (h : MidD w b ks g d st) : CntD w b ks g := by
  obtain ⟨es, c, _, h, _⟩ := h; exact ⟨es, c, h⟩
theorem CntE.at {w : World} {b : Nat} {ks : List Dt} {g : Dt → Int} {es : Array MapEntry} {clock : Nat} (h : CntE w b ks g es clock) {j : Nat} {e : MapEntry} (hj : es.toList[j]? = some e) : ∃ d, ks[j]? = some d ∧ e.key = mkD d ∧ e.val = .int .i64 (g d) := by
  have h1 := congrArg (fun l => l[j]?) h.2.2.1
  simp only [List.getElem?_map, hj, Option.map_some] at h1
  cases hk : ks[j]? with
  | none => rw [hk] at h1; cases h1
  | some d => rw [hk] at h1; simp only [Option.map_some, Option.some.injEq, Prod.mk.injEq] at h1; exact ⟨d, rfl, h1.1, h1.2⟩
theorem CntE.keys {w : World} {b : Nat} {ks : List Dt} {g : Dt → Int} {es : Array MapEntry} {clock : Nat} (h : CntE w b ks g es clock) : ∀ e ∈ es.toList, ∃ l, keyOf Tryz.prog 49 e.key = some l := fun e he => by
  obtain ⟨j, hj, rfl⟩ := List.getElem_of_mem he
  obtain ⟨d, h1, h2, _⟩ := h.at (List.getElem?_eq_getElem hj)
  obtain ⟨l, hl⟩ := keyD_ok (h.2.2.2.1 d (List.mem_of_getElem? h1))
  exact ⟨l, by rw [h2, hl]⟩
theorem CntE.find {w : World} {b : Nat} {ks : List Dt} {g : Dt → Int} {es : Array MapEntry} {clock : Nat} (h : CntE w b ks g es clock) {d : Dt} (hd : okD d) :
    (d ∉ ks ∧ (Instr.findKey 49 (mkD d) es.toList).run Tryz.prog w = .ok none w ∧ ∀ e ∈ es.toList, e.key ≠ mkD d) ∨
    ∃ j e, (Instr.findKey 49 (mkD d) es.toList).run Tryz.prog w = .ok (some (j, e.val)) w ∧ es.toList[j]? = some e ∧ e.key = mkD d ∧ e.val = .int .i64 (g d) ∧ ks[j]? = some d := by
  obtain ⟨l, hl⟩ := keyD_ok hd
  rcases keyedD.find w hl es.toList h.keys with ⟨h1, h2⟩ | ⟨j, e, h1, h2, h3⟩
  · refine .inl ⟨fun hm => ?_, h1, h2⟩
    obtain ⟨j, hj, hjd⟩ := List.getElem_of_mem hm
    have hlen : es.toList.length = ks.length := by have := congrArg List.length h.2.2.1; simpa using this
    have hj' : j < es.toList.length := by omega
    obtain ⟨d', h4, h5, _⟩ := h.at (List.getElem?_eq_getElem hj')
    rw [List.getElem?_eq_getElem hj, hjd] at h4
    cases h4
    exact h2 _ (List.getElem_mem hj') h5
  · obtain ⟨d', h4, h5, h6⟩ := h.at h2
    have : d' = d := mkD_inj (h5.symm.trans h3)
    subst this
    exact .inr ⟨j, e, h1, h2, h3, h6, h4⟩
theorem CntD.look {w : World} {b : Nat} {ks : List Dt} {g : Dt → Int} (h : CntD w b ks g) {d : Dt} (hd : okD d) :
    (Instr.lookup 275 (.map (some b)) (mkD d) false).run Tryz.prog w = .ok (.int .i64 (g d)) w := by
  obtain ⟨es, clock, h⟩ := h
  obtain ⟨l, hl⟩ := keyD_ok hd
  rcases h.find hd with ⟨h0, h1, h2⟩ | ⟨j, e, h1, h2, h3, h4, h5⟩
  · simp [Instr.lookup, run_underlying Tryz.underlying275, MapKept.run_getObj_map h.1, keyedD.check w _ hl, h1, Tryz.zeroValue3, Result.andThen, h.2.2.2.2 d h0]
  · simp [Instr.lookup, run_underlying Tryz.underlying275, MapKept.run_getObj_map h.1, keyedD.check w _ hl, h1, Result.andThen, h4]
theorem nodup_stamped {es : Array MapEntry} {clock : Nat} (h : Stamped es clock) : (es.toList.map (·.born)).Nodup := ((stamped_iff es clock).1 h).2.1
theorem chg_setBlock {w : World} {b : Nat} {o o' : Obj} (hb : w.heap[b]? = some o) : Chg [b] w (Go.ChangeMaps.setBlock w b o') := by
  obtain ⟨h1, h2⟩ := MapKept.heap_set (o' := o') hb
  exact ⟨rfl, rfl, rfl, by simp [Go.ChangeMaps.setBlock], fun k _ hk => h2 k (by simpa using hk)⟩
theorem CntD.entry {w : World} {b : Nat} {ks : List Dt} {g : Dt → Int} (h : CntD w b ks g) {d : Dt} (hd : okD d) :
    ∃ (w' : World) (st : Nat), (Instr.mapEntry 275 (.map (some b)) (mkD d)).run Tryz.prog w = .ok (.tuple #[.int .i64 (g d), goInt st]) w' ∧ MidD w' b (insD ks d) g d st ∧ Chg [b] w w' := by
  obtain ⟨es, clock, h⟩ := h
  obtain ⟨l, hl⟩ := keyD_ok hd
  rcases h.find hd with ⟨h0, h1, h2⟩ | ⟨j, e0, h1, h2, h3, h4, h5⟩
  · have hst := stamped_push (val := .int .i64 0) h.2.1 h2
    refine ⟨Go.ChangeMaps.setBlock w b (.map (es.push ⟨mkD d, .int .i64 0, clock⟩) (clock + 1)), clock, ?_, ⟨es.push ⟨mkD d, .int .i64 0, clock⟩, clock + 1, es.size, ⟨(MapKept.heap_set h.1).1, hst, ?_, ?_, ?_⟩, ?_, ?_⟩, chg_setBlock h.1⟩
    · simp [Instr.mapEntry, run_underlying Tryz.underlying275, MapKept.run_getObj_map h.1, keyedD.check w false hl, h1, Tryz.zeroValue3, MapKept.run_setObj_map _ h.1, Result.andThen, Go.ChangeMaps.setBlock, h.2.2.2.2 d h0]
    · simp only [insD, if_neg h0, Array.toList_push, List.map_append, h.2.2.1, List.map_cons, List.map_nil, h.2.2.2.2 d h0]
    · intro x hx
      rcases mem_insD.1 hx with hx | rfl
      · exact h.2.2.2.1 x hx
      · exact hd
    · intro x hx
      exact h.2.2.2.2 x fun hm => hx (mem_insD.2 (.inl hm))
    · rw [Go.WideElems.findIdx_arr]
      exact Go.WideElems.findIdx_born (l := (es.push ⟨mkD d, .int .i64 0, clock⟩).toList) (j := es.size) (e0 := ⟨mkD d, .int .i64 0, clock⟩) (nodup_stamped hst) (by simp)
    · have hlen : es.toList.length = ks.length := by have := congrArg List.length h.2.2.1; simpa using this
      rw [insD, if_neg h0, List.getElem?_append_right (by simp at hlen; simp [hlen])]
      simp at hlen
      simp [hlen]
  · have hj : es[j]? = some e0 := by simpa using h2
    have hsame : es.modify j (fun e => { e with key := mkD d }) = es := by
      apply Array.ext'
      rw [Array.toList_modify, Go.ChangeMaps.modify_eq_set _ _ _ _ h2]
      have : ({ e0 with key := mkD d } : MapEntry) = e0 := by rw [← h3]
      rw [this]
      exact Go.WideElems.set_self _ _ _ h2
    have hin : d ∈ ks := List.mem_of_getElem? h5
    refine ⟨Go.ChangeMaps.setBlock w b (.map es clock), e0.born, ?_, ⟨es, clock, j, ⟨(MapKept.heap_set h.1).1, h.2.1, ?_, ?_, ?_⟩, ?_, ?_⟩, chg_setBlock h.1⟩
    · simp [Instr.mapEntry, run_underlying Tryz.underlying275, MapKept.run_getObj_map h.1, keyedD.check w false hl, h1, hj, h3, h4, keyedD.stays w hl, hsame, MapKept.run_setObj_map _ h.1, Result.andThen, Go.ChangeMaps.setBlock]
    · rw [insD, if_pos hin]; exact h.2.2.1
    · rw [insD, if_pos hin]; exact h.2.2.2.1
    · rw [insD, if_pos hin]; exact h.2.2.2.2
    · rw [Go.WideElems.findIdx_arr]
      exact Go.WideElems.findIdx_born (nodup_stamped h.2.1) h2
    · rw [insD, if_pos hin]; exact h5
theorem MidD.store {w : World} {b st : Nat} {ks : List Dt} {g : Dt → Int} {d : Dt} (h : MidD w b ks g d st) (n : Int) :
    ∃ w', (Instr.entryStore 275 (.map (some b)) (goInt st) (.int .i64 n)).run Tryz.prog w = .ok () w' ∧ CntD w' b ks (fun x => if x = d then n else g x) ∧ Chg [b] w w' := by
  obtain ⟨es, clock, j, h, hidx, hj⟩ := h
  obtain ⟨e0, he0⟩ : ∃ e0, es.toList[j]? = some e0 := by
    have hlen : es.toList.length = ks.length := by have := congrArg List.length h.2.2.1; simpa using this
    have := (List.getElem?_eq_some_iff.1 hj).1
    exact ⟨es.toList[j], List.getElem?_eq_getElem (by omega)⟩
  obtain ⟨d', h1, h2, h3⟩ := h.at he0
  rw [hj] at h1
  cases h1
  refine ⟨Go.ChangeMaps.setBlock w b (.map (es.modify j fun e => { e with val := .int .i64 n }) clock), ?_, ⟨_, clock, (MapKept.heap_set h.1).1, ?_, ?_, h.2.2.2.1, ?_⟩, chg_setBlock h.1⟩
  · simp [Instr.entryStore, MapKept.run_getObj_map h.1, asInt, asIntOf, goInt, hidx, MapKept.run_setObj_map _ h.1, Result.andThen, Go.ChangeMaps.setBlock]
  · exact stamped_modify h.2.1 j _ (fun _ _ => rfl) (fun _ _ _ => rfl)
  · rw [Array.toList_modify, Go.ChangeMaps.modify_eq_set _ _ _ _ he0]
    apply List.ext_getElem?
    intro i
    have hnd : ks.Nodup := by
      have h4 := ((stamped_iff es clock).1 h.2.1).2.2
      have h5 : (es.toList.map (·.key)) = ks.map mkD := by
        have := congrArg (List.map Prod.fst) h.2.2.1
        simpa [Function.comp_def] using this
      have h6 : (es.toList.map (·.key)).Pairwise (· ≠ ·) := by rw [List.pairwise_map]; exact h4
      rw [h5, List.pairwise_map] at h6
      exact h6.imp fun hne e => hne (congrArg mkD e)
    have h7 := congrArg (fun l => l[i]?) h.2.2.1
    simp only [List.getElem?_map] at h7 ⊢
    by_cases e : j = i
    · subst e
      rw [List.getElem?_set_self (List.getElem?_eq_some_iff.1 he0).1, hj]
      simp [h2]
    · rw [List.getElem?_set_ne e, h7]
      cases hk : ks[i]? with
      | none => rfl
      | some x =>
        have hx : x ≠ d := by
          intro ex
          subst ex
          obtain ⟨i1, e1⟩ := List.getElem?_eq_some_iff.1 hk
          obtain ⟨j1, e2⟩ := List.getElem?_eq_some_iff.1 hj
          rw [List.Nodup, List.pairwise_iff_getElem] at hnd
          rcases Nat.lt_or_gt_of_ne e with l | l
          · exact hnd j i j1 i1 l (e2.trans e1.symm)
          · exact hnd i j i1 j1 l (e1.trans e2.symm)
        simp [hx]
  · intro x hx
    have : x ≠ d := fun e => hx (e ▸ List.mem_of_getElem? hj)
    simp [this, h.2.2.2.2 x hx]
theorem CntD.len {w : World} {b : Nat} {ks : List Dt} {g : Dt → Int} (h : CntD w b ks g) (ty : TypeId) (hn : ks.length ≤ 1100000) :
    (Builtin.len_ #[275] ty #[.map (some b)]).run Tryz.prog w = .ok (.int .i64 (ks.length : Int)) w := by
  obtain ⟨es, clock, h⟩ := h
  have hlen : es.size = ks.length := by have := congrArg List.length h.2.2.1; simpa using this
  simp [Builtin.len_, run_underlying Tryz.underlying275, MapKept.run_getObj_map h.1, Result.andThen, goInt, hlen]
end

/-- dots, each once, as they come -/
def distinct (L : List Dt) : List Dt := L.foldl insD []
theorem distinct_snoc (L : List Dt) (d : Dt) : distinct (L ++ [d]) = insD (distinct L) d := by simp [distinct, List.foldl_append]
theorem mem_distinct (L : List Dt) (d : Dt) : d ∈ distinct L ↔ d ∈ L := by
  induction L using snoc_rec with
  | h0 => simp [distinct]
  | h1 l a ih => rw [distinct_snoc, mem_insD, ih]; simp
theorem distinct_le (L : List Dt) : (distinct L).length ≤ L.length := by
  induction L using snoc_rec with
  | h0 => simp [distinct]
  | h1 l a ih =>
    rw [distinct_snoc, insD]
    split <;> simp <;> omega
theorem distinct_nodup (L : List Dt) : (distinct L).length = L.length ↔ L.Nodup := by
  induction L using snoc_rec with
  | h0 => simp [distinct]
  | h1 l a ih =>
    rw [distinct_snoc, insD]
    have h1 := distinct_le l
    by_cases e : a ∈ distinct l
    · rw [if_pos e]
      have e' := (mem_distinct l a).1 e
      simp only [List.length_append, List.length_cons, List.length_nil]
      refine ⟨fun h => by omega, fun h => ?_⟩
      rw [List.nodup_append] at h
      exact absurd rfl (h.2.2 a e' a (by simp))
    · rw [if_neg e]
      have e' : a ∉ l := fun h => e ((mem_distinct l a).2 h)
      simp only [List.length_append, List.length_cons, List.length_nil]
      rw [List.nodup_append]
      refine ⟨fun h => ⟨ih.1 (by omega), by simp, fun x hx y hy => ?_⟩, fun h => by have := ih.2 h.1; omega⟩
      simp at hy
      subst hy
      exact fun e2 => e' (e2 ▸ hx)
def cntI (L : List Dt) (d : Dt) : Int := ((L.countP fun x => decide (x = d) : Nat) : Int)
theorem cntI_bd (L : List Dt) (d : Dt) : 0 ≤ cntI L d ∧ cntI L d ≤ L.length := by
  unfold cntI
  have := List.countP_le_length (p := fun x => decide (x = d)) (l := L)
  omega
theorem cntI_snoc (L : List Dt) (d x : Dt) : cntI (L ++ [d]) x = if x = d then cntI L x + 1 else cntI L x := by
  unfold cntI
  rw [List.countP_append]
  by_cases e : x = d
  · subst e; simp
  · rw [if_neg e]; simp [show ¬ d = x from fun h => e h.symm]
/-- block b counts the dots of L -/
def SeenAt (w : World) (b : Nat) (L : List Dt) : Prop := CntD w b (distinct L) (cntI L)
theorem SeenAt.made (w : World) : SeenAt (w.alloc (.map #[] 0)) w.heap.size [] :=
  ⟨#[], 0, heap_new w _, MapKept.stamped_empty 0, rfl, by simp [distinct], fun d _ => by simp [cntI]⟩
theorem CntD.chg {w w' : World} {b : Nat} {ks : List Dt} {g : Dt → Int} {F : List Nat} (h : CntD w b ks g) (hc : Chg F w w') (hb : b ∉ F) : CntD w' b ks g := by
  obtain ⟨es, clock, h1, h2⟩ := h
  exact ⟨es, clock, heap_chg h1 hc hb, h2⟩
theorem CntD.lt {w : World} {b : Nat} {ks : List Dt} {g : Dt → Int} (h : CntD w b ks g) : b < w.heap.size := by
  obtain ⟨es, clock, h1, h2⟩ := h
  exact heap_lt h1
theorem SeenAt.below {w w' : World} {b : Nat} {L : List Dt} (h : SeenAt w b L) (hb : Below w.heap.size w w') : SeenAt w' b L := CntD.chg h (F := []) (Chg.of_below hb) (by simp)
theorem SeenAt.lt {w : World} {b : Nat} {L : List Dt} (h : SeenAt w b L) : b < w.heap.size := CntD.lt h
theorem SeenAt.len {w : World} {b : Nat} {L : List Dt} (h : SeenAt w b L) (ty : TypeId) (hn : L.length ≤ 1100000) :
    (Builtin.len_ #[275] ty #[.map (some b)]).run Tryz.prog w = .ok (.int .i64 ((distinct L).length : Int)) w := CntD.len h ty (Nat.le_trans (distinct_le L) hn)

/-- 'seen[d]++': all its runs, laid ahead of a walk -/
theorem SeenAt.plus {w : World} {b : Nat} {L : List Dt} (h : SeenAt w b L) {r i s : Int} (hd : okD ((r, i), s)) : ∃ (w2 w3 : World) (st : Nat),
    (Instr.lookup 275 (.map (some b)) (.agg #[.int .u8 r, .int .u32 i, .int .u64 s]) false).run Tryz.prog w = .ok (.int .i64 (cntI L ((r, i), s))) w ∧
    (Instr.mapEntry 275 (.map (some b)) (.agg #[.int .u8 r, .int .u32 i, .int .u64 s])).run Tryz.prog w = .ok (.tuple #[.int .i64 (cntI L ((r, i), s)), .int .i64 (st : Int)]) w2 ∧
    (Instr.lookup 275 (.map (some b)) (.agg #[.int .u8 r, .int .u32 i, .int .u64 s]) false).run Tryz.prog w2 = .ok (.int .i64 (cntI L ((r, i), s))) w2 ∧
    (Instr.entryStore 275 (.map (some b)) (.int .i64 (st : Int)) (.int .i64 (cntI L ((r, i), s) + 1))).run Tryz.prog w2 = .ok () w3 ∧
    SeenAt w3 b (L ++ [((r, i), s)]) ∧ Chg [b] w w3 := by
  obtain ⟨w2, st, h1, h2, h3⟩ := CntD.entry h hd
  obtain ⟨w3, h4, h5, h6⟩ := MidD.store h2 (cntI L ((r, i), s) + 1)
  have h0 := CntD.look h hd
  have h7 := CntD.look (MidD.cnt h2) hd
  simp only [mkD, goInt] at h0 h1 h4 h7
  refine ⟨w2, w3, st, h0, h1, h7, h4, ?_, h3.trans h6 (by simp)⟩
  have e : (fun x => if x = ((r, i), s) then cntI L ((r, i), s) + 1 else cntI L x) = cntI (L ++ [((r, i), s)]) := by
    funext x
    rw [cntI_snoc]
    by_cases e : x = ((r, i), s)
    · subst e; simp
    · simp [e]
  rw [e] at h5
  unfold SeenAt
  rw [distinct_snoc]
  exact h5
end Go.Proofs.YtaandcblndldmaaGreat
