/- BagKeeps: what holds at the head of a round. -/
import Derived.Test.YtkgbdgnfidpelaaKeepA
import Derived.Test.YtkgbdgnfidpelaaPlayC
namespace Go.Proofs.Ytkgbdgnfidpelaa
open Go.RowKit
open Go.Maps (IsMap)
set_option linter.unusedVariables false
set_option linter.unusedSimpArgs false

/-- the bag holds L, the map counts M, in new blocks of their own -/
structure Kp (w0 w : World) (pb mb n : Nat) (L M : List Lt) (F : List Nat) : Prop where
  bag : BagR w pb L F
  map : MapC w mb n M
  mF : mb ∉ F
  bF : ∀ x ∈ F, w0.heap.size ≤ x
  bm : w0.heap.size ≤ mb
  oto : OkTo L
  sml : ∀ l ∈ L, l.b.length ≤ 100
  bel : Below w0.heap.size w0 w

theorem Kp.chg {w0 w w' : World} {pb mb n : Nat} {L M : List Lt} {F E : List Nat} (h : Kp w0 w pb mb n L M F) (hc : Chg E w w') (hE : ∀ x ∈ E, w0.heap.size ≤ x ∧ x ∉ F ∧ x ≠ mb) : Kp w0 w' pb mb n L M F :=
  ⟨h.bag.chg hc fun k hk he => (hE k he).2.1 hk, h.map.chg hc fun he => (hE mb he).2.2 rfl, h.mF, h.bF, h.bm, h.oto, h.sml, h.bel.trans (hc.below h.bel.size fun x hx => (hE x hx).1)⟩
theorem Kp.below {w0 w w' : World} {pb mb n : Nat} {L M : List Lt} {F : List Nat} (h : Kp w0 w pb mb n L M F) (hb : Below w.heap.size w w') : Kp w0 w' pb mb n L M F :=
  h.chg (E := []) (Chg.of_below hb) (by simp)
/-- a call of the bag's -/
theorem Kp.to_ {w0 w w' : World} {pb mb n : Nat} {L M L' : List Lt} {F : List Nat} (h : Kp w0 w pb mb n L M F) (hT : BagTo w pb F L' w') (ht : OkTo L') (hs : ∀ l ∈ L', l.b.length ≤ 100) : ∃ F', Kp w0 w' pb mb n L' M F' ∧ (∀ k ∈ F', k ∈ F ∨ w.heap.size ≤ k) := by
  obtain ⟨F', h1, h2, h3⟩ := hT
  have hm := h.map.lt
  have s0 := h.bel.size
  refine ⟨F', ⟨h1, h.map.chg h3 h.mF, fun hf => ?_, fun x hx => ?_, h.bm, ht, hs, h.bel.trans (h3.below s0 h.bF)⟩, h2⟩
  · rcases h2 mb hf with h' | h'
    · exact h.mF h'
    · omega
  · rcases h2 x hx with h' | h'
    · exact h.bF x h'
    · omega
/-- a store into the map -/
theorem Kp.put {w0 w w' : World} {pb mb n n' : Nat} {L M M' : List Lt} {F : List Nat} (h : Kp w0 w pb mb n L M F) (hg : w.grownBy w' (some mb)) (hm : MapC w' mb n' M') : Kp w0 w' pb mb n' L M' F := by
  have hc := Chg.grown hg
  exact ⟨h.bag.chg hc (fun k hk he => by simp at he; subst he; exact h.mF hk), hm, h.mF, h.bF, h.bm, h.oto, h.sml, h.bel.trans (hc.below h.bel.size fun x hx => by simp at hx; subst hx; exact h.bm)⟩

/-- letters handed in -/
structure LtV where
  t : UInt8
  bs : List UInt8
  ba : Option Addr
  bc : Nat
structure LtOk (w : World) (a : Addr) (k : Nat) (o : LtV) : Prop where
  c0 : w.cell? (a.add (k * 2)) = some (.int .u8 (o.t.toNat : Int))
  c1 : w.cell? ((a.add (k * 2)).add 1) = some (.slice o.ba o.bs.length o.bc)
  sl : Sl w 1 o.ba o.bs.length o.bc (u8s o.bs)
theorem LtOk.below {w w' : World} {a : Addr} {k : Nat} {o : LtV} (h : LtOk w a k o) (hb : Below w.heap.size w w') : LtOk w' a k o := by
  have ha := Agree.of_below hb
  exact ⟨ha.cell h.c0, ha.cell h.c1, h.sl.below hb⟩
structure LtsOk (w : World) (la : Option Addr) (O : List LtV) : Prop where
  at_ : ∀ (k : Nat) (o : LtV), O[k]? = some o → ∃ a, la = some a ∧ LtOk w a k o

theorem key_str {P : Program} {k : TypeId} (hk : P.underlying k = some .string) (s : ByteArray) (h : s.size ≤ maxLen) : keyOf P k (.string s) = some (.string s.data.toList) := by
  simp [keyOf, hk, mapKey, h]
theorem OkTo.snoc {L : List Lt} (h : OkTo L) (b : UInt8) (bs : List UInt8) (ch : Bool) : OkTo (L ++ [⟨(b.toNat : Int), bs, ch⟩]) := by
  intro l hl
  rw [List.mem_append, List.mem_singleton] at hl
  rcases hl with hl | rfl
  · exact h l hl
  · exact ⟨b, rfl⟩
theorem OkTo.snoc' {L : List Lt} (h : OkTo L) {l : Lt} (hl : l ∈ L) (ch : Bool) : OkTo (L ++ [⟨l.t, l.b, ch⟩]) := by
  obtain ⟨b, hb⟩ := h l hl
  rw [hb]; exact h.snoc b l.b ch
theorem OkTo.change {L : List Lt} (h : OkTo L) (i at_ : Int) (x : UInt8) : OkTo (doChange L i at_ x) := by
  intro l hl
  obtain ⟨n, hn⟩ := List.getElem?_of_mem hl
  rw [doChange, List.getElem?_modify] at hn
  cases hL : L[n]? with
  | none => rw [hL] at hn; simp at hn
  | some l0 =>
    have h0 := h l0 (List.mem_of_getElem? hL)
    rw [hL] at hn
    simp only [Option.map_eq_map, Option.map_some, Option.some.injEq] at hn
    rw [← hn]
    split
    · exact h0
    · exact h0
theorem modify_last {α : Type} (f : α → α) (l : α) : ∀ L : List α, (L ++ [l]).modify L.length f = L ++ [f l]
  | [] => rfl
  | x :: L => by
    have ih := modify_last f l L
    simp only [List.cons_append, List.length_cons, List.modify_succ_cons, ih]
theorem doChange_last (L : List Lt) (l : Lt) (at_ : Nat) (x : UInt8) : doChange (L ++ [l]) (L.length : Int) (at_ : Int) x = L ++ [⟨l.t, l.b.modify at_ (· ^^^ x), true⟩] := by
  simp only [doChange, Int.toNat_natCast]
  exact modify_last (fun l : Lt => (⟨l.t, l.b.modify at_ (· ^^^ x), true⟩ : Lt)) l L
theorem mayChange_last (L : List Lt) (t : Int) (bs : List UInt8) (ch : Bool) (at_ : Nat) (x : UInt8) (h : at_ < bs.length) : mayChange (L ++ [⟨t, bs, ch⟩]) (L.length : Int) (at_ : Int) x = (x != 0 && !ch) := by
  have h1 : (at_ : Int) < (bs.length : Int) := by omega
  have h2 : (L.length : Int) < (L.length : Int) + 1 := by omega
  simp [mayChange, h1, h2]
theorem Kp.more {w0 w : World} {pb mb n n' : Nat} {L M : List Lt} {F : List Nat} (h : Kp w0 w pb mb n L M F) (hn : n ≤ n') : Kp w0 w pb mb n' L M F := by
  obtain ⟨D, h1, h2⟩ := h.map
  exact ⟨h.bag, ⟨D, h1.mono hn, h2⟩, h.mF, h.bF, h.bm, h.oto, h.sml, h.bel⟩

/-- the blocks between B and S are as they were -/
def Mid2 (B S : Nat) (w w' : World) : Prop := S ≤ w'.heap.size ∧ ∀ q, B ≤ q → q < S → w'.heap[q]? = w.heap[q]?
theorem Mid2.chg {B S : Nat} {w w1 w2 : World} {F : List Nat} (h : Mid2 B S w w1) (hc : Chg F w1 w2) (hF : ∀ x ∈ F, x < B ∨ S ≤ x) : Mid2 B S w w2 := by
  refine ⟨Nat.le_trans h.1 hc.size, fun q h1 h2 => ?_⟩
  rw [hc.block q (by have := h.1; omega) (fun hq => by rcases hF q hq with h | h <;> omega)]
  exact h.2 q h1 h2
theorem owns_mid {B S : Nat} {w w' : World} {e : TypeId} {size : Nat} {a : Option Addr} {n c m : Nat} {xs : List Value} (h : w.ownsRow B e size (.slice a n c) m xs) (hm : Mid2 B S w w') (hS : w.heap.size ≤ S) : w'.ownsRow B e size (.slice a n c) m xs := by
  refine ⟨h.1, ?_⟩
  rcases h.2 with h2 | ⟨g, cap, cur, hv, hb, hg, r⟩
  · exact .inl h2
  · refine .inr ⟨g, cap, cur, hv, hb, ?_, r⟩
    rw [hm.2 g hb (by have := (Array.getElem?_eq_some_iff.1 hg).1; omega)]
    exact hg
theorem AllAt.mid {B S : Nat} {w w' : World} {N : List Ml} {oa : Option Addr} {oc : Nat} (h : AllAt w B N oa oc) (hm : Mid2 B S w w') (hS : w.heap.size ≤ S) : AllAt w' B N oa oc :=
  ⟨owns_mid h.row hm hS, fun x hx => owns_mid (h.bytes x hx) hm hS⟩
/-- at the head of a round of the second loop -/
def Rel2 (w0 : World) (pb mb n0 B S : Nat) (w2 : World) (L : List Lt) (j m : Nat) (wv : World) : Prop :=
  ∃ L2 F2, L2.length = m ∧ m ≤ L.length + j ∧ (∀ (i : Nat) (l : Lt), L[i]? = some l → L2[i]? = some l) ∧ Kp w0 wv pb mb (n0 + j) L2 L2 F2 ∧ Mid2 B S w2 wv ∧ ∀ x ∈ F2, x < B ∨ S ≤ x
end Go.Proofs.Ytkgbdgnfidpelaa
