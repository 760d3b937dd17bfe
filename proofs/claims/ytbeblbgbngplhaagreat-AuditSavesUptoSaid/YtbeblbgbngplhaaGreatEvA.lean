/- varveref04: IsName, MayPath, Type, May, MayEvent: contracts, as far as they are asked. | Events in memory; varveref04.MayEvent; varveref05.New. | varveref04: IsName, MayPath, exact. -/
import Derived.Test.YtbeblbgbngplhaaGreatLfOpen
import Derived.Test.YtbeblbgbngplhaaGreatThreeP
/- EvA -/
/- EvA -/
namespace Go.Proofs.YtbeblbgbngplhaaGreat
open Go.RowKit
set_option linter.unusedVariables false
set_option linter.unusedSimpArgs false

/-- names in memory -/
def scells (l : List ByteArray) : List Value := l.map Value.string
def Strs (w : World) (a : Option Addr) (c : Nat) (l : List ByteArray) : Prop := Sl w 1 a l.length c (scells l)
theorem Strs.below {w w' : World} {a : Option Addr} {c : Nat} {l : List ByteArray} (h : Strs w a c l) (hb : Below w.heap.size w w') : Strs w' a c l := Sl.below h hb
theorem Strs.at {w : World} {a : Option Addr} {c : Nat} {l : List ByteArray} (h : Strs w a c l) {k : Nat} {x : ByteArray} (hx : l[k]? = some x) :
    ∃ ad, a = some ad ∧ w.cell? (ad.add k) = some (.string x) ∧ ad.block < w.heap.size := by
  have hk : k < l.length := (List.getElem?_eq_some_iff.1 hx).1
  obtain ⟨_, _, _, ⟨_, h0, _⟩ | ⟨ad, rfl, hc⟩⟩ := h
  · omega
  · have g0 := hc k (.string x) (by simp [scells, hx])
    refine ⟨ad, rfl, g0, ?_⟩
    have := World.block_lt_of_cell? w _ g0
    have hb : (ad.add k).block = ad.block := by unfold Addr.add; split <;> rfl
    rwa [hb] at this
/-- an operation's cells -/
def ocells (k n : Int) (x : ByteArray) (pa : Option Addr) (pn pc : Nat) (da : Option Addr) (dn dc : Nat) : Array Value := #[.int .u8 k, .slice pa pn pc, .int .i64 n, .string x, .slice da dn dc]
structure OpE (w wr : World) (C : Array Value) : Prop where
  blk : wr.heap[w.heap.size]? = some (.cells C 55 (0, 0))
  bel : Below w.heap.size w wr
theorem OpE.of {w wr : World} {C : Array Value} (hb : Below (w.alloc (.cells C 55)).heap.size (w.alloc (.cells C 55)) wr) : OpE w wr C := ⟨(new1 hb).1, (new1 hb).2.2⟩
theorem OpE.step {w wr w' : World} {C : Array Value} (h : OpE w wr C) (hb : Below wr.heap.size wr w') : OpE w w' C := ⟨(hb.block _ (heap_lt h.blk)).trans h.blk, below2 h.bel hb h.bel.size⟩
end Go.Proofs.YtbeblbgbngplhaaGreat

/- EvB -/
namespace Go.Proofs.YtbeblbgbngplhaaGreat
open Go.RowKit Go.ChangeShapes Go.WideShapes
set_option linter.unusedVariables false
set_option linter.unusedSimpArgs false

theorem strs_flat (l : List ByteArray) : List.map Value.string l = l.flatMap (fun x => [Value.string x]) := by
  induction l with
  | nil => rfl
  | cons a l ih => simp only [List.map_cons, List.flatMap_cons, ih]; rfl
section
variable {H : Type} {enc : TypeId × Value → H} {w : World} {base : Nat} {spare : Nat → Bool} {held : Bool}
end
end Go.Proofs.YtbeblbgbngplhaaGreat

/- MayA -/
namespace Go.Proofs.YtbeblbgbngplhaaGreat
open Go.RowKit
set_option linter.unusedVariables false
set_option linter.unusedSimpArgs false

/-- a letter or a digit -/
def alN (c : Nat) : Prop := (97 ≤ c ∧ c ≤ 122) ∨ (65 ≤ c ∧ c ≤ 90) ∨ (48 ≤ c ∧ c ≤ 57)
def NameP (s : ByteArray) : Prop := 1 ≤ s.size ∧ s.size ≤ 12 ∧ ∀ (j : Nat) (h : j < s.size), alN (s[j].toNat)
def IsTo (w : World) (P : Prop) (e : Ending) (w' : World) : Prop := ∃ q : Bool, e = .returned (.bool q) ∧ (q = true ↔ P) ∧ Below w.heap.size w w'
theorem no_name {w w' : World} {P : Prop} (h : ¬ P) (hb : Below w.heap.size w w') : IsTo w P (.returned (.bool false)) w' := ⟨false, rfl, ⟨fun e => (by cases e), fun e => absurd e h⟩, hb⟩
theorem yes_name {w w' : World} {P : Prop} (h : P) (hb : Below w.heap.size w w') : IsTo w P (.returned (.bool true)) w' := ⟨true, rfl, ⟨fun _ => h, fun _ => rfl⟩, hb⟩
def PathP (l : List ByteArray) : Prop := 1 ≤ l.length ∧ l.length ≤ 3 ∧ ∀ s ∈ l, NameP s
end Go.Proofs.YtbeblbgbngplhaaGreat
