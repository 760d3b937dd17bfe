/- The reference's merge in plain words: tombs buried one by one, items laid one by one. No program in sight. | The law FuseThree in plain words: what is behind events, one by one; the merge of two such leaves over a third. No program in sight. | Events behind a leaf: which leaves stay such that may be; numbers in range; lengths. No program in sight. | varveref04: IsName, MayPath, Type, May, MayEvent: contracts, as far as they are asked. | Events in memory; varveref04.MayEvent; varveref05.New. | varveref04: IsName, MayPath, exact. -/
import Derived.Test.YtaandcblndldmaaGreatSeen
import Derived.Test.YtaandcblndldmaaGreatLeafA
import Derived.Test.YtaandcblndldmaaGreatLfOpen
/- ThreeP -/
/- RefMA -/
namespace Go.Proofs.YtaandcblndldmaaGreat
set_option linter.unusedVariables false
set_option linter.unusedSimpArgs false

end Go.Proofs.YtaandcblndldmaaGreat

/- ThreeP -/
/- ThreeP -/
namespace Go.Proofs.YtaandcblndldmaaGreat
set_option linter.unusedVariables false
set_option linter.unusedSimpArgs false

/-- an event: its dot and time, its operation's kind, number, text and dots -/
structure Ev where
  d : Dt
  t : Int
  k : Int
  n : Int
  x : ByteArray
  ds : List Dt
def typeOf (k : Int) : Int := if k = 1 then 1 else if k = 2 then 2 else if k = 3 then 3 else if k = 4 then 3 else if k = 5 then 4 else 0
/-! counters -/
/-! registers -/
/-! sets -/
/-! logs -/
end Go.Proofs.YtaandcblndldmaaGreat

/- ThreeQ -/
namespace Go.Proofs.YtaandcblndldmaaGreat
set_option linter.unusedVariables false
set_option linter.unusedSimpArgs false

/-- an event's numbers in range -/
def okE (e : Ev) : Prop := okD e.d ∧ isU e.t ∧ okV e.ds
end Go.Proofs.YtaandcblndldmaaGreat

/- EvA -/
/- EvA -/
/- EvA -/
namespace Go.Proofs.YtaandcblndldmaaGreat
open Go.RowKit
set_option linter.unusedVariables false
set_option linter.unusedSimpArgs false

/-- names in memory -/
def scells (l : List ByteArray) : List Value := l.map Value.string
def Strs (w : World) (a : Option Addr) (c : Nat) (l : List ByteArray) : Prop := Sl w 1 a l.length c (scells l)
theorem Strs.below {w w' : World} {a : Option Addr} {c : Nat} {l : List ByteArray} (h : Strs w a c l) (hb : Below w.heap.size w w') : Strs w' a c l := Sl.below h hb
theorem Strs.at {w : World} {a : Option Addr} {c : Nat} {l : List ByteArray} (h : Strs w a c l) {k : Nat} {x : ByteArray} (hx : l[k]? = some x) :
    ∃ ad, a = some ad ∧ w.cell? (ad.add k) = some (.string x) ∧ ad.block < w.heap.size := by
  have hk : k < l.length := (List.getElem?_eq_some_iff.1 hx).1
  obtain ⟨_, _, _, ⟨_, h0, _⟩ | ⟨ad, rfl, hc⟩⟩ := h
  · omega
  · have g0 := hc k (.string x) (by simp [scells, hx])
    refine ⟨ad, rfl, g0, ?_⟩
    have := World.block_lt_of_cell? w _ g0
    have hb : (ad.add k).block = ad.block := by unfold Addr.add; split <;> rfl
    rwa [hb] at this
theorem type_any (k : Int) (w : World) : Calls Tryz.prog 201 #[.int .u8 k] w fun e w' => e = .returned (.int .u8 (typeOf k)) ∧ Below w.heap.size w w' := by
  by_cases h1 : k = 1
  · subst h1
    go_enter Tryz.func201, Tryz.ntmps201
    go_wp2_with fail
    go_ret
    exact ⟨rfl, Below.refl _ _⟩
  by_cases h2 : k = 2
  · subst h2
    go_enter Tryz.func201, Tryz.ntmps201
    go_wp2_with fail
    go_ret
    exact ⟨rfl, Below.refl _ _⟩
  by_cases h3 : k = 3
  · subst h3
    go_enter Tryz.func201, Tryz.ntmps201
    go_wp2_with fail
    go_ret
    exact ⟨rfl, Below.refl _ _⟩
  by_cases h4 : k = 4
  · subst h4
    go_enter Tryz.func201, Tryz.ntmps201
    go_wp2_with fail
    go_ret
    exact ⟨rfl, Below.refl _ _⟩
  by_cases h5 : k = 5
  · subst h5
    go_enter Tryz.func201, Tryz.ntmps201
    go_wp2_with fail
    go_ret
    exact ⟨rfl, Below.refl _ _⟩
  have e1 : (k == 1) = false := by simpa using h1
  have e2 : (k == 2) = false := by simpa using h2
  have e3 : (k == 3) = false := by simpa using h3
  have e4 : (k == 4) = false := by simpa using h4
  have e5 : (k == 5) = false := by simpa using h5
  have He := Lib.hid (show typeOf k = 0 by simp [typeOf, h1, h2, h3, h4, h5])
  clear h1 h2 h3 h4 h5
  go_enter Tryz.func201, Tryz.ntmps201
  go_wp2_with fail
  go_ret
  exact ⟨by rw [He.out]; rfl, Below.refl _ _⟩
/-- an operation's cells -/
def ocells (k n : Int) (x : ByteArray) (pa : Option Addr) (pn pc : Nat) (da : Option Addr) (dn dc : Nat) : Array Value := #[.int .u8 k, .slice pa pn pc, .int .i64 n, .string x, .slice da dn dc]
structure OpE (w wr : World) (C : Array Value) : Prop where
  blk : wr.heap[w.heap.size]? = some (.cells C 52 (0, 0))
  bel : Below w.heap.size w wr
theorem OpE.of {w wr : World} {C : Array Value} (hb : Below (w.alloc (.cells C 52)).heap.size (w.alloc (.cells C 52)) wr) : OpE w wr C := ⟨(new1 hb).1, (new1 hb).2.2⟩
theorem OpE.step {w wr w' : World} {C : Array Value} (h : OpE w wr C) (hb : Below wr.heap.size wr w') : OpE w w' C := ⟨(hb.block _ (heap_lt h.blk)).trans h.blk, below2 h.bel hb h.bel.size⟩
end Go.Proofs.YtaandcblndldmaaGreat

/- EvB -/
namespace Go.Proofs.YtaandcblndldmaaGreat
open Go.RowKit Go.ChangeShapes Go.WideShapes
set_option linter.unusedVariables false
set_option linter.unusedSimpArgs false

/-- an event, and where its path and its dots lie -/
structure Ew where
  e : Ev
  pa : Option Addr
  pl : List ByteArray
  pc : Nat
  da : Option Addr
  dc : Nat
def ecells (v : Ew) : Array Value := #[.int .u8 v.e.d.1.1, .int .u32 v.e.d.1.2, .int .u64 v.e.d.2, .int .u64 v.e.t, .int .u8 v.e.k, .slice v.pa v.pl.length v.pc, .int .i64 v.e.n, .string v.e.x, .slice v.da v.e.ds.length v.dc]
structure EwAt (w : World) (v : Ew) : Prop where
  pt : Strs w v.pa v.pc v.pl
  ds : Vec w v.da v.dc v.e.ds
  ok : okE v.e
theorem EwAt.below {w w' : World} {v : Ew} (h : EwAt w v) (hb : Below w.heap.size w w') : EwAt w' v := ⟨h.pt.below hb, h.ds.below hb, h.ok⟩
def EvBlk (w : World) (p : Nat) (v : Ew) : Prop := w.heap[p]? = some (.cells (ecells v) 146 (0, 0))
theorem strs_flat (l : List ByteArray) : List.map Value.string l = l.flatMap (fun x => [Value.string x]) := by
  induction l with
  | nil => rfl
  | cons a l ih => simp only [List.map_cons, List.flatMap_cons, ih]; rfl
section
variable {H : Type} {enc : TypeId × Value → H} {w : World} {base : Nat} {spare : Nat → Bool} {held : Bool}
end
end Go.Proofs.YtaandcblndldmaaGreat

/- MayA -/
namespace Go.Proofs.YtaandcblndldmaaGreat
open Go.RowKit
set_option linter.unusedVariables false
set_option linter.unusedSimpArgs false

/-- a letter or a digit -/
def alN (c : Nat) : Prop := (97 ≤ c ∧ c ≤ 122) ∨ (65 ≤ c ∧ c ≤ 90) ∨ (48 ≤ c ∧ c ≤ 57)
def NameP (s : ByteArray) : Prop := 1 ≤ s.size ∧ s.size ≤ 12 ∧ ∀ (j : Nat) (h : j < s.size), alN (s[j].toNat)
def IsTo (w : World) (P : Prop) (e : Ending) (w' : World) : Prop := ∃ q : Bool, e = .returned (.bool q) ∧ (q = true ↔ P) ∧ Below w.heap.size w w'
def JNm (s : ByteArray) (w : World) (j : Value) (wr : World) : Prop := ∃ q : Nat, q ≤ s.size ∧ j = .int .i64 q ∧ wr = w ∧ ∀ (j : Nat) (h : j < s.size), j < q → alN (s[j].toNat)
theorem no_name {w w' : World} {P : Prop} (h : ¬ P) (hb : Below w.heap.size w w') : IsTo w P (.returned (.bool false)) w' := ⟨false, rfl, ⟨fun e => (by cases e), fun e => absurd e h⟩, hb⟩
theorem yes_name {w w' : World} {P : Prop} (h : P) (hb : Below w.heap.size w w') : IsTo w P (.returned (.bool true)) w' := ⟨true, rfl, ⟨fun _ => h, fun _ => rfl⟩, hb⟩
theorem JNm.next {s : ByteArray} {w : World} {q : Nat} (hlt : q < s.size) (h : ∀ (j : Nat) (h : j < s.size), j < q → alN (s[j].toNat)) (hq : alN (s[q].toNat)) : JNm s w (.int .i64 ((q : Int) + 1)) w :=
  ⟨q + 1, hlt, by simp, rfl, fun j hj hj2 => by
    by_cases e : j = q
    · subst e; exact hq
    · exact h j hj (by omega)⟩
set_option maxHeartbeats 4000000 in
theorem isNameX_any (s : ByteArray) (w : World) : Calls Tryz.prog 194 #[.string s] w (IsTo w (NameP s)) := by
  go_enter Tryz.func194, Tryz.ntmps194
  by_cases h1 : s.size < 1
  · go_wp2_with fail
    all_goals (go_ret; exact no_name (fun h => by have := h.1; omega) (Below.refl _ _))
  · by_cases h2 : 12 < s.size
    · go_wp2_with fail
      all_goals (go_ret; exact no_name (fun h => by have := h.2.1; omega) (Below.refl _ _))
    · go_wp2_with fail
      go_loopw [3] (fun j wr => JNm s w j wr) (fun j _ => s.size - (intOf j).toNat)
      case atStart => exact ⟨0, Nat.zero_le _, rfl, rfl, fun j hj h => by omega⟩
      case round =>
        obtain ⟨q, hq, rfl, rfl, hall⟩ := hrel
        have Hall := Lib.hid hall
        clear hall
        by_cases hlt : q < s.size
        · by_cases hal : alN (s[q].toNat)
          · have Hal := Lib.hid hal
            have hc : (97 ≤ s[q].toNat ∧ s[q].toNat ≤ 122) ∨ (65 ≤ s[q].toNat ∧ s[q].toNat ≤ 90) ∨ (48 ≤ s[q].toNat ∧ s[q].toNat ≤ 57) := hal
            clear hal
            go_wp2_with fail
            all_goals first
              | exact ⟨JNm.next hlt Hall.out Hal.out, by simp [intOf]; omega⟩
              | (exfalso; simp only [Bool.not_eq_eq_eq_not, Bool.not_true, Bool.not_false, decide_eq_true_eq, decide_eq_false_iff_not] at *; omega)
          · have Hal := Lib.hid hal
            have hc : ¬ ((97 ≤ s[q].toNat ∧ s[q].toNat ≤ 122) ∨ (65 ≤ s[q].toNat ∧ s[q].toNat ≤ 90) ∨ (48 ≤ s[q].toNat ∧ s[q].toNat ≤ 57)) := hal
            clear hal
            go_wp2_with fail
            all_goals first
              | (go_ret; exact no_name (fun h => Hal.out (h.2.2 q hlt)) (Below.refl _ _))
              | (exfalso; simp only [Bool.not_eq_eq_eq_not, Bool.not_true, Bool.not_false, decide_eq_true_eq, decide_eq_false_iff_not] at *; omega)
        · go_wp2_with fail
          all_goals (go_ret; exact yes_name ⟨by omega, by omega, fun j hj => Hall.out j hj (by omega)⟩ (Below.refl _ _))
def PathP (l : List ByteArray) : Prop := 1 ≤ l.length ∧ l.length ≤ 3 ∧ ∀ s ∈ l, NameP s
def JPt (l : List ByteArray) (w : World) (j : Value) (wr : World) : Prop := ∃ q : Nat, q ≤ l.length ∧ j = .int .i64 q ∧ Below w.heap.size w wr ∧ ∀ s ∈ l.take q, NameP s
set_option maxHeartbeats 2000000 in
theorem mayPathX_any (a : Option Addr) (c : Nat) (l : List ByteArray) (w : World) (h : Strs w a c l) : Calls Tryz.prog 202 #[.slice a l.length c] w (IsTo w (PathP l)) := by
  have H := Lib.hid h
  have hcap : l.length ≤ c := h.2.1
  have hcm : c ≤ maxLen := h.2.2.1
  unfold maxLen at hcm
  clear h
  go_enter Tryz.func202, Tryz.ntmps202
  go_wp2_with fail
  go_loopw [3] (fun j wr => JPt l w j wr) (fun j _ => l.length - (intOf j).toNat)
  case atStart => exact ⟨0, Nat.zero_le _, rfl, Below.refl _ _, fun s hs => by simp at hs⟩
  case round =>
    obtain ⟨q, hq, rfl, hB, hall⟩ := hrel
    have HB := Lib.hid hB
    have Hall := Lib.hid hall
    clear hB hall
    by_cases hlt : q < l.length
    · obtain ⟨x, hx⟩ : ∃ x, l[q]? = some x := ⟨l[q], by simp [hlt]⟩
      obtain ⟨ad, had, c0, hl0⟩ := (H.out.below HB.out).at hx
      subst had
      have Hx := Lib.hid hx
      clear hx
      go_wp2_with fail
      refine (isNameX_any x _).mono ?_
      intro e w1 hto
      obtain ⟨z, rfl, hz, hb⟩ := hto
      have HB1 := Lib.hid (below2 HB.out hb HB.out.size)
      have Hz := Lib.hid hz
      clear hb hz
      cases z with
      | true =>
        go_wp2_with fail
        go_roundw
        case rel => exact ⟨q + 1, by omega, by go_num, HB1.out, all_snoc Hx.out Hall.out (Hz.out.1 (by simp))⟩
        case measure => simp [intOf]; omega
      | false =>
        go_wp2_with fail
        go_ret
        exact no_name (fun h => by have := Hz.out.2 (h.2.2 x (List.mem_of_getElem? Hx.out)); cases this) HB1.out
    · have ha := Hall.out
      rw [List.take_of_length_le (by omega)] at ha
      have Ha := Lib.hid ha
      clear ha
      by_cases h1 : 1 ≤ l.length
      · by_cases h3 : l.length ≤ 3
        · go_wp2_with fail
          all_goals (go_ret; exact ⟨_, rfl, ⟨fun _ => ⟨h1, h3, Ha.out⟩, fun _ => by first | (simp; done) | (simp; omega)⟩, HB.out⟩)
        · go_wp2_with fail
          all_goals (go_ret; exact ⟨_, rfl, ⟨fun h => by first | (cases h; done) | (simp at h; done) | (simp at h; omega), fun h => absurd h.2.1 h3⟩, HB.out⟩)
      · go_wp2_with fail
        all_goals (go_ret; exact ⟨_, rfl, ⟨fun h => by first | (cases h; done) | (simp at h; done) | (simp at h; omega), fun h => absurd h.1 h1⟩, HB.out⟩)
end Go.Proofs.YtaandcblndldmaaGreat
