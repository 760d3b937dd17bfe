/- Plain words on acknowledgements and matrices: no program in sight. | Contracts: incarnations (slices of uint32). | Contracts: slices.Clone, own, May. -/
import Derived.Test.YtbeblbgbngplhaaGreatDotP
import Derived.Test.YtbeblbgbngplhaaGreatVec3
import Derived.Lib.SliceRun
/- MatP -/
namespace Go.Proofs.YtbeblbgbngplhaaGreat
set_option linter.unusedVariables false
set_option linter.unusedSimpArgs false

/-- an acknowledgement -/
structure Ak where
  r : Int
  i : Int
  incs : List Int
  vv : List Dt
def incOk (x : Int) : Bool := decide (1 ≤ x) && decide (x ≤ 4)
def mayIncs (l : List Int) (n : Int) : Bool := decide (1 ≤ n) && decide (n ≤ 16) && decide ((l.length : Int) = n) && l.all incOk
/-- whether it may be among n -/
def mayK (a : Ak) (n : Int) : Bool := mayA (a.r, a.i) && decide (a.r < n) && mayIncs a.incs n && (a.incs.getD a.r.toNat 0 == a.i)
end Go.Proofs.YtbeblbgbngplhaaGreat

/- MatA -/
namespace Go.Proofs.YtbeblbgbngplhaaGreat
open Go.RowKit
set_option linter.unusedVariables false
set_option linter.unusedSimpArgs false

def ucells (l : List Int) : List Value := l.map (.int .u32 ·)
/-- a slice of uint32 that reads as l -/
def U32 (w : World) (a : Option Addr) (c : Nat) (l : List Int) : Prop := Sl w 1 a l.length c (ucells l)
theorem U32.below {w w' : World} {a : Option Addr} {c : Nat} {l : List Int} (h : U32 w a c l) (hb : Below w.heap.size w w') : U32 w' a c l := Sl.below h hb
theorem U32.at {w : World} {a : Option Addr} {c : Nat} {l : List Int} (h : U32 w a c l) {k : Nat} {x : Int} (hx : l[k]? = some x) : ∃ ad, a = some ad ∧ w.cell? (ad.add k) = some (.int .u32 x) ∧ ad.block < w.heap.size := by
  have hk : k < l.length := (List.getElem?_eq_some_iff.1 hx).1
  obtain ⟨_, _, _, ⟨_, h0, _⟩ | ⟨ad, rfl, hc⟩⟩ := h
  · omega
  · have h0 := hc k (.int .u32 x) (by simp [ucells, hx])
    refine ⟨ad, rfl, h0, ?_⟩
    have := World.block_lt_of_cell? w _ h0
    have hb : (ad.add k).block = ad.block := by unfold Addr.add; split <;> rfl
    rwa [hb] at this

theorem wrong_any (x : Int) (w : World) : Calls Tryz.prog 98 #[.int .u32 x] w fun e w' => e = .returned (.bool (!incOk x)) ∧ w = w' := by
  by_cases h1 : x < 1
  · have He := Lib.hid (show (!incOk x) = true by simp [incOk]; omega)
    go_enter Tryz.func98, Tryz.ntmps98
    go_wp2_with fail
    go_ret
    exact ⟨by rw [He.out]; rfl, rfl⟩
  · have h1' : decide (x < 1) = false := by simpa using h1
    have He := Lib.hid (show (!incOk x) = decide (4 < x) by by_cases h : x ≤ 4 <;> simp [incOk, h, show (1 : Int) ≤ x by omega] <;> omega)
    go_enter Tryz.func98, Tryz.ntmps98
    go_wp2_with fail
    go_ret
    exact ⟨by rw [He.out]; rfl, rfl⟩

theorem all_snoc {α : Type} {p : α → Prop} {l : List α} {k : Nat} {x : α} (hx : l[k]? = some x) (h : ∀ y ∈ l.take k, p y) (hp : p x) : ∀ y ∈ l.take (k + 1), p y := by
  intro y hy
  rw [take_snoc' hx, List.mem_append, List.mem_singleton] at hy
  rcases hy with hy | rfl
  · exact h y hy
  · exact hp
set_option maxHeartbeats 1000000 in
theorem index_any (a : Option Addr) (c : Nat) (l : List Int) (w : World) (hv : U32 w a c l) (hn : l.length ≤ 1100000) :
    Calls Tryz.prog 148 #[.slice a l.length c, .func (.func 98) #[] #[]] w fun e w' => ∃ k : Int, e = .returned (.int .i64 k) ∧ decide (0 ≤ k) = !l.all incOk ∧ Below w.heap.size w w' := by
  have Hv := Lib.hid hv
  clear hv
  have he := enters_of Tryz.func98 (by kernel_rfl) rfl
  go_enter Tryz.func148, Tryz.ntmps148
  go_wp2_with fail
  go_loopw [8] (fun j wr => ∃ k : Nat, k ≤ l.length ∧ j = .int .i64 k ∧ Hid (∀ x ∈ l.take k, incOk x = true) ∧ Below w.heap.size w wr) (fun j _ => l.length - (intOf j).toNat)
  case atStart => exact ⟨0, Nat.zero_le _, rfl, Lib.hid (by simp), Below.refl _ _⟩
  case round =>
    obtain ⟨k, hk, rfl, hle, hb⟩ := hrel
    have Hb := Lib.hid hb
    clear hb
    by_cases hlt : k < l.length
    · obtain ⟨x, hx⟩ : ∃ x, l[k]? = some x := ⟨l[k], by simp [hlt]⟩
      obtain ⟨ad, had, c0, hl0⟩ := (Hv.out.below Hb.out).at hx
      subst had
      have Hx := Lib.hid hx
      clear hx
      go_wp2_with fail
      refine (wrong_any x _).mono ?_
      rintro e w1 ⟨rfl, rfl⟩
      cases hi : incOk x with
      | false =>
        have He := Lib.hid (show (!l.all incOk) = true by simp; exact ⟨x, List.mem_of_getElem? Hx.out, hi⟩)
        clear hi
        go_wp2_with fail
        go_ret
        exact ⟨k, rfl, by rw [He.out]; simp, Hb.out⟩
      | true =>
        have Hi := Lib.hid hi
        clear hi
        go_wp2_with fail
        go_roundw
        case rel => exact ⟨k + 1, by omega, by go_num, Lib.hid (all_snoc Hx.out hle.out Hi.out), Hb.out⟩
        case measure => simp [intOf]; omega
    · have He := Lib.hid (show (!l.all incOk) = false by simp; intro x hx; exact hle.out x (by rwa [List.take_of_length_le (by omega)]))
      go_wp2_with fail
      go_ret
      exact ⟨-1, rfl, by rw [He.out]; rfl, Hb.out⟩

theorem contains_any (a : Option Addr) (c : Nat) (l : List Int) (w : World) (hv : U32 w a c l) (hn : l.length ≤ 1100000) :
    Calls Tryz.prog 99 #[.slice a l.length c, .func (.func 98) #[] #[]] w fun e w' => e = .returned (.bool (!l.all incOk)) ∧ Below w.heap.size w w' := by
  go_enter Tryz.func99, Tryz.ntmps99
  go_wp2_with fail
  refine (index_any a c l _ hv hn).mono ?_
  rintro e w1 ⟨k, rfl, hk, hb⟩
  have Hb := Lib.hid hb
  have Hk := Lib.hid hk
  clear hb hk
  go_wp2_with fail
  go_ret
  exact ⟨by rw [← Hk.out]; rfl, Hb.out⟩

set_option maxHeartbeats 1000000 in
theorem mayIncs_any (a : Option Addr) (c : Nat) (l : List Int) (n : Int) (w : World) (hv : U32 w a c l) (hn : l.length ≤ 1100000) :
    Calls Tryz.prog 35 #[.slice a l.length c, .int .i64 n] w fun e w' => e = .returned (.bool (mayIncs l n)) ∧ Below w.heap.size w w' := by
  have Hv := Lib.hid hv
  clear hv
  by_cases h1 : 1 ≤ n
  · by_cases h2 : n ≤ 16
    · by_cases h3 : (l.length : Int) = n
      · subst h3
        have He := Lib.hid (show mayIncs l l.length = l.all incOk by simp [mayIncs, h1, h2])
        go_enter Tryz.func35, Tryz.ntmps35
        go_wp2_with fail
        refine (contains_any a c l _ Hv.out hn).mono ?_
        rintro e w1 ⟨rfl, hb⟩
        have Hb := Lib.hid hb
        clear hb
        go_wp2_with fail
        go_ret
        exact ⟨by rw [He.out]; simp, Hb.out⟩
      · have h3' : ((l.length : Int) == n) = false := by simpa using h3
        have He := Lib.hid (show mayIncs l n = false by simp [mayIncs, h3])
        go_enter Tryz.func35, Tryz.ntmps35
        go_wp2_with fail
        go_ret
        exact ⟨by rw [He.out]; rfl, Below.refl _ _⟩
    · have h2' : decide (n ≤ 16) = false := by simpa using h2
      have He := Lib.hid (show mayIncs l n = false by simp [mayIncs, h2])
      go_enter Tryz.func35, Tryz.ntmps35
      go_wp2_with fail
      go_ret
      exact ⟨by rw [He.out]; rfl, Below.refl _ _⟩
  · have h1' : decide (1 ≤ n) = false := by simpa using h1
    have He := Lib.hid (show mayIncs l n = false by simp [mayIncs, h1])
    go_enter Tryz.func35, Tryz.ntmps35
    go_wp2_with fail
    go_ret
    exact ⟨by rw [He.out]; rfl, Below.refl _ _⟩

end Go.Proofs.YtbeblbgbngplhaaGreat

/- MatB -/
namespace Go.Proofs.YtbeblbgbngplhaaGreat
open Go.RowKit
set_option linter.unusedVariables false
set_option linter.unusedSimpArgs false

theorem mayK_of {a : Ak} {n : Int} (h1 : mayA (a.r, a.i) = true) (h2 : a.r < n) (h3 : mayIncs a.incs n = true) {x : Int} (hx : a.incs[a.r.toNat]? = some x) : mayK a n = (x == a.i) := by
  simp [mayK, h1, h2, h3, List.getD, hx]
end Go.Proofs.YtbeblbgbngplhaaGreat
