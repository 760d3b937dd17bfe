/- slices.ContainsFunc of dots by any function; graph.follows: contracts. -/
import Derived.Test.YthdmoplclllhjaaGreatGraE
namespace Go.Proofs.YthdmoplclllhjaaGreat
open Go.RowKit
set_option linter.unusedVariables false
set_option linter.unusedSimpArgs false

def JIx (l : List Dt) (p : Dt → Bool) (w : World) (j : Value) (wr : World) : Prop := ∃ q : Nat, q ≤ l.length ∧ j = .int .i64 q ∧ Below w.heap.size w wr ∧ ∀ s ∈ l.take q, p s = false
/-- the first of some dots that p takes, or none -/
def IxFst (w : World) (l : List Dt) (p : Dt → Bool) (e : Ending) (w' : World) : Prop :=
  ∃ k : Int, e = .returned (.int .i64 k) ∧ ((k = -1 ∧ ∀ d ∈ l, p d = false) ∨ ∃ (q : Nat) (d : Dt), k = q ∧ l[q]? = some d ∧ p d = true ∧ ∀ s ∈ l.take q, p s = false) ∧ Below w.heap.size w w'
set_option maxHeartbeats 2000000 in
theorem indexD_fn (fn : FuncId) (cap : Array Value) (p : Dt → Bool) (a : Option Addr) (c : Nat) (l : List Dt) (w : World) (h : Vec w a c l) (hn : l.length ≤ 1000000)
    (he : ∀ args w, (callFunc fn args).run Tryz.prog w = .ok (.enter fn args) w)
    (hp : ∀ r i s, ((r, i), s) ∈ l → ∀ W, Below w.heap.size w W → Calls Tryz.prog fn (#[.agg #[.int .u8 r, .int .u32 i, .int .u64 s]] ++ cap) W (fun e W' => e = .returned (.bool (p ((r, i), s))) ∧ Below W.heap.size W W')) :
    Calls Tryz.prog 137 #[.slice a l.length c, .func (.func fn) #[] cap] w (IxFst w l p) := by
  have H := Lib.hid h
  have HP := Lib.hid hp
  clear h hp
  go_enter Tryz.func137, Tryz.ntmps137
  go_wp2_with fail
  go_loopw [8] (fun j wr => JIx l p w j wr) (fun j _ => l.length - (intOf j).toNat)
  case atStart => exact ⟨0, Nat.zero_le _, rfl, Below.refl _ _, fun s hs => by simp at hs⟩
  case round =>
    obtain ⟨q, hq, rfl, hB, hall⟩ := hrel
    have HB := Lib.hid hB
    have Hall := Lib.hid hall
    clear hB hall
    by_cases hlt : q < l.length
    · obtain ⟨⟨⟨r, i⟩, s⟩, hx⟩ : ∃ x, l[q]? = some x := ⟨l[q], by simp [hlt]⟩
      obtain ⟨ad, had, c0, c1, c2, hl0⟩ := (H.out.below HB.out).at hx
      subst had
      dsimp only at c0 c1 c2
      have Hx := Lib.hid hx
      have HPx := Lib.hid (HP.out r i s (List.mem_of_getElem? hx))
      clear hx
      go_wp2_with fail
      refine (HPx.out _ HB.out).mono ?_
      rintro e w1 ⟨rfl, hb⟩
      have HB1 := Lib.hid (below2 HB.out hb HB.out.size)
      clear hb
      cases hz : p ((r, i), s) with
      | true =>
        have Hy := Lib.hid hz
        go_wp2_with fail
        go_ret
        exact ⟨q, rfl, .inr ⟨q, _, rfl, Hx.out, Hy.out, Hall.out⟩, HB1.out⟩
      | false =>
        have Hz := Lib.hid hz
        go_wp2_with fail
        go_roundw
        case rel => exact ⟨q + 1, by omega, by go_num, HB1.out, all_snoc Hx.out Hall.out Hz.out⟩
        case measure => simp [intOf]; omega
    · have ha := Hall.out
      rw [List.take_of_length_le (by omega)] at ha
      have Ha := Lib.hid ha
      clear ha
      go_wp2_with fail
      go_ret
      exact ⟨-1, rfl, .inl ⟨rfl, Ha.out⟩, HB.out⟩
theorem containsD_fn (fn : FuncId) (cap : Array Value) (p : Dt → Bool) (a : Option Addr) (c : Nat) (l : List Dt) (w : World) (h : Vec w a c l) (hn : l.length ≤ 1000000)
    (he : ∀ args w, (callFunc fn args).run Tryz.prog w = .ok (.enter fn args) w)
    (hp : ∀ r i s, ((r, i), s) ∈ l → ∀ W, Below w.heap.size w W → Calls Tryz.prog fn (#[.agg #[.int .u8 r, .int .u32 i, .int .u64 s]] ++ cap) W (fun e W' => e = .returned (.bool (p ((r, i), s))) ∧ Below W.heap.size W W')) :
    Calls Tryz.prog 76 #[.slice a l.length c, .func (.func fn) #[] cap] w (IsTo w (∃ d ∈ l, p d = true)) := by
  go_enter Tryz.func76, Tryz.ntmps76
  go_wp2_with fail
  refine (indexD_fn fn cap p a c l _ h hn he hp).mono ?_
  intro e w1 hto
  obtain ⟨k, rfl, hk, hb⟩ := hto
  have Hb := Lib.hid hb
  have Hk := Lib.hid (show 0 ≤ k ↔ ∃ d ∈ l, p d = true from by
    rcases hk with ⟨rfl, h⟩ | ⟨q, d, rfl, h1, h2, _⟩
    · exact ⟨fun h => by omega, fun ⟨d, hd, h2⟩ => by rw [h d hd] at h2; cases h2⟩
    · exact ⟨fun _ => ⟨d, List.mem_of_getElem? h1, h2⟩, fun _ => by omega⟩)
  clear hb hk
  go_wp2_with fail
  go_ret
  exact ⟨_, rfl, by rw [decide_eq_true_iff]; exact Hk.out, Hb.out⟩
end Go.Proofs.YthdmoplclllhjaaGreat
