/- epoch.Decide. -/
import Derived.Test.YtblahapjdgncfaaEpoA
import Derived.Test.YtblahapjdgncfaaMatQ
namespace Go.Proofs.Ytblahapjdgncfaa
open Go.RowKit
set_option linter.unusedVariables false
set_option linter.unusedSimpArgs false

def decideV (f v : List Dt) (e : Int × Int) : Option (Int × List Dt) := if withinV f v = true ∧ withinV v f = false ∧ e.2 = 0 then some (e.1, v) else none
def decideM (n : Nat) (R : Mx) (incs : List Int) (num : Int) (f : List Dt) : Option (Int × List Dt) :=
  match stableM n R incs with
  | none => none
  | some v => decideV f v (nextE num (incs.getD 0 0))
theorem decide_none' {n : Nat} {R : Mx} {incs : List Int} {num : Int} {f : List Dt} (h : stableM n R incs = none) : decideM n R incs num f = none := by simp [decideM, h]
theorem decide_some {n : Nat} {R : Mx} {incs : List Int} {num : Int} {f v : List Dt} (h : stableM n R incs = some v) : decideM n R incs num f = decideV f v (nextE num (incs.getD 0 0)) := by simp [decideM, h]
def DecNo (w : World) (e : Ending) (w' : World) : Prop := e = .returned (.tuple #[.agg #[.int .u64 0, .slice none 0 0], .bool false]) ∧ Below w.heap.size w w'
def DecYes (w : World) (m : Int) (v : List Dt) (e : Ending) (w' : World) : Prop := ∃ a c, e = .returned (.tuple #[.agg #[.int .u64 m, .slice a v.length c], .bool true]) ∧ w'.ownsRow w.heap.size 34 3 (.slice a v.length c) v.length (dcells v) ∧ Below w.heap.size w w'
/-- what Decide tells -/
def DecTo (w : World) (o : Option (Int × List Dt)) (e : Ending) (w' : World) : Prop := (o = none ∧ DecNo w e w') ∨ ∃ m v, o = some (m, v) ∧ DecYes w m v e w'
theorem dec_no {w w' : World} {o : Option (Int × List Dt)} (ho : o = none) (hb : Below w.heap.size w w') : DecTo w o (.returned (.tuple #[.agg #[.int .u64 0, .slice none 0 0], .bool false])) w' := .inl ⟨ho, rfl, hb⟩
theorem below_box2 {w w1 : World} (hb : Below w.heap.size w w1) (x0 x1 : Value) : Below w.heap.size w ((w1.setCell ⟨w.heap.size, 0, none⟩ x0).setCell ⟨w.heap.size, 1, none⟩ x1) :=
  (hb.setCell (by simp) _).setCell (by simp) _

set_option maxHeartbeats 1000000 in
theorem decide_none (a fa : Option Addr) (q c p d : Nat) (num : Int) (w : World) : Calls Try.prog 52 #[.pointer none, .slice a q c, .int .u64 num, .slice fa p d] w (DecTo w none) := by
  have hen := enters_of Try.func34 (by kernel_rfl) rfl
  go_enter Try.func52, Try.ntmps52
  go_wp2_with fail
  refine (stable_none a q c _).mono ?_
  rintro e w1 (⟨_, rfl, hb1⟩ | ⟨v, h, _⟩)
  case inr => cases h
  obtain ⟨hx0, hz, hB1⟩ := new1 hb1
  have d1 := cells_at hx0
  have f1 := free_at hx0
  have HB1 := Lib.hid hB1
  clear hb1 hx0 hB1
  go_wp2_with fail
  exact bodyPost_ret (v := .tuple #[.agg #[.int .u64 0, .slice none 0 0], .bool false]) (by simp [results, Try.results52, go_sem, d1]) rfl (dec_no rfl (below_box2 HB1.out _ _))

set_option maxHeartbeats 4000000 in
theorem decide_any (ia fa : Option Addr) (ic fc : Nat) (l : List Int) (f : List Dt) (num : Int) (pm n : Nat) (R : Mx) (F : Nat → Prop) (w : World) (hM : MatR w F pm n R) (hR : okR n R) (hi : U32 w ia ic l) (hl : l.length ≤ 1000000) (hf : Vec w fa fc f) (of : okV f) (nf : f.length ≤ 1000000) (h0 : 0 ≤ num) (h1 : num ≤ 18446744073709551615) :
    Calls Try.prog 52 #[.pointer (some ⟨pm, 0, none⟩), .slice ia l.length ic, .int .u64 num, .slice fa f.length fc] w (DecTo w (decideM n R l num f)) := by
  have hen := enters_of Try.func34 (by kernel_rfl) rfl
  have Hi := Lib.hid hi
  have Hf := Lib.hid hf
  have HM := Lib.hid hM
  clear hi hf hM
  go_enter Try.func52, Try.ntmps52
  go_wp2_with fail
  have hba : Below w.heap.size w (w.alloc (.cells #[.int .u64 0, .slice none 0 0] 72)) := (Below.refl _ w).alloc (Nat.le_refl _) _
  refine (stable_any ia ic l pm n R F _ (HM.out.below hba) hR (Hi.out.below hba) hl).mono ?_
  clear hba
  rintro e w1 (⟨hst, rfl, hb1⟩ | ⟨v, hst, a1, c1, rfl, ho1, hb1⟩)
  · have He := Lib.hid (decide_none' (num := num) (f := f) hst)
    obtain ⟨hx0, hz, hB1⟩ := new1 hb1
    have d1 := cells_at hx0
    have f1 := free_at hx0
    have HB1 := Lib.hid hB1
    clear hb1 hx0 hB1 hst
    go_wp2_with fail
    exact bodyPost_ret (v := .tuple #[.agg #[.int .u64 0, .slice none 0 0], .bool false]) (by simp [results, Try.results52, go_sem, d1]) rfl (dec_no He.out (below_box2 HB1.out _ _))
  · have Hd := Lib.hid (decide_some (num := num) (f := f) hst)
    have Hst := Lib.hid hst
    obtain ⟨ov, nv⟩ := stable_ok hR hst
    have Hov := Lib.hid ov
    obtain ⟨hx0, hz, hB1⟩ := new1 hb1
    have Hx0 := Lib.hid hx0
    have HB1 := Lib.hid hB1
    have Ho1 := Lib.hid (owns_base ho1 (show w.heap.size + 1 ≤ _ by simp))
    clear hb1 hx0 hB1 hst ho1 ov
    go_wp2_with fail
    refine (within_any fa a1 fc c1 f v w1 (Hf.out.below HB1.out) (vec_of Ho1.out) of Hov.out nf (by omega)).mono ?_
    rintro e w2 ⟨rfl, hb2⟩
    have hx2 := (hb2.block _ (heap_lt Hx0.out)).trans Hx0.out
    have HB2 := Lib.hid (HB1.out.trans (hb2.mono HB1.out.size))
    have Ho2 := Lib.hid (owns_chg (F := []) Ho1.out (Chg.of_below hb2) (by simp))
    have d2 := cells_at hx2
    have f2 := free_at hx2
    have Hx2 := Lib.hid hx2
    clear hb2 hx2 HB1 Hx0 Ho1
    cases hw1 : withinV f v with
    | false =>
      have He := Lib.hid (show decideM n R l num f = none by rw [Hd.out]; unfold decideV; rw [if_neg (by simp [hw1])])
      clear hw1
      go_wp2_with fail
      exact bodyPost_ret (v := .tuple #[.agg #[.int .u64 0, .slice none 0 0], .bool false]) (by simp [results, Try.results52, go_sem, d2]) rfl (dec_no He.out (below_box2 HB2.out _ _))
    | true =>
      have Hw1 := Lib.hid hw1
      clear hw1
      go_wp2_with fail
      refine (within_any a1 fa c1 fc v f w2 (vec_of Ho2.out) (Hf.out.below HB2.out) Hov.out of (by omega) nf).mono ?_
      rintro e w3 ⟨rfl, hb3⟩
      have hx3 := (hb3.block _ (heap_lt Hx2.out)).trans Hx2.out
      have HB3 := Lib.hid (HB2.out.trans (hb3.mono HB2.out.size))
      have Ho3 := Lib.hid (owns_chg (F := []) Ho2.out (Chg.of_below hb3) (by simp))
      have d3 := cells_at hx3
      have f3 := free_at hx3
      clear hb3 hx3 HB2 Hx2 Ho2 d2 f2
      cases hw2 : withinV v f with
      | true =>
        have He := Lib.hid (show decideM n R l num f = none by rw [Hd.out]; unfold decideV; rw [if_neg (by simp [hw2])])
        clear hw2
        go_wp2_with fail
        exact bodyPost_ret (v := .tuple #[.agg #[.int .u64 0, .slice none 0 0], .bool false]) (by simp [results, Try.results52, go_sem, d3]) rfl (dec_no He.out (below_box2 HB3.out _ _))
      | false =>
        have Hw2 := Lib.hid hw2
        clear hw2
        have hl1 : 0 < l.length := by have := (mayIncs_iff l n).1 (stable_may' Hst.out).1; omega
        obtain ⟨x, hx⟩ : ∃ x, l[0]? = some x := ⟨l[0], by simp [hl1]⟩
        have Hxx := Lib.hid (show l.getD 0 0 = x by simp [List.getD, hx])
        obtain ⟨ad, had, c0, hl0⟩ := (Hi.out.below HB3.out).at hx
        subst had
        clear hx
        rw [show ad.add 0 = ad by simp [Addr.add]] at c0
        go_wp2_with fail
        refine (epoNext_any num x w3 h0 h1).mono ?_
        rintro e w4 ⟨rfl, rfl⟩
        unfold nextRes
        obtain ⟨m, er, hme⟩ : ∃ m er, nextE num x = (m, er) := ⟨_, _, rfl⟩
        rw [hme]
        dsimp only
        have Hme := Lib.hid hme
        clear hme
        by_cases her : er = 0
        · subst her
          have He := Lib.hid (show decideM n R l num f = some (m, v) by rw [Hd.out, Hxx.out, Hme.out]; unfold decideV; rw [if_pos (by simp [Hw1.out, Hw2.out])])
          go_wp2_with fail
          refine bodyPost_ret (v := .tuple #[.agg #[.int .u64 m, .slice a1 v.length c1], .bool true]) (by simp [results, Try.results52, go_sem, d3]) rfl (.inr ⟨m, v, He.out, a1, c1, rfl, ?_, ?_⟩)
          · exact owns_base (owns_set (owns_set Ho3.out (by simp)) (by simp)) (by omega)
          · exact below_box2 HB3.out _ _
        · have her' : (er == 0) = false := by simpa using her
          have He := Lib.hid (show decideM n R l num f = none by rw [Hd.out, Hxx.out, Hme.out]; unfold decideV; rw [if_neg (by simp [her])])
          go_wp2_with fail
          exact bodyPost_ret (v := .tuple #[.agg #[.int .u64 0, .slice none 0 0], .bool false]) (by simp [results, Try.results52, go_sem, d3]) rfl (dec_no He.out (below_box2 HB3.out _ _))
end Go.Proofs.Ytblahapjdgncfaa
