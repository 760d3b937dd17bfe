/- Contracts of package epoch; great, known of law 18. -/
import Derived.Test.YtblahapjdgncfaaMatI
namespace Go.Proofs.Ytblahapjdgncfaa
open Go.RowKit
set_option linter.unusedVariables false
set_option linter.unusedSimpArgs false

set_option maxHeartbeats 1000000 in
theorem great18_any (a : Option Addr) (c : Nat) (ys : List Ak) (w : World) (hv : Acks w a c ys) :
    Calls Try.prog 50 #[.slice a ys.length c] w fun e w' => e = .returned (.bool (greatL ys)) ∧ Below w.heap.size w w' := by
  have hml := hv.len
  have Hv := Lib.hid hv
  clear hv
  unfold maxLen at hml
  go_enter Try.func50, Try.ntmps50
  go_wp2_with fail
  go_loopw [6] (fun j wr => ∃ k : Nat, k ≤ ys.length ∧ j = .int .i64 k ∧ Hid (∀ y ∈ ys.take k, greatK y = false) ∧ Below w.heap.size w wr) (fun j _ => ys.length - (intOf j).toNat)
  case atStart => exact ⟨0, Nat.zero_le _, rfl, Lib.hid (by simp), Below.refl _ _⟩
  case round =>
    obtain ⟨k, hk, rfl, hle, hb⟩ := hrel
    have Hb := Lib.hid hb
    clear hb
    by_cases hlt : k < ys.length
    · obtain ⟨y, hy⟩ : ∃ y, ys[k]? = some y := ⟨ys[k], by simp [hlt]⟩
      obtain ⟨ad, ai, ci, av, cv, had, hat, hl0⟩ := (Hv.out.below Hb.out).at hy
      subst had
      have c2 := hat.c2
      have c3 := hat.c3
      have Hy := Lib.hid hy
      clear hy hat
      by_cases h40 : 40 < y.vv.length
      · have He := Lib.hid (show greatL ys = true by simp only [greatL, Bool.or_eq_true, List.any_eq_true]; exact .inl ⟨y, List.mem_of_getElem? Hy.out, by simp [greatK, h40]⟩)
        go_wp2_with fail
        go_ret
        exact ⟨by rw [He.out]; rfl, Hb.out⟩
      · have h40' : decide ((40 : Int) < y.vv.length) = false := by simp; omega
        by_cases h20 : 20 < y.incs.length
        · have He := Lib.hid (show greatL ys = true by simp only [greatL, Bool.or_eq_true, List.any_eq_true]; exact .inl ⟨y, List.mem_of_getElem? Hy.out, by simp [greatK, h20]⟩)
          go_wp2_with fail
          go_ret
          exact ⟨by rw [He.out]; rfl, Hb.out⟩
        · have h20' : decide ((20 : Int) < y.incs.length) = false := by simp; omega
          have Hg := Lib.hid (show greatK y = false by simp [greatK]; omega)
          go_wp2_with fail
          go_roundw
          case rel => exact ⟨k + 1, by omega, by go_num, Lib.hid (all_snoc Hy.out hle.out Hg.out), Hb.out⟩
          case measure => simp [intOf]; omega
    · have He := Lib.hid (show greatL ys = decide ((60 : Int) < ys.length) by
        have : ys.any greatK = false := by
          rw [List.any_eq_false]; intro y hy; rw [hle.out y (by rwa [List.take_of_length_le (by omega)])]; simp
        rw [greatL, this, Bool.false_or]
        by_cases h : 60 < ys.length
        · rw [decide_eq_true h, decide_eq_true (by omega)]
        · rw [decide_eq_false h, decide_eq_false (by omega)])
      go_wp2_with fail
      go_ret
      exact ⟨by rw [He.out]; rfl, Hb.out⟩

def nextE (num inc : Int) : Int × Int := if inc < 1 ∨ 4 < inc then (0, 2) else if 1099511627776 ≤ num then (0, 14) else (max (num + 1) (inc * 4294967296), 0)
def nextRes (num inc : Int) : Ending := .returned (.tuple #[.int .u64 (nextE num inc).1, .int .i64 (nextE num inc).2])
theorem next_res {num inc x e : Int} (h : nextE num inc = (x, e)) : .returned (.tuple #[.int .u64 x, .int .i64 e]) = nextRes num inc := by simp [nextRes, h]

set_option maxHeartbeats 1000000 in
theorem epoNext_any (num inc : Int) (w : World) (h0 : 0 ≤ num) (h1 : num ≤ 18446744073709551615) :
    Calls Try.prog 54 #[.int .u64 num, .int .u32 inc] w fun e w' => e = nextRes num inc ∧ w = w' := by
  by_cases hl : inc < 1
  · have He := Lib.hid (show nextE num inc = (0, 2) by unfold nextE; rw [if_pos (.inl hl)])
    go_enter Try.func54, Try.ntmps54
    go_wp2_with fail
    exact bodyPost_ret (v := .tuple #[.int .u64 0, .int .i64 2]) (by simp [results, Try.results54, go_sem]) rfl ⟨next_res He.out, rfl⟩
  · have hl' : decide (inc < 1) = false := by simpa using hl
    by_cases hg : 4 < inc
    · have He := Lib.hid (show nextE num inc = (0, 2) by unfold nextE; rw [if_pos (.inr hg)])
      go_enter Try.func54, Try.ntmps54
      go_wp2_with fail
      exact bodyPost_ret (v := .tuple #[.int .u64 0, .int .i64 2]) (by simp [results, Try.results54, go_sem]) rfl ⟨next_res He.out, rfl⟩
    · have hg' : decide (4 < inc) = false := by simpa using hg
      by_cases hn : 1099511627776 ≤ num
      · have He := Lib.hid (show nextE num inc = (0, 14) by unfold nextE; rw [if_neg (by omega), if_pos hn])
        go_enter Try.func54, Try.ntmps54
        go_wp2_with fail
        exact bodyPost_ret (v := .tuple #[.int .u64 0, .int .i64 14]) (by simp [results, Try.results54, go_sem]) rfl ⟨next_res He.out, rfl⟩
      · have hn' : decide (1099511627776 ≤ num) = false := by simpa using hn
        have He := Lib.hid (show nextE num inc = (max (num + 1) (inc * 4294967296), 0) by unfold nextE; rw [if_neg (by omega), if_neg hn])
        go_enter Try.func54, Try.ntmps54
        go_wp2_with fail
        exact bodyPost_ret (v := .tuple #[.int .u64 (max (num + 1) (inc * 4294967296)), .int .i64 0]) (by simp [results, Try.results54, go_sem]) rfl ⟨next_res He.out, rfl⟩

theorem known18_any (w : World) : Calls Try.prog 51 #[] w fun e w' => e = .returned (.bool true) ∧ w = w' := by
  go_enter Try.func51, Try.ntmps51
  go_wp2_with fail
  refine (epoNext_any 0 1 w (by decide) (by decide)).mono ?_
  rintro e w1 ⟨rfl, rfl⟩
  rw [show nextRes 0 1 = .returned (.tuple #[.int .u64 4294967296, .int .i64 0]) from rfl]
  go_wp2_with fail
  refine (epoNext_any 4294967296 1 w (by decide) (by decide)).mono ?_
  rintro e w1 ⟨rfl, rfl⟩
  rw [show nextRes 4294967296 1 = .returned (.tuple #[.int .u64 4294967297, .int .i64 0]) from rfl]
  go_wp2_with fail
  refine (epoNext_any 4294967301 2 w (by decide) (by decide)).mono ?_
  rintro e w1 ⟨rfl, rfl⟩
  rw [show nextRes 4294967301 2 = .returned (.tuple #[.int .u64 8589934592, .int .i64 0]) from rfl]
  go_wp2_with fail
  go_ret
  exact ⟨rfl, rfl⟩

theorem lacks_any (a b : Option Addr) (c d : Nat) (v u : List Dt) (w : World) (hv : Vec w a c v) (hu : Vec w b d u) (hok : okV v) (hok2 : okV u) (hn : v.length ≤ 1000000) (hm : u.length ≤ 1000000) :
    Calls Try.prog 79 #[.slice a v.length c, .slice b u.length d] w fun e w' => e = .returned (.bool (!withinV v u)) ∧ Below w.heap.size w w' := by
  go_enter Try.func79, Try.ntmps79
  go_wp2_with fail
  refine (within_any a b c d v u w hv hu hok hok2 hn hm).mono ?_
  rintro e w1 ⟨rfl, hb⟩
  have Hb := Lib.hid hb
  clear hb
  go_wp2_with fail
  go_ret
  exact ⟨rfl, Hb.out⟩
theorem isStale_any (a b : Option Addr) (c d : Nat) (v u : List Dt) (w : World) (hv : Vec w a c v) (hu : Vec w b d u) (hok : okV v) (hok2 : okV u) (hn : v.length ≤ 1000000) (hm : u.length ≤ 1000000) :
    Calls Try.prog 57 #[.slice a v.length c, .slice b u.length d] w fun e w' => e = .returned (.bool (!withinV v u)) ∧ Below w.heap.size w w' := by
  go_enter Try.func57, Try.ntmps57
  go_wp2_with fail
  refine (within_any a b c d v u w hv hu hok hok2 hn hm).mono ?_
  rintro e w1 ⟨rfl, hb⟩
  have Hb := Lib.hid hb
  clear hb
  go_wp2_with fail
  go_ret
  exact ⟨rfl, Hb.out⟩

def judgeN (m num : Int) (F f vv : List Dt) : Int := if m ≤ num then 2 else if withinV F vv = false then 3 else if withinV f F = false then 4 else 1
set_option maxHeartbeats 1000000 in
theorem judge_any (m num : Int) (Fa fa va : Option Addr) (Fc fc vc : Nat) (F f vv : List Dt) (w : World) (hF : Vec w Fa Fc F) (hf : Vec w fa fc f) (hv : Vec w va vc vv) (oF : okV F) (of : okV f) (ov : okV vv) (nF : F.length ≤ 1000000) (nf : f.length ≤ 1000000) (nv : vv.length ≤ 1000000) :
    Calls Try.prog 53 #[.agg #[.int .u64 m, .slice Fa F.length Fc], .int .u64 num, .slice fa f.length fc, .slice va vv.length vc] w fun e w' => e = .returned (.int .u8 (judgeN m num F f vv)) ∧ Below w.heap.size w w' := by
  have HF := Lib.hid hF
  have Hf := Lib.hid hf
  have Hv := Lib.hid hv
  clear hF hf hv
  have hen := enters_of Try.func79 (by kernel_rfl) rfl
  by_cases hle : m ≤ num
  · have He := Lib.hid (show judgeN m num F f vv = 2 by unfold judgeN; rw [if_pos hle])
    go_enter Try.func53, Try.ntmps53
    go_wp2_with fail
    go_ret
    exact ⟨by rw [He.out]; rfl, (Below.refl _ _).alloc (Nat.le_refl _) _⟩
  · have hle' : decide (m ≤ num) = false := by simpa using hle
    go_enter Try.func53, Try.ntmps53
    go_wp2_with fail
    have hba : Below w.heap.size w (w.alloc (.cells #[.int .u64 m, .slice Fa F.length Fc] 72)) := (Below.refl _ w).alloc (Nat.le_refl _) _
    refine (lacks_any Fa va Fc vc F vv _ (HF.out.below hba) (Hv.out.below hba) oF ov nF nv).mono ?_
    rintro e w1 ⟨rfl, hb1⟩
    obtain ⟨hx0, hz, hB1⟩ := new1 hb1
    have d1 := cells_at hx0
    have HB1 := Lib.hid hB1
    clear hb1 hx0 hB1 hba
    cases h1 : withinV F vv with
    | false =>
      have He := Lib.hid (show judgeN m num F f vv = 3 by unfold judgeN; rw [if_neg (by omega : ¬ m ≤ num), if_pos h1])
      clear h1
      go_wp2_with fail
      go_ret
      exact ⟨by rw [He.out]; rfl, HB1.out⟩
    | true =>
      have H1 := Lib.hid h1
      clear h1
      go_wp2_with fail
      refine (lacks_any fa Fa fc Fc f F _ (Hf.out.below HB1.out) (HF.out.below HB1.out) of oF nf nF).mono ?_
      rintro e w2 ⟨rfl, hb2⟩
      have HB2 := Lib.hid (HB1.out.trans (hb2.mono HB1.out.size))
      clear hb2
      cases h2 : withinV f F with
      | false =>
        have He := Lib.hid (show judgeN m num F f vv = 4 by unfold judgeN; rw [if_neg (by omega : ¬ m ≤ num), H1.out, if_neg (by simp), if_pos h2])
        clear h2
        go_wp2_with fail
        go_ret
        exact ⟨by rw [He.out]; rfl, HB2.out⟩
      | true =>
        have He := Lib.hid (show judgeN m num F f vv = 1 by unfold judgeN; rw [if_neg (by omega : ¬ m ≤ num), H1.out, if_neg (by simp), h2, if_neg (by simp)])
        clear h2
        go_wp2_with fail
        go_ret
        exact ⟨by rw [He.out]; rfl, HB2.out⟩
end Go.Proofs.Ytblahapjdgncfaa
