/- Contracts of package dot: Canon, Get, Has, Within, Join, Meet, Next. -/
import Derived.Test.YtblahapjdgncfaaDotG
namespace Go.Proofs.Ytblahapjdgncfaa
open Go.RowKit
set_option linter.unusedVariables false
set_option linter.unusedSimpArgs false

/-- a call returns the vector v in memory of its own -/
def VecTo (w : World) (v : List Dt) (e : Ending) (w' : World) : Prop :=
  ∃ a c, e = .returned (.slice a v.length c) ∧ w'.ownsRow w.heap.size 34 3 (.slice a v.length c) v.length (dcells v) ∧ Below w.heap.size w w'
theorem vec_of {w : World} {base : Nat} {a : Option Addr} {c : Nat} {v : List Dt} (h : w.ownsRow base 34 3 (.slice a v.length c) v.length (dcells v)) : Vec w a c v := Sl.of_owns h
theorem VecTo.from {w w1 w2 : World} {v : List Dt} {e : Ending} (h : VecTo w1 v e w2) (hb : Below w.heap.size w w1) : VecTo w v e w2 := by
  obtain ⟨a, c, h1, h2, h3⟩ := h
  exact ⟨a, c, h1, owns_base h2 hb.size, hb.trans (h3.mono hb.size)⟩

theorem canon_any (a : Option Addr) (c : Nat) (v : List Dt) (w : World) (hv : Vec w a c v) (hok : okV v) (hn : v.length ≤ 1000000) :
    Calls Try.prog 14 #[.slice a v.length c] w (VecTo w (canonV v)) := by
  go_enter Try.func14, Try.ntmps14
  go_wp2_with fail
  refine (numbers_any a c v w hv hok hn).mono ?_
  rintro e w1 ⟨b, n, rfl, hb, hn1, hN, hB⟩
  have HN := Lib.hid hN
  clear hN
  go_wp2_with fail
  refine (vector_any b n _ w1 HN.out (okN_getN hok) (by omega)).mono ?_
  rintro e w2 hV
  have HV := Lib.hid (VecTo.from (v := canonV v) hV hB)
  obtain ⟨a2, c2, rfl, _⟩ := hV
  clear HN
  go_wp2_with fail
  go_ret
  exact HV.out

theorem get_any (a : Option Addr) (c : Nat) (v : List Dt) (r i : Int) (w : World) (hv : Vec w a c v) (hok : okV v) (hn : v.length ≤ 1000000) (hA : okA (r, i)) :
    Calls Try.prog 22 #[.slice a v.length c, .agg #[.int .u8 r, .int .u32 i]] w fun e w' => e = .returned (.int .u64 (getN v (r, i))) ∧ Below w.heap.size w w' := by
  have Hv := Lib.hid hv
  clear hv
  go_enter Try.func22, Try.ntmps22
  go_wp2_with fail
  refine region_text [([0, 2], false), ([1], true), ([3, 4], false)] mixed (by kernel_rfl) ?_
  simp only [wpSegs, List.map_cons, List.map_nil, List.getD_cons_succ, List.getD_cons_zero]
  go_wp2_with fail
  refine (numbers_any a c v _ (Hv.out.below ?hb) hok hn).mono ?_
  case hb => exact ((Below.refl _ _).alloc (Nat.le_refl _) _).drew
  rintro e w1 ⟨b, n, rfl, hb, hn1, hN, hB⟩
  have HN := Lib.hid hN
  clear hN
  go_wp2_with fail
  refine And.intro (Agree.of_below hB) ?_
  have HB := Lib.hid ((((Below.refl _ _).alloc (Nat.le_refl _) _).drew).trans (hB.mono (by simp)) : Below w.heap.size w w1)
  clear hB
  go_wp2_with (at_lookup; go_must (refine wpList_look_N rfl _ _ rfl _ _ _ rfl HN.out r i rfl hA ?_))
  refine And.intro (by kernel_rfl) ?_
  go_wp2_with fail
  go_ret
  exact ⟨rfl, HB.out⟩

theorem join_any (a b : Option Addr) (c d : Nat) (v u : List Dt) (w : World) (hv : Vec w a c v) (hu : Vec w b d u) (hok : okV v) (hok2 : okV u) (hn : v.length ≤ 500000) (hm : u.length ≤ 500000) :
    Calls Try.prog 10 #[.slice a v.length c, .slice b u.length d] w (VecTo w (joinV v u)) := by
  go_enter Try.func10, Try.ntmps10
  go_wp2_with fail
  refine (numbers_any a c v w hv hok (by omega)).mono ?_
  rintro e w1 ⟨b1, n1, rfl, hb1, hn1, hN1, hB1⟩
  have HN1 := Lib.hid hN1
  clear hN1
  go_wp2_with fail
  refine (numbers_any b d u w1 (hu.below hB1) hok2 (by omega)).mono ?_
  rintro e w2 ⟨b2, n2, rfl, hb2, hn2, hN2, hB2⟩
  have HN2 := Lib.hid hN2
  have s1 := hB1.size
  have HB2 := Lib.hid (hB1.trans (hB2.mono s1))
  have HN1' := Lib.hid (HN1.out.below hB2)
  clear hN2 HN1 hB1 hB2
  go_wp2_with fail
  refine (both_any 64 max (by decide) join1_any (enters_of Try.func64 (by kernel_rfl) rfl) b1 b2 n1 n2 (getN v) (getN u) w2 HN1'.out HN2.out (by omega) (by omega)).mono ?_
  rintro e w3 ⟨b3, n3, rfl, hb3, hn3, hN3, hB3⟩
  have HN3 := Lib.hid hN3
  have HB3 := Lib.hid (HB2.out.trans (hB3.mono HB2.out.size))
  clear hN3 hB3 HB2 HN1' HN2
  go_wp2_with fail
  refine (vector_any b3 n3 _ w3 HN3.out (okN_max (okN_getN hok) (okN_getN hok2)) (by omega)).mono ?_
  rintro e w4 hV
  have HV := Lib.hid (VecTo.from (v := joinV v u) hV HB3.out)
  obtain ⟨a2, c2, rfl, _⟩ := hV
  clear HN3
  go_wp2_with fail
  go_ret
  exact HV.out

theorem meet_any (a b : Option Addr) (c d : Nat) (v u : List Dt) (w : World) (hv : Vec w a c v) (hu : Vec w b d u) (hok : okV v) (hok2 : okV u) (hn : v.length ≤ 500000) (hm : u.length ≤ 500000) :
    Calls Try.prog 11 #[.slice a v.length c, .slice b u.length d] w (VecTo w (meetV v u)) := by
  go_enter Try.func11, Try.ntmps11
  go_wp2_with fail
  refine (numbers_any a c v w hv hok (by omega)).mono ?_
  rintro e w1 ⟨b1, n1, rfl, hb1, hn1, hN1, hB1⟩
  have HN1 := Lib.hid hN1
  clear hN1
  go_wp2_with fail
  refine (numbers_any b d u w1 (hu.below hB1) hok2 (by omega)).mono ?_
  rintro e w2 ⟨b2, n2, rfl, hb2, hn2, hN2, hB2⟩
  have HN2 := Lib.hid hN2
  have s1 := hB1.size
  have HB2 := Lib.hid (hB1.trans (hB2.mono s1))
  have HN1' := Lib.hid (HN1.out.below hB2)
  clear hN2 HN1 hB1 hB2
  go_wp2_with fail
  refine (both_any 65 min (by decide) meet1_any (enters_of Try.func65 (by kernel_rfl) rfl) b1 b2 n1 n2 (getN v) (getN u) w2 HN1'.out HN2.out (by omega) (by omega)).mono ?_
  rintro e w3 ⟨b3, n3, rfl, hb3, hn3, hN3, hB3⟩
  have HN3 := Lib.hid hN3
  have HB3 := Lib.hid (HB2.out.trans (hB3.mono HB2.out.size))
  clear hN3 hB3 HB2 HN1' HN2
  go_wp2_with fail
  refine (vector_any b3 n3 _ w3 HN3.out (okN_min (okN_getN hok) (okN_getN hok2)) (by omega)).mono ?_
  rintro e w4 hV
  have HV := Lib.hid (VecTo.from (v := meetV v u) hV HB3.out)
  obtain ⟨a2, c2, rfl, _⟩ := hV
  clear HN3
  go_wp2_with fail
  go_ret
  exact HV.out

set_option maxHeartbeats 1000000 in
theorem within_any (a b : Option Addr) (c d : Nat) (v u : List Dt) (w : World) (hv : Vec w a c v) (hu : Vec w b d u) (hok : okV v) (hok2 : okV u) (hn : v.length ≤ 1000000) (hm : u.length ≤ 1000000) :
    Calls Try.prog 12 #[.slice a v.length c, .slice b u.length d] w fun e w' => e = .returned (.bool (withinV v u)) ∧ Below w.heap.size w w' := by
  go_enter Try.func12, Try.ntmps12
  go_wp2_with fail
  refine (numbers_any b d u w hu hok2 (by omega)).mono ?_
  rintro e w1 ⟨b1, n1, rfl, hb1, hn1, hN1, hB1⟩
  have HN1 := Lib.hid hN1
  clear hN1
  go_wp2_with fail
  refine (numbers_any a c v w1 (hv.below hB1) hok (by omega)).mono ?_
  rintro e w2 ⟨b2, n2, rfl, hb2, hn2, hN2, hB2⟩
  have s1 := hB1.size
  have s2 := hB2.size
  have HB2 := Lib.hid (hB1.trans (hB2.mono s1))
  have HN1' := Lib.hid (HN1.out.below hB2)
  have l1 := HN1.out.lt
  obtain ⟨fa, hMa, hfa⟩ := hN2
  have HMa := Lib.hid hMa
  have Hfa := Lib.hid hfa
  clear hMa hfa HN1 hB1 hB2
  go_wp2_with (at_range; go_must (refine wpList_range_F keysA rfl _ _ rfl _ Try.underlying85 b2 n2 fa rfl HMa.out ?_))
  intro w0 cnt0 hrg0 hcn0 hg0 hs0
  have hb0 : Below w2.heap.size w2 w0 := (Below.refl _ _).grown hg0 (Nat.le_refl _) (by simp)
  have Hb0 := Lib.hid hb0
  have Hrg0 := Lib.hid hrg0
  clear hg0 hs0 hb0 hrg0
  go_wp2_with fail
  go_loopw [6, 7] (fun _ _ wr => ∃ (left : Ac → Bool) (cnt : Nat), RangeF wr Try.prog 31 mkA b2 w2.heap.size n2 fa left cnt ∧ (∀ x, okA x → left x = false → getN v x ≤ getN u x) ∧ Below w2.heap.size w2 wr) (fun _ _ wr => wr.rangeLeft b2 w2.heap.size)
  case atStart =>
    refine ⟨_, cnt0, Hrg0.out, fun x hx hl => ?_, Hb0.out⟩
    rcases Hfa.out x hx with ⟨_, h⟩ | h
    · rw [h]; exact (getN_bd u x).1
    · rw [h] at hl; cases hl
  case round =>
    obtain ⟨left, cnt, hrg, hle, hb⟩ := hrel
    have Hrg := Lib.hid hrg
    have Hle := Lib.hid hle
    have Hb := Lib.hid hb
    have hs := hb.size
    clear hle hb Hb0 Hrg0 hcn0
    go_wp2_with (at_next; go_must (refine wpList_next_A rfl _ rfl _ _ _ _ _ _ rfl hrg ?_ ?_))
    · intro hl
      clear hrg
      have hw : withinV v u = true := (withinV_iff hok).2 fun x => by
        by_cases hx : 0 < getN v x
        · have h1 := (mem_allA x).1 (getN_all hok hx)
          have h2 := (mayA_iff x).1 h1.2
          have hokx : okA x := by unfold okA; omega
          exact Hle.out x hokx (hl x hokx)
        · have := (getN_bd u x).1; omega
      have Hw := Lib.hid hw
      clear hw hl
      go_wp2_with fail
      go_ret
      exact ⟨by rw [Hw.out]; rfl, HB2.out.trans (Hb.out.mono (by omega))⟩
    · intro rr ii vv w3 cnt1 hX hen
      clear hrg
      have hok3 := hX.ok
      have hlt1 := hX.lt
      obtain rfl : vv = .int .u64 (getN v (rr, ii)) := by
        have h := hX.val
        rcases Hfa.out _ hok3 with ⟨h1, _⟩ | h1
        · rw [h1] at h; cases h
        · rw [h1] at h; exact (Option.some.inj h).symm
      have HX := Lib.hid hX
      have hc1 := Chg.grown hX.grown
      simp only [Option.toList_some] at hc1
      have hb1 : Below w2.heap.size w2 w3 := Hb.out.trans (hc1.below hs (by simp))
      have HN3 := Lib.hid ((HN1'.out.below hb1).alloc (.cells #[.int .u8 rr, .int .u32 ii] 31))
      have Hrg1 := Lib.hid (hX.rng.alloc (.cells #[.int .u8 rr, .int .u32 ii] 31))
      have Hb1 := Lib.hid (hb1.alloc hb1.size (.cells #[.int .u8 rr, .int .u32 ii] 31))
      clear hX hc1 hb1
      by_cases hgt : getN u (rr, ii) < getN v (rr, ii)
      · have hw : withinV v u = false := by
          cases h : withinV v u with
          | false => rfl
          | true => have := (withinV_iff hok).1 h (rr, ii); omega
        have Hw := Lib.hid hw
        clear hw
        go_wp2_with (at_lookup; go_must (refine wpList_look_N rfl _ _ rfl _ _ _ rfl HN3.out rr ii rfl hok3 ?_))
        go_ret
        exact ⟨by rw [Hw.out]; rfl, HB2.out.trans (Hb1.out.mono (by omega))⟩
      · go_wp2_with (at_lookup; go_must (refine wpList_look_N rfl _ _ rfl _ _ _ rfl HN3.out rr ii rfl hok3 ?_))
        go_roundw
        case rel =>
          refine ⟨_, cnt1, Hrg1.out, fun x hx hl => ?_, Hb1.out⟩
          by_cases e : x = (rr, ii)
          · subst e; omega
          · exact Hle.out x hx (by simpa [e] using hl)
        case measure => rw [Hrg1.out.left_eq, Hrg.out.left_eq]; exact hlt1
end Go.Proofs.Ytblahapjdgncfaa
