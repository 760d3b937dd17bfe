/- leaf.tombs: contract. -/
import Derived.Test.YtmabjghjkgicgaaLeafD
namespace Go.Proofs.Ytmabjghjkgicgaa
open Go.RowKit
set_option linter.unusedVariables false
set_option linter.unusedSimpArgs false

/-- the cells of a leaf whose items and tombs lie so -/
def lcells (l : Lf) (ia : Option Addr) (ic : Nat) (ta : Option Addr) (tc : Nat) : Array Value :=
  #[.int .u8 l.k, .int .i64 l.n, .int .u64 l.t, .int .u8 l.d.1.1, .int .u32 l.d.1.2, .int .u64 l.d.2, .string l.x, .slice ia l.items.length ic, .slice ta l.tombs.length tc]
theorem bad_tomb {ts : List Dt} {is : List It} {k : Nat} {d : Dt} (hd : ts[k]? = some d) (h : may d = false) : ¬ MayTombs ts is := fun hm => by
  have := hm.1 d (List.mem_of_getElem? hd); rw [h] at this; cases this
theorem bad_tpair {ts : List Dt} {is : List It} {k : Nat} {d o : Dt} (hd : ts[k]? = some d) (ho : ts[k + 1]? = some o) (h : lessD d o = false) : ¬ MayTombs ts is := fun hm => by
  have := pairwise_next hm.2.1 hd ho
  unfold ltD at this
  rw [h] at this
  cases this
theorem bad_tin {ts : List Dt} {is : List It} {k : Nat} {d : Dt} (hd : ts[k]? = some d) (h : d ∈ dotsOf is) : ¬ MayTombs ts is := fun hm => hm.2.2 d (List.mem_of_getElem? hd) h
theorem cmpDD_less (a b : Dt) : decide (0 ≤ cmpDD a b) = !lessD a b := by
  have := cmpD_neg a b
  rw [← cmpDD_eq] at this
  rw [Bool.eq_iff_iff, decide_eq_true_iff, Bool.not_eq_true', ← Bool.not_eq_true, ← this]
  omega
set_option maxRecDepth 100000 in
set_option maxHeartbeats 4000000 in
theorem tombs_any (l : Lf) (ia ta : Option Addr) (ic tc : Nat) (w : World) (hl : LfAt w l ia ic ta tc) :
    Calls Try.prog 53 #[lval l ia ic ta tc] w fun e w' => ∃ q : Bool, e = .returned (.bool q) ∧ (q = true ↔ MayTombs l.tombs l.items) ∧ Below w.heap.size w w' := by
  obtain ⟨lk, ln, lt, ⟨⟨lr, li⟩, ls⟩, lx, is, ts⟩ := l
  obtain ⟨hv, hu, hn, hm⟩ := hl
  dsimp only at hv hu hn hm
  have Hv := Lib.hid hv
  have Hu := Lib.hid hu
  clear hv hu
  simp only [lval]
  go_enter Try.func53, Try.ntmps53
  go_wp2_with fail
  go_loopw [8] (fun j wr => ∃ k : Nat, k ≤ ts.length ∧ j = .int .i64 k ∧ Hid ((∀ d ∈ ts.take k, may d = true ∧ d ∉ dotsOf is) ∧ upTo ltD ts k) ∧ Hid (Below (w.alloc (.cells (lcells ⟨lk, ln, lt, ((lr, li), ls), lx, is, ts⟩ ia ic ta tc) 40)).heap.size (w.alloc (.cells (lcells ⟨lk, ln, lt, ((lr, li), ls), lx, is, ts⟩ ia ic ta tc) 40)) wr)) (fun j _ => ts.length - (intOf j).toNat)
  case atStart => exact ⟨0, Nat.zero_le _, rfl, Lib.hid ⟨by simp, upTo.zero⟩, Lib.hid (Below.refl _ _)⟩
  case round =>
    obtain ⟨k, hk, rfl, hi, hb⟩ := hrel
    have Hi := Lib.hid hi.out
    obtain ⟨hx0, hs0, hbb⟩ := new1 hb.out
    have g0 := cells_at hx0
    have Hg0 := Lib.hid hx0
    have Hb := Lib.hid hbb
    have HB := Lib.hid hb.out
    simp only [lcells] at g0
    clear hb hi hx0 hbb
    by_cases hlt : k < ts.length
    · obtain ⟨⟨⟨r, i⟩, s⟩, hx⟩ : ∃ x, ts[k]? = some x := ⟨ts[k], by simp [hlt]⟩
      obtain ⟨ad, had, c0, c1, c2, hl0⟩ := (Hu.out.below Hb.out).at hx
      subst had
      dsimp only at c0 c1 c2
      have Hx := Lib.hid hx
      clear hx
      go_wp2_with fail
      refine region_text [([0, 1, 2, 3, 4, 5, 6, 7, 8, 9, 10, 11, 12, 13, 14, 15, 16, 17, 18, 19, 20, 21, 22, 23], false)] mixed (by kernel_rfl) ?_
      simp only [wpSegs, List.map_cons, List.map_nil, List.getD_cons_succ, List.getD_cons_zero]
      go_wp2_with fail
      refine (may_any r i s _).mono ?_
      rintro e w1 ⟨rfl, hb1⟩
      obtain ⟨hx0, hz1, hB1⟩ := new1 (((Below.refl _ _).drew).trans hb1)
      have d0 := cells_at hx0
      have Hx0 := Lib.hid hx0
      have HB1 := Lib.hid (below2 HB.out hB1 HB.out.size)
      clear hb1 hB1 hx0 c0 c1 c2 g0
      obtain ⟨hy0, hs1, hbb1⟩ := new1 HB1.out
      have g0 := cells_at hy0
      simp only [lcells] at g0
      have Hb1 := Lib.hid hbb1
      clear hy0 hbb1
      cases hm : may ((r, i), s) with
      | false =>
        have He := Lib.hid (bad_tomb (is := is) Hx.out hm)
        clear hm
        go_wp2_with fail
        refine And.intro (by kernel_rfl) ?_
        go_wp2_with fail
        go_ret
        exact ⟨false, rfl, false_iff' He.out, Hb1.out⟩
      | true =>
        have Hm := Lib.hid hm
        clear hm
        have hl1 : Hid (ad.block < w1.heap.size) := Lib.hid (by omega)
        cases k with
        | zero =>
          go_wp2_with fail
          refine (has_any ia ic is ((r, i), s) _ (Hv.out.below Hb1.out) hn).mono ?_
          rintro e w3 ⟨q, rfl, hq, hb3⟩
          have HB3 := Lib.hid (below2 HB1.out hb3 HB1.out.size)
          have Hb3 := Lib.hid (below2 Hb1.out hb3 Hb1.out.size)
          have Hq := Lib.hid hq
          clear hb3 hq g0 d0
          cases q with
          | true =>
            have He := Lib.hid (bad_tin Hx.out (Hq.out.1 rfl))
            go_wp2_with fail
            refine And.intro (by kernel_rfl) ?_
            go_wp2_with fail
            go_ret
            exact ⟨false, rfl, false_iff' He.out, Hb3.out⟩
          | false =>
            have Hok := Lib.hid (show may ((r, i), s) = true ∧ ((r, i), s) ∉ dotsOf is from ⟨Hm.out, fun h => by have := Hq.out.2 h; cases this⟩)
            clear Hq
            go_wp2_with fail
            refine And.intro (by kernel_rfl) ?_
            go_wp2_with fail
            go_roundw
            case rel => exact ⟨1, by omega, by go_num, Lib.hid ⟨all_snoc Hx.out Hi.out.1 Hok.out, upTo.one⟩, Lib.hid HB3.out⟩
            case measure => simp [intOf]; omega
        | succ m =>
          obtain ⟨⟨⟨r', i'⟩, s'⟩, hy⟩ : ∃ x, ts[m]? = some x := ⟨ts[m], by simp [show m < ts.length by omega]⟩
          obtain ⟨ae, hae, p0, p1, p2, hl2⟩ := (Hu.out.below Hb1.out).at hy
          cases hae
          dsimp only at p0 p1 p2
          have Hy := Lib.hid hy
          clear hy
          go_wp2_with fail
          refine (compareD_any r' i' s' r i s _).mono ?_
          rintro e w2 ⟨rfl, hg2⟩
          have hb2 := hg2.below
          have hx0 := (hb2.block _ (heap_lt Hx0.out)).trans Hx0.out
          have HB2 := Lib.hid (below2 HB1.out hb2 HB1.out.size)
          have Hx2 := Lib.hid hx0
          have hl3 : Hid (ad.block < w2.heap.size) := Lib.hid (by have := hl1.out; have := hb2.size; omega)
          clear hb2 hg2 g0 d0 HB1 Hx0 Hb1 hs1 hl1
          obtain ⟨hy0, hs1, hbb1⟩ := new1 HB2.out
          have g0 := cells_at hy0
          have d0 := cells_at hx0
          simp only [lcells] at g0
          have Hb1 := Lib.hid hbb1
          clear hy0 hbb1 hx0 p0 p1 p2
          have hc := cmpDD_less ((r', i'), s') ((r, i), s)
          cases ha : lessD ((r', i'), s') ((r, i), s) with
          | false =>
            have He := Lib.hid (bad_tpair (is := is) Hy.out Hx.out ha)
            rw [ha] at hc
            clear ha
            go_wp2_with fail
            refine And.intro (by kernel_rfl) ?_
            go_wp2_with fail
            go_ret
            exact ⟨false, rfl, false_iff' He.out, Hb1.out⟩
          | true =>
            have Ha := Lib.hid ha
            rw [ha] at hc
            clear ha
            go_wp2_with fail
            refine (has_any ia ic is ((r, i), s) _ (Hv.out.below Hb1.out) hn).mono ?_
            rintro e w3 ⟨q, rfl, hq, hb3⟩
            have HB3 := Lib.hid (below2 HB2.out hb3 HB2.out.size)
            have Hb3 := Lib.hid (below2 Hb1.out hb3 Hb1.out.size)
            have Hq := Lib.hid hq
            clear hb3 hq g0 d0
            cases q with
            | true =>
              have He := Lib.hid (bad_tin Hx.out (Hq.out.1 rfl))
              go_wp2_with fail
              refine And.intro (by kernel_rfl) ?_
              go_wp2_with fail
              go_ret
              exact ⟨false, rfl, false_iff' He.out, Hb3.out⟩
            | false =>
              have Hok := Lib.hid (show may ((r, i), s) = true ∧ ((r, i), s) ∉ dotsOf is from ⟨Hm.out, fun h => by have := Hq.out.2 h; cases this⟩)
              clear Hq
              go_wp2_with fail
              refine And.intro (by kernel_rfl) ?_
              go_wp2_with fail
              go_roundw
              case rel => exact ⟨m + 2, by omega, by go_num, Lib.hid ⟨all_snoc Hx.out Hi.out.1 Hok.out, Hi.out.2.succ Hy.out Hx.out Ha.out⟩, Lib.hid HB3.out⟩
              case measure => simp [intOf]; omega
    · have hall := Hi.out.1
      rw [List.take_of_length_le (by omega)] at hall
      have Hall := Lib.hid hall
      have Hup := Lib.hid (upTo.all (lt := ltD) (fun h1 h2 => ltD_trans h1 h2) Hi.out.2 (by omega))
      clear hall
      go_wp2_with fail
      go_ret
      exact ⟨true, rfl, true_iff' ⟨fun d hd => (Hall.out d hd).1, Hup.out, fun d hd => (Hall.out d hd).2⟩, Hb.out⟩
end Go.Proofs.Ytmabjghjkgicgaa
