/- commit.rising: dots that rise within a vector: contract. -/
import Derived.Test.YthdmoplclllhjaaGreatComP
namespace Go.Proofs.YthdmoplclllhjaaGreat
open Go.RowKit
set_option linter.unusedVariables false
set_option linter.unusedSimpArgs false

/-- a commit's cells, spelled out -/
abbrev ccells (r i s : Int) (qa : Option Addr) (qn qc : Nat) (va : Option Addr) (vn vc : Nat) (t k : Int) (pa : Option Addr) (pn pc : Nat) (n : Int) (x : ByteArray) (da : Option Addr) (dn dc : Nat) : Array Value :=
  #[.int .u8 r, .int .u32 i, .int .u64 s, .slice qa qn qc, .slice va vn vc, .int .u64 t, .int .u8 k, .slice pa pn pc, .int .i64 n, .string x, .slice da dn dc]
structure CmE (w wr : World) (C : Array Value) : Prop where
  blk : wr.heap[w.heap.size]? = some (.cells C 46 (0, 0))
  bel : Below w.heap.size w wr
theorem CmE.of {w wr : World} {C : Array Value} (hb : Below (w.alloc (.cells C 46)).heap.size (w.alloc (.cells C 46)) wr) : CmE w wr C := ⟨(new1 hb).1, (new1 hb).2.2⟩
theorem CmE.step {w wr w' : World} {C : Array Value} (h : CmE w wr C) (hb : Below wr.heap.size wr w') : CmE w w' C := ⟨(hb.block _ (heap_lt h.blk)).trans h.blk, below2 h.bel hb h.bel.size⟩
def JRi (l : List Dt) (w : World) (C : Array Value) (d : Dt) (vv : List Dt) (j : Value) (wr : World) : Prop :=
  ∃ q : Nat, q ≤ l.length ∧ j = .int .i64 q ∧ CmE w wr C ∧ upTo ltD l q ∧ ∀ x ∈ l.take q, x ≠ d ∧ hasV vv x = true
theorem not_rise {l : List Dt} {d : Dt} {vv : List Dt} {q : Nat} {x : Dt} (hx : l[q]? = some x) (h : ¬ (x ≠ d ∧ hasV vv x = true)) : ¬ RiseP l d vv := fun hh => h (hh.2 x (List.mem_of_getElem? hx))
theorem not_rise2 {l : List Dt} {d : Dt} {vv : List Dt} {q : Nat} {x y : Dt} (hx : l[q]? = some x) (hy : l[q + 1]? = some y) (h : lessD x y = false) : ¬ RiseP l d vv := fun hh => by
  have := pairwise_next hh.1 hx hy
  unfold ltD at this
  rw [h] at this
  cases this
set_option maxRecDepth 100000 in
set_option maxHeartbeats 8000000 in
theorem rising_any (la : Option Addr) (lc : Nat) (l : List Dt) (r0 i0 s0 : Int) (qa : Option Addr) (qn qc : Nat) (va : Option Addr) (vv : List Dt) (vc : Nat) (t k : Int) (pa : Option Addr) (pn pc : Nat) (n : Int) (x0 : ByteArray) (da : Option Addr) (dn dc : Nat) (w : World)
    (hl : Vec w la lc l) (hv : Vec w va vc vv) (ol : okV l) (ov : okV vv) (hn : l.length ≤ 1000000) (hm : vv.length ≤ 1000000) :
    Calls Tryz.prog 135 #[.slice la l.length lc, .agg (ccells r0 i0 s0 qa qn qc va vv.length vc t k pa pn pc n x0 da dn dc)] w (IsTo w (RiseP l ((r0, i0), s0) vv)) := by
  have Hl := Lib.hid hl
  have Hv := Lib.hid hv
  clear hl hv
  go_enter Tryz.func135, Tryz.ntmps135
  go_wp2_with fail
  go_loopw [9] (fun j wr => JRi l w (ccells r0 i0 s0 qa qn qc va vv.length vc t k pa pn pc n x0 da dn dc) ((r0, i0), s0) vv j wr) (fun j _ => l.length - (intOf j).toNat)
  case atStart => exact ⟨0, Nat.zero_le _, rfl, CmE.of (Below.refl _ _), upTo.zero, by simp⟩
  case round =>
    obtain ⟨q, hq, rfl, hE, hup, hall⟩ := hrel
    have Hall := Lib.hid hall
    have Hup := Lib.hid hup
    have E := Lib.hid hE
    have d0 := cells_at E.out.blk
    have z0 := heap_lt E.out.blk
    simp only [ccells] at d0
    clear hE hall hup
    by_cases hlt : q < l.length
    · obtain ⟨⟨⟨r, i⟩, s⟩, hx2⟩ : ∃ x, l[q]? = some x := ⟨l[q], by simp [hlt]⟩
      obtain ⟨ad, had, c0, c1, c2, hl0⟩ := (Hl.out.below E.out.bel).at hx2
      have hokx : okD ((r, i), s) := ol _ (List.mem_of_getElem? hx2)
      have Hok := Lib.hid hokx.1
      subst had
      dsimp only at c0 c1 c2
      have Hx := Lib.hid hx2
      clear hx2 hokx
      have key : ∀ (W : World), Below w.heap.size w W → Calls Tryz.prog 82 #[.slice va vv.length vc, .agg #[.int .u8 r, .int .u32 i, .int .u64 s]] W fun e w' => e = .returned (.bool (hasV vv ((r, i), s))) ∧ Below W.heap.size W w' :=
        fun W hW => has_any va vc vv r i s W (Hv.out.below hW) hm ov Hok.out
      have Key := Lib.hid key
      clear key
      cases q with
      | zero =>
        have ez : ad.add (0 * 3) = ad := by simp [Addr.add]
        rw [ez] at c0 c1 c2
        clear ez
        cases he : eqD ((r, i), s) ((r0, i0), s0) with
        | true =>
          have Hn := Lib.hid (show ¬ RiseP l ((r0, i0), s0) vv from not_rise Hx.out (fun h => h.1 ((eqD_iff _ _).1 he)))
          go_wp2_with fail
          refine region_text [([0, 1, 2, 3, 4, 5, 6, 7, 8, 9, 10, 11, 12, 13, 14, 15, 16, 17, 18, 19, 20, 21, 22, 23, 24], false)] mixed (by kernel_rfl) ?_
          simp only [wpSegs, List.map_cons, List.map_nil, List.getD_cons_succ, List.getD_cons_zero]
          go_wp2_with fail
          refine And.intro (by kernel_rfl) ?_
          go_wp2_with fail
          go_ret
          exact no_name Hn.out (below2 E.out.bel (((Below.refl _ _).alloc (Nat.le_refl _) _).drew) E.out.bel.size)
        | false =>
          have He := Lib.hid (show ((r, i), s) ≠ ((r0, i0), s0) from fun h => by rw [(eqD_iff _ _).2 h] at he; cases he)
          go_wp2_with fail
          refine region_text [([0, 1, 2, 3, 4, 5, 6, 7, 8, 9, 10, 11, 12, 13, 14, 15, 16, 17, 18, 19, 20, 21, 22, 23, 24], false)] mixed (by kernel_rfl) ?_
          simp only [wpSegs, List.map_cons, List.map_nil, List.getD_cons_succ, List.getD_cons_zero]
          go_wp2_with fail
          refine (Key.out _ (below2 E.out.bel (((Below.refl _ _).alloc (Nat.le_refl _) _).drew) E.out.bel.size)).mono ?_
          rintro e w1 ⟨rfl, hb1⟩
          obtain ⟨hx0, hz1, hB1⟩ := new1 (((Below.refl _ _).drew).trans hb1)
          replace E := Lib.hid (E.out.step hB1)
          clear hb1 hx0 c0 c1 c2 d0
          cases hh : hasV vv ((r, i), s) with
          | false =>
            have Hn := Lib.hid (show ¬ RiseP l ((r0, i0), s0) vv from not_rise Hx.out (fun h => by rw [hh] at h; cases h.2))
            go_wp2_with fail
            refine And.intro (by kernel_rfl) ?_
            go_wp2_with fail
            go_ret
            exact no_name Hn.out E.out.bel
          | true =>
            have Hh := Lib.hid hh
            go_wp2_with fail
            refine And.intro (by kernel_rfl) ?_
            go_wp2_with fail
            go_roundw
            case rel => exact ⟨1, by omega, by go_num, E.out, upTo.one, all_snoc Hx.out Hall.out ⟨He.out, Hh.out⟩⟩
            case measure => simp [intOf]; omega
      | succ m =>
        obtain ⟨⟨⟨r', i'⟩, s'⟩, hy⟩ : ∃ x, l[m]? = some x := ⟨l[m], by simp [show m < l.length by omega]⟩
        obtain ⟨ae, hae, p0, p1, p2, hl2⟩ := (Hl.out.below E.out.bel).at hy
        cases hae
        dsimp only at p0 p1 p2
        have Hy := Lib.hid hy
        have hlp : (ad.add (m * 3)).block < wr.heap.size := by rw [add_block]; exact hl2
        clear hy
        go_wp2_with fail
        refine region_text [([0, 1, 2, 3, 4, 5, 6, 7, 8, 9, 10, 11, 12, 13, 14, 15, 16, 17, 18, 19, 20, 21, 22, 23, 24], false)] mixed (by kernel_rfl) ?_
        simp only [wpSegs, List.map_cons, List.map_nil, List.getD_cons_succ, List.getD_cons_zero]
        go_wp2_with fail
        refine (compareD_any r' i' s' r i s _).mono ?_
        rintro e w1 ⟨rfl, hg⟩
        obtain ⟨hx0, hz1, hB1⟩ := new1 (((Below.refl _ _).drew).trans hg.below)
        replace E := Lib.hid (E.out.step hB1)
        have g0 := cells_at hx0
        have Hx0 := Lib.hid hx0
        clear hg hx0 c0 c1 c2 p0 p1 p2 d0 z0
        have d0 := cells_at E.out.blk
        have z0 := heap_lt E.out.blk
        simp only [ccells] at d0
        have hc := cmpDD_less ((r', i'), s') ((r, i), s)
        cases ha : lessD ((r', i'), s') ((r, i), s) with
        | false =>
          have Hn := Lib.hid (show ¬ RiseP l ((r0, i0), s0) vv from not_rise2 Hy.out Hx.out ha)
          rw [ha] at hc
          clear ha
          go_wp2_with fail
          refine And.intro (by kernel_rfl) ?_
          go_wp2_with fail
          go_ret
          exact no_name Hn.out E.out.bel
        | true =>
          have Ha := Lib.hid ha
          rw [ha] at hc
          clear ha
          cases he : eqD ((r, i), s) ((r0, i0), s0) with
          | true =>
            have Hn := Lib.hid (show ¬ RiseP l ((r0, i0), s0) vv from not_rise Hx.out (fun h => h.1 ((eqD_iff _ _).1 he)))
            go_wp2_with fail
            refine And.intro (by kernel_rfl) ?_
            go_wp2_with fail
            go_ret
            exact no_name Hn.out E.out.bel
          | false =>
            have He := Lib.hid (show ((r, i), s) ≠ ((r0, i0), s0) from fun h => by rw [(eqD_iff _ _).2 h] at he; cases he)
            go_wp2_with fail
            refine (Key.out _ E.out.bel).mono ?_
            rintro e w2 ⟨rfl, hb2⟩
            replace E := Lib.hid (E.out.step hb2)
            clear hb2 d0 g0
            cases hh : hasV vv ((r, i), s) with
            | false =>
              have Hn := Lib.hid (show ¬ RiseP l ((r0, i0), s0) vv from not_rise Hx.out (fun h => by rw [hh] at h; cases h.2))
              go_wp2_with fail
              refine And.intro (by kernel_rfl) ?_
              go_wp2_with fail
              go_ret
              exact no_name Hn.out E.out.bel
            | true =>
              have Hh := Lib.hid hh
              go_wp2_with fail
              refine And.intro (by kernel_rfl) ?_
              go_wp2_with fail
              go_roundw
              case rel => exact ⟨m + 2, by omega, by go_num, E.out, Hup.out.succ Hy.out Hx.out Ha.out, all_snoc Hx.out Hall.out ⟨He.out, Hh.out⟩⟩
              case measure => simp [intOf]; omega
    · have hall := Hall.out
      rw [List.take_of_length_le (by omega)] at hall
      have HA := Lib.hid (show RiseP l ((r0, i0), s0) vv from ⟨upTo.all (lt := ltD) (fun h1 h2 => ltD_trans h1 h2) Hup.out (by omega), hall⟩)
      clear hall
      go_wp2_with fail
      go_ret
      exact yes_name HA.out E.out.bel
end Go.Proofs.YthdmoplclllhjaaGreat
