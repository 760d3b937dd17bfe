/- leaf.items, leaf.tombs: contracts. -/
import Derived.Test.YtmabjghjkgicgaaLeafC
namespace Go.Proofs.Ytmabjghjkgicgaa
open Go.RowKit
set_option linter.unusedVariables false
set_option linter.unusedSimpArgs false

theorem isT_iff (n : Int) : isT n = true ↔ 1 ≤ n ∧ n ≤ 1099511627776 := by simp [isT]
/-- the first k follow one another -/
def upTo {α : Type} (lt : α → α → Prop) (l : List α) (k : Nat) : Prop := ∀ i x y, i + 1 < k → l[i]? = some x → l[i + 1]? = some y → lt x y
theorem upTo.zero {α : Type} {lt : α → α → Prop} {l : List α} : upTo lt l 0 := fun i x y h => by omega
theorem upTo.one {α : Type} {lt : α → α → Prop} {l : List α} : upTo lt l 1 := fun i x y h => by omega
theorem upTo.succ {α : Type} {lt : α → α → Prop} {l : List α} {k : Nat} (h : upTo lt l (k + 1)) {x y : α} (hx : l[k]? = some x) (hy : l[k + 1]? = some y) (hlt : lt x y) : upTo lt l (k + 2) := fun i a b hi ha hb => by
  by_cases e : i = k
  · subst e; rw [hx] at ha; rw [hy] at hb; cases ha; cases hb; exact hlt
  · exact h i a b (by omega) ha hb
theorem upTo.all {α : Type} {lt : α → α → Prop} (ht : ∀ {a b c}, lt a b → lt b c → lt a c) {l : List α} {k : Nat} (h : upTo lt l k) (hk : l.length ≤ k) : l.Pairwise lt :=
  chain_pairwise (lt := lt) (fun h1 h2 => ht h1 h2) fun i x y hx hy => h i x y (by have := (List.getElem?_eq_some_iff.1 hy).1; omega) hx hy
theorem all_snoc {α : Type} {p : α → Prop} {l : List α} {k : Nat} {x : α} (hx : l[k]? = some x) (h : ∀ y ∈ l.take k, p y) (hp : p x) : ∀ y ∈ l.take (k + 1), p y := by
  intro y hy
  rw [take_snoc' hx, List.mem_append, List.mem_singleton] at hy
  rcases hy with hy | rfl
  · exact h y hy
  · exact hp
theorem bad_item {timed : Bool} {l : List It} {k : Nat} {x : It} (hx : l[k]? = some x) (h : ¬ OkItem timed x) : ¬ MayItems timed l := fun hm => h (hm.1 x (List.mem_of_getElem? hx))
theorem bad_pair {timed : Bool} {l : List It} {k : Nat} {x y : It} (hx : l[k]? = some x) (hy : l[k + 1]? = some y) (h : aheadT x.t x.d y.t y.d = false) : ¬ MayItems timed l := fun hm => by
  have := pairwise_next hm.2.1 hx hy
  unfold ltI at this
  rw [h] at this
  cases this
theorem false_iff' {p : Prop} (h : ¬ p) : (false = true ↔ p) := ⟨fun e => (by cases e), fun e => absurd e h⟩
theorem true_iff' {p : Prop} (h : p) : (true = true ↔ p) := ⟨fun _ => h, fun _ => rfl⟩
theorem below2 {w w1 w2 : World} {B : Nat} (h : Below B w w1) (k : Below w1.heap.size w1 w2) (hs : B ≤ w1.heap.size) : Below B w w2 := h.trans (k.mono hs)
set_option maxRecDepth 100000 in
set_option maxHeartbeats 4000000 in
theorem items_any (a : Option Addr) (c : Nat) (l : List It) (timed : Bool) (w : World) (hv : Its w a c l) (hok : okV (dotsOf l)) (hn : l.length ≤ 1000000) :
    Calls Try.prog 52 #[.slice a l.length c, .bool timed] w fun e w' => ∃ q : Bool, e = .returned (.bool q) ∧ (q = true ↔ MayItems timed l) ∧ Below w.heap.size w w' := by
  have Hv := Lib.hid hv
  clear hv
  go_enter Try.func52, Try.ntmps52
  go_wp2_with fail
  go_loopw [9] (fun j wr => ∃ k : Nat, k ≤ l.length ∧ j = .int .i64 k ∧ Hid ((∀ x ∈ l.take k, OkItem timed x) ∧ upTo ltI l k) ∧ Below w.heap.size w wr) (fun j _ => l.length - (intOf j).toNat)
  case atStart => exact ⟨0, Nat.zero_le _, rfl, Lib.hid ⟨by simp, upTo.zero⟩, Below.refl _ _⟩
  case round =>
    obtain ⟨k, hk, rfl, hi, hb⟩ := hrel
    have Hi := Lib.hid hi.out
    have Hb := Lib.hid hb
    have hs0 := hb.size
    clear hb hi
    by_cases hlt : k < l.length
    · obtain ⟨⟨t, ⟨⟨r, i⟩, s⟩, x⟩, hx⟩ : ∃ x, l[k]? = some x := ⟨l[k], by simp [hlt]⟩
      obtain ⟨ad, had, ⟨c0, c1, c2, c3, c4⟩, hl0⟩ := (Hv.out.below Hb.out).at hx
      subst had
      dsimp only at c0 c1 c2 c3 c4
      have Hx := Lib.hid hx
      clear hx
      go_wp2_with fail
      refine (may_any r i s _).mono ?_
      rintro e w1 ⟨rfl, hb1⟩
      obtain ⟨hx0, hz1, hB1⟩ := new1 hb1
      have d0 := cells_at hx0
      have Hx0 := Lib.hid hx0
      have HB1 := Lib.hid (below2 Hb.out hB1 hs0)
      clear hb1 hB1 hx0 c0 c1 c2 c3 c4
      cases hm : may ((r, i), s) with
      | false =>
        have He := Lib.hid (bad_item (timed := timed) Hx.out fun h => by have := h.1; rw [hm] at this; cases this)
        clear hm
        go_wp2_with fail
        go_ret
        exact ⟨false, rfl, false_iff' He.out, HB1.out⟩
      | true =>
        have Hm := Lib.hid hm
        clear hm
        go_wp2_with fail
        refine (isText_any x _).mono ?_
        rintro e w2 ⟨rfl, hb2⟩
        have hx0 := (hb2.block _ (heap_lt Hx0.out)).trans Hx0.out
        have d0 := cells_at hx0
        have HB2 := Lib.hid (below2 HB1.out hb2 HB1.out.size)
        have Hx2 := Lib.hid hx0
        have hz2 : wr.heap.size + 1 ≤ w2.heap.size := by have := hb2.size; omega
        clear hb2 hx0 Hx0 HB1 d0
        have d0 := cells_at Hx2.out
        by_cases hsz : x.size ≤ 40
        · have hsz' : decide (x.size ≤ 40) = true := by simpa using hsz
          have Hsz := Lib.hid hsz
          rw [hsz']
          clear hsz hsz'
          go_wp2_with fail
          refine (isTime_any t _).mono ?_
          rintro e w3 ⟨rfl, hb3⟩
          have hx0 := (hb3.block _ (heap_lt Hx2.out)).trans Hx2.out
          have HB3 := Lib.hid (below2 HB2.out hb3 HB2.out.size)
          have hz3 : wr.heap.size + 1 ≤ w3.heap.size := by have := hb3.size; omega
          clear d0 Hx2 HB2 hb3
          have d0 := cells_at hx0
          clear hx0
          cases timed with
          | true =>
            cases hT : isT t with
            | false =>
              have He := Lib.hid (bad_item (timed := true) Hx.out fun h => by have := (isT_iff t).2 (h.2.2.1 rfl); rw [hT] at this; cases this)
              clear hT
              go_wp2_with fail
              go_ret
              exact ⟨false, rfl, false_iff' He.out, HB3.out⟩
            | true =>
              have Hok := Lib.hid (show OkItem true ⟨t, ((r, i), s), x⟩ from ⟨Hm.out, Hsz.out, fun _ => (isT_iff t).1 hT, fun h => by cases h⟩)
              clear hT
              have hl3 : Hid (ad.block < w3.heap.size) := Lib.hid (by omega)
              cases k with
              | zero =>
                go_wp2_with fail
                refine region_text [([0, 1, 2, 3, 4, 5, 6, 7, 8, 9, 10, 11, 12, 13, 14, 15, 16, 17, 18, 19, 20, 21], false)] mixed (by kernel_rfl) ?_
                simp only [wpSegs, List.map_cons, List.map_nil, List.getD_cons_succ, List.getD_cons_zero]
                go_wp2_with fail
                refine And.intro (by kernel_rfl) ?_
                go_wp2_with fail
                go_roundw
                case rel => exact ⟨1, by omega, by go_num, Lib.hid ⟨all_snoc Hx.out Hi.out.1 Hok.out, upTo.one⟩, below_drewN HB3.out _⟩
                case measure => simp [intOf]; omega
              | succ m =>
                obtain ⟨⟨t', ⟨⟨r', i'⟩, s'⟩, x'⟩, hy⟩ : ∃ x, l[m]? = some x := ⟨l[m], by simp [show m < l.length by omega]⟩
                obtain ⟨ae, hae, ⟨g0, g1, g2, g3, g4⟩, hl1⟩ := (Hv.out.below HB3.out).at hy
                cases hae
                dsimp only at g0 g1 g2 g3 g4
                have Hy := Lib.hid hy
                clear hy
                go_wp2_with fail
                refine region_text [([0, 1, 2, 3, 4, 5, 6, 7, 8, 9, 10, 11, 12, 13, 14, 15, 16, 17, 18, 19, 20, 21], false)] mixed (by kernel_rfl) ?_
                simp only [wpSegs, List.map_cons, List.map_nil, List.getD_cons_succ, List.getD_cons_zero]
                go_wp2_with fail
                refine (ahead_any t' ((r', i'), s') t ((r, i), s) _).mono ?_
                rintro e w4 ⟨rfl, hb4⟩
                have HB4 := Lib.hid (below2 HB3.out (((Below.refl _ w3).drew).trans hb4) HB3.out.size)
                clear hb4
                cases ha : aheadT t' ((r', i'), s') t ((r, i), s) with
                | false =>
                  have He := Lib.hid (bad_pair (timed := true) Hy.out Hx.out ha)
                  clear ha
                  go_wp2_with fail
                  refine And.intro (by kernel_rfl) ?_
                  go_wp2_with fail
                  go_ret
                  exact ⟨false, rfl, false_iff' He.out, HB4.out⟩
                | true =>
                  have Ha := Lib.hid ha
                  clear ha
                  go_wp2_with fail
                  refine And.intro (by kernel_rfl) ?_
                  go_wp2_with fail
                  go_roundw
                  case rel => exact ⟨m + 2, by omega, by go_num, Lib.hid ⟨all_snoc Hx.out Hi.out.1 Hok.out, Hi.out.2.succ Hy.out Hx.out Ha.out⟩, HB4.out⟩
                  case measure => simp [intOf]; omega
          | false =>
            cases hT : isT t with
            | true =>
              have He := Lib.hid (bad_item (timed := false) Hx.out fun h => by have h1 := (isT_iff t).1 hT; have h2 := h.2.2.2 rfl; dsimp only at h2; omega)
              clear hT
              go_wp2_with fail
              go_ret
              exact ⟨false, rfl, false_iff' He.out, HB3.out⟩
            | false =>
              by_cases ht0 : t = 0
              · subst ht0
                have Hok := Lib.hid (show OkItem false ⟨0, ((r, i), s), x⟩ from ⟨Hm.out, Hsz.out, fun h => (by cases h), fun _ => rfl⟩)
                clear hT
                have hl3 : Hid (ad.block < w3.heap.size) := Lib.hid (by omega)
                cases k with
                | zero =>
                  go_wp2_with fail
                  refine region_text [([0, 1, 2, 3, 4, 5, 6, 7, 8, 9, 10, 11, 12, 13, 14, 15, 16, 17, 18, 19, 20, 21], false)] mixed (by kernel_rfl) ?_
                  simp only [wpSegs, List.map_cons, List.map_nil, List.getD_cons_succ, List.getD_cons_zero]
                  go_wp2_with fail
                  refine And.intro (by kernel_rfl) ?_
                  go_wp2_with fail
                  go_roundw
                  case rel => exact ⟨1, by omega, by go_num, Lib.hid ⟨all_snoc Hx.out Hi.out.1 Hok.out, upTo.one⟩, below_drewN HB3.out _⟩
                  case measure => simp [intOf]; omega
                | succ m =>
                  obtain ⟨⟨t', ⟨⟨r', i'⟩, s'⟩, x'⟩, hy⟩ : ∃ x, l[m]? = some x := ⟨l[m], by simp [show m < l.length by omega]⟩
                  obtain ⟨ae, hae, ⟨g0, g1, g2, g3, g4⟩, hl1⟩ := (Hv.out.below HB3.out).at hy
                  cases hae
                  dsimp only at g0 g1 g2 g3 g4
                  have Hy := Lib.hid hy
                  clear hy
                  go_wp2_with fail
                  refine region_text [([0, 1, 2, 3, 4, 5, 6, 7, 8, 9, 10, 11, 12, 13, 14, 15, 16, 17, 18, 19, 20, 21], false)] mixed (by kernel_rfl) ?_
                  simp only [wpSegs, List.map_cons, List.map_nil, List.getD_cons_succ, List.getD_cons_zero]
                  go_wp2_with fail
                  refine (ahead_any t' ((r', i'), s') 0 ((r, i), s) _).mono ?_
                  rintro e w4 ⟨rfl, hb4⟩
                  have HB4 := Lib.hid (below2 HB3.out (((Below.refl _ w3).drew).trans hb4) HB3.out.size)
                  clear hb4
                  cases ha : aheadT t' ((r', i'), s') 0 ((r, i), s) with
                  | false =>
                    have He := Lib.hid (bad_pair (timed := false) Hy.out Hx.out ha)
                    clear ha
                    go_wp2_with fail
                    refine And.intro (by kernel_rfl) ?_
                    go_wp2_with fail
                    go_ret
                    exact ⟨false, rfl, false_iff' He.out, HB4.out⟩
                  | true =>
                    have Ha := Lib.hid ha
                    clear ha
                    go_wp2_with fail
                    refine And.intro (by kernel_rfl) ?_
                    go_wp2_with fail
                    go_roundw
                    case rel => exact ⟨m + 2, by omega, by go_num, Lib.hid ⟨all_snoc Hx.out Hi.out.1 Hok.out, Hi.out.2.succ Hy.out Hx.out Ha.out⟩, HB4.out⟩
                    case measure => simp [intOf]; omega
              · have ht0' : (t == 0) = false := by simpa using ht0
                have He := Lib.hid (bad_item (timed := false) Hx.out fun h => ht0 (h.2.2.2 rfl))
                clear ht0
                go_wp2_with fail
                go_ret
                exact ⟨false, rfl, false_iff' He.out, HB3.out⟩
        · have hsz' : decide (x.size ≤ 40) = false := by simpa using hsz
          have He := Lib.hid (bad_item (timed := timed) Hx.out fun h => hsz h.2.1)
          rw [hsz']
          clear hsz hsz'
          go_wp2_with fail
          go_ret
          exact ⟨false, rfl, false_iff' He.out, HB2.out⟩
    · have hall := Hi.out.1
      rw [List.take_of_length_le (by omega)] at hall
      have Hall := Lib.hid hall
      have Hup := Lib.hid (upTo.all (lt := ltI) (fun h1 h2 => ltI_trans h1 h2) Hi.out.2 (by omega))
      clear hall
      go_wp2_with fail
      refine (twice_any a c l _ (Hv.out.below Hb.out) hok hn).mono ?_
      rintro e w1 ⟨q, rfl, hq, hb1⟩
      have HB1 := Lib.hid (below2 Hb.out hb1 hs0)
      have Hq := Lib.hid hq
      clear hb1 hq
      go_wp2_with fail
      go_ret
      refine ⟨!q, rfl, ?_, HB1.out⟩
      cases q with
      | false => exact true_iff' ⟨Hall.out, Hup.out, Decidable.not_not.1 (fun h => by have := Hq.out.2 h; cases this)⟩
      | true => exact false_iff' fun h => Hq.out.1 (by rfl) h.2.2
end Go.Proofs.Ytmabjghjkgicgaa
