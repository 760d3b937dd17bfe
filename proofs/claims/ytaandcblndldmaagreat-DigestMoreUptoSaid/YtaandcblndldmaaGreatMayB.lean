/- varveref04.May, exact. -/
import Derived.Test.YtaandcblndldmaaGreatEvA
import Derived.Test.YtaandcblndldmaaGreatRefLA
namespace Go.Proofs.YtaandcblndldmaaGreat
open Go.RowKit
set_option linter.unusedVariables false
set_option linter.unusedSimpArgs false

/-- an operation that may be -/
structure OpP (k n : Int) (x : ByteArray) (p : List ByteArray) (ds : List Dt) : Prop where
  kind : typeOf k ≠ 0
  path : PathP p
  text : x.size ≤ 40
  few : ds.length ≤ 64
  add : k = 1 → -1000000 ≤ n ∧ n ≤ 1000000 ∧ x.size = 0 ∧ ds = []
  rest : k ≠ 1 → n = 0 ∧ (k ≠ 4 → ds = []) ∧ AllT ds
def JOpX (n : Nat) (w : World) (C : Array Value) (ds : List Dt) (j : Value) (wr : World) : Prop := ∃ q : Nat, q ≤ n ∧ j = .int .i64 q ∧ OpE w wr C ∧ (∀ d ∈ ds.take q, may d = true) ∧ upTo ltD ds q
set_option maxRecDepth 100000 in
set_option maxHeartbeats 8000000 in
theorem mayOpX_any (k n : Int) (x : ByteArray) (pa : Option Addr) (pl : List ByteArray) (pc : Nat) (da : Option Addr) (ds : List Dt) (dc : Nat) (w : World) (hp : Strs w pa pc pl) (hv : Vec w da dc ds) :
    Calls Tryz.prog 150 #[.agg #[.int .u8 k, .slice pa pl.length pc, .int .i64 n, .string x, .slice da ds.length dc]] w (IsTo w (OpP k n x pl ds)) := by
  have Hp := Lib.hid hp
  have Hv := Lib.hid hv
  clear hp hv
  go_enter Tryz.func150, Tryz.ntmps150
  go_wp2_with fail
  refine (type_any k _).mono ?_
  rintro e w1 ⟨rfl, hb1⟩
  have E : Hid (OpE w w1 (ocells k n x pa pl.length pc da ds.length dc)) := Lib.hid (OpE.of hb1)
  have d0 := cells_at E.out.blk
  simp only [ocells] at d0
  clear hb1
  by_cases ht : typeOf k = 0
  · have Ht := Lib.hid ht
    rw [ht]
    clear ht
    go_wp2_with fail
    go_ret
    exact no_name (fun h => h.kind Ht.out) E.out.bel
  · have e0 : (typeOf k == 0) = false := by simpa using ht
    have Ht := Lib.hid ht
    clear ht
    go_wp2_with fail
    refine (mayPathX_any pa pc pl _ (Hp.out.below E.out.bel)).mono ?_
    intro e w2 hto
    obtain ⟨z, rfl, hz, hb⟩ := hto
    replace E := Lib.hid (E.out.step hb)
    have Hz := Lib.hid hz
    clear hb hz d0
    have d0 := cells_at E.out.blk
    simp only [ocells] at d0
    cases z with
    | false =>
      go_wp2_with fail
      go_ret
      exact no_name (fun h => by have := Hz.out.2 h.path; cases this) E.out.bel
    | true =>
      have Hpt := Lib.hid (Hz.out.1 (by simp))
      by_cases hx : 40 < x.size
      · have Hn := Lib.hid (show ¬ OpP k n x pl ds from fun h => by have := h.text; omega)
        go_wp2_with fail
        all_goals (go_ret; exact no_name Hn.out E.out.bel)
      · by_cases hd : 64 < ds.length
        · have Hn := Lib.hid (show ¬ OpP k n x pl ds from fun h => by have := h.few; omega)
          go_wp2_with fail
          all_goals (go_ret; exact no_name Hn.out E.out.bel)
        · have Hsz := Lib.hid (show x.size ≤ 40 by omega)
          have Hd64 := Lib.hid (show ds.length ≤ 64 by omega)
          by_cases hk1 : k = 1
          · subst hk1
            by_cases n1 : -1000000 ≤ n
            · by_cases n2 : n ≤ 1000000
              · by_cases hx0 : x.size = 0
                · have hxl : x.toList = [] := toList_nil.2 hx0
                  by_cases h0 : ds.length = 0
                  · obtain rfl : ds = [] := List.length_eq_zero_iff.1 h0
                    simp only [List.length_nil] at d0
                    have Hy := Lib.hid (show OpP 1 n x pl [] from ⟨Ht.out, Hpt.out, Hsz.out, Hd64.out, fun _ => ⟨n1, n2, hx0, rfl⟩, fun h => absurd rfl h⟩)
                    clear h0 hd
                    go_wp2_with fail
                    all_goals (go_ret; exact yes_name Hy.out E.out.bel)
                  · have Hn := Lib.hid (show ¬ OpP 1 n x pl ds from fun h => by have := (h.add rfl).2.2.2; exact h0 (by rw [this]; rfl))
                    have e6 : ((ds.length : Int) == 0) = false := by rw [beq_eq_false_iff_ne]; omega
                    go_wp2_with fail
                    all_goals (go_ret; exact no_name Hn.out E.out.bel)
                · have hxl : ¬ x.toList = [] := fun h => hx0 (toList_nil.1 h)
                  have Hn := Lib.hid (show ¬ OpP 1 n x pl ds from fun h => hx0 (h.add rfl).2.2.1)
                  go_wp2_with fail
                  all_goals (go_ret; exact no_name Hn.out E.out.bel)
              · have Hn := Lib.hid (show ¬ OpP 1 n x pl ds from fun h => n2 (h.add rfl).2.1)
                go_wp2_with fail
                all_goals (go_ret; exact no_name Hn.out E.out.bel)
            · have Hn := Lib.hid (show ¬ OpP 1 n x pl ds from fun h => n1 (h.add rfl).1)
              go_wp2_with fail
              all_goals (go_ret; exact no_name Hn.out E.out.bel)
          · have e1 : (k == 1) = false := by simpa using hk1
            have H1 := Lib.hid hk1
            clear hk1
            by_cases hn : n = 0
            · subst hn
              by_cases h4 : k = 4
              · subst h4
                go_wp2_with fail
                go_loopw [3] (fun j wr => JOpX ds.length w (ocells 4 0 x pa pl.length pc da ds.length dc) ds j wr) (fun j _ => ds.length - (intOf j).toNat)
                case atStart => exact ⟨0, Nat.zero_le _, rfl, E.out, by simp, upTo.zero⟩
                case round =>
                  clear E d0
                  obtain ⟨q, hq, rfl, hE, hall, hup⟩ := hrel
                  have Hall := Lib.hid hall
                  have Hup := Lib.hid hup
                  have E := Lib.hid hE
                  have d0 := cells_at E.out.blk
                  simp only [ocells] at d0
                  clear hE hall hup
                  by_cases hlt : q < ds.length
                  · obtain ⟨⟨⟨r, i⟩, s⟩, hx2⟩ : ∃ x, ds[q]? = some x := ⟨ds[q], by simp [hlt]⟩
                    obtain ⟨ad, had, c0, c1, c2, hl0⟩ := (Hv.out.below E.out.bel).at hx2
                    subst had
                    dsimp only at c0 c1 c2
                    have Hx := Lib.hid hx2
                    clear hx2
                    go_wp2_with fail
                    refine region_text [([0, 1, 2, 3, 4, 5, 6, 7, 8, 9, 10, 11, 12, 13, 14, 15, 16, 17, 18, 19, 20, 21, 22, 23, 24, 25], false)] mixed (by kernel_rfl) ?_
                    simp only [wpSegs, List.map_cons, List.map_nil, List.getD_cons_succ, List.getD_cons_zero]
                    go_wp2_with fail
                    refine (rmay_any r i s _).mono ?_
                    rintro e w3 ⟨rfl, hb1⟩
                    have hb := ((Below.refl _ _).drew).trans hb1
                    replace E := Lib.hid (E.out.step hb)
                    have hzs := hb.size
                    have hl1 : ad.block < w3.heap.size := by omega
                    clear hb1 hb c0 c1 c2 d0
                    obtain ⟨ad', had, c0, c1, c2, hl0'⟩ := (Hv.out.below E.out.bel).at Hx.out
                    cases had
                    dsimp only at c0 c1 c2
                    have d0 := cells_at E.out.blk
                    simp only [ocells] at d0
                    cases hm' : may ((r, i), s) with
                    | false =>
                      have Hm := Lib.hid hm'
                      clear hm'
                      go_wp2_with fail
                      refine And.intro (by kernel_rfl) ?_
                      go_wp2_with fail
                      go_ret
                      exact no_name (fun h => bad_t Hx.out Hm.out (h.rest H1.out).2.2) E.out.bel
                    | true =>
                      have Hm := Lib.hid hm'
                      clear hm'
                      cases q with
                      | zero =>
                        go_wp2_with fail
                        refine And.intro (by kernel_rfl) ?_
                        go_wp2_with fail
                        go_roundw
                        case rel => exact ⟨1, by omega, by go_num, E.out, all_snoc Hx.out Hall.out Hm.out, upTo.one⟩
                        case measure => simp [intOf]; omega
                      | succ m =>
                        obtain ⟨⟨⟨r', i'⟩, s'⟩, hy⟩ : ∃ x, ds[m]? = some x := ⟨ds[m], by simp [show m < ds.length by omega]⟩
                        obtain ⟨ae, hae, p0, p1, p2, hl2⟩ := (Hv.out.below E.out.bel).at hy
                        cases hae
                        dsimp only at p0 p1 p2
                        have Hy := Lib.hid hy
                        clear hy
                        go_wp2_with fail
                        refine (rless_any r' i' s' r i s _).mono ?_
                        rintro e w4 ⟨rfl, hb⟩
                        replace E := Lib.hid (E.out.step hb)
                        clear hb d0
                        cases ha : lessD ((r', i'), s') ((r, i), s) with
                        | false =>
                          have Ha := Lib.hid ha
                          clear ha
                          go_wp2_with fail
                          refine And.intro (by kernel_rfl) ?_
                          go_wp2_with fail
                          go_ret
                          exact no_name (fun h => bad_tp Hy.out Hx.out Ha.out (h.rest H1.out).2.2) E.out.bel
                        | true =>
                          have Ha := Lib.hid ha
                          clear ha
                          go_wp2_with fail
                          refine And.intro (by kernel_rfl) ?_
                          go_wp2_with fail
                          go_roundw
                          case rel => exact ⟨m + 2, by omega, by go_num, E.out, all_snoc Hx.out Hall.out Hm.out, Hup.out.succ Hy.out Hx.out Ha.out⟩
                          case measure => simp [intOf]; omega
                  · have hall := Hall.out
                    rw [List.take_of_length_le (by omega)] at hall
                    have HA := Lib.hid (show AllT ds from ⟨hall, upTo.all (lt := ltD) (fun h1 h2 => ltD_trans h1 h2) Hup.out (by omega)⟩)
                    clear hall
                    go_wp2_with fail
                    go_ret
                    exact yes_name ⟨Ht.out, Hpt.out, Hsz.out, Hd64.out, fun h => absurd h H1.out, fun _ => ⟨rfl, fun h => absurd rfl h, HA.out⟩⟩ E.out.bel
              · have e4 : (k == 4) = false := by simpa using h4
                have e5 : (k != 4) = true := by simpa using h4
                have H4 := Lib.hid h4
                clear h4
                by_cases h0 : ds.length = 0
                · obtain rfl : ds = [] := List.length_eq_zero_iff.1 h0
                  clear h0 hd
                  simp only [List.length_nil] at d0
                  have Hy := Lib.hid (show OpP k 0 x pl [] from ⟨Ht.out, Hpt.out, Hsz.out, Hd64.out, fun h => absurd h H1.out, fun _ => ⟨rfl, fun _ => rfl, fun d hd => (by cases hd), .nil⟩⟩)
                  go_wp2_with fail
                  go_loopw [3] (fun j wr => j = .int .i64 0 ∧ wr = w2) (fun _ _ => 0)
                  case atStart => exact ⟨rfl, rfl⟩
                  case round =>
                    obtain ⟨rfl, rfl⟩ := hrel
                    go_wp2_with fail
                    go_ret
                    exact yes_name Hy.out E.out.bel
                · have e6 : decide (0 < (ds.length : Int)) = true := by simp; omega
                  have Hn := Lib.hid (show ¬ OpP k 0 x pl ds from fun h => h0 (by rw [(h.rest H1.out).2.1 H4.out]; rfl))
                  go_wp2_with fail
                  all_goals (go_ret; exact no_name Hn.out E.out.bel)
            · have e2 : (n != 0) = true := by simpa using hn
              have Hn := Lib.hid (show ¬ OpP k n x pl ds from fun h => hn (h.rest H1.out).1)
              go_wp2_with fail
              all_goals (go_ret; exact no_name Hn.out E.out.bel)
end Go.Proofs.YtaandcblndldmaaGreat
