/- varveref06.Merge: sets. -/
import Derived.Test.YtmabjghjkgicgaaRefMB
namespace Go.Proofs.Ytmabjghjkgicgaa
open Go.RowKit
set_option linter.unusedVariables false
set_option linter.unusedSimpArgs false


set_option maxRecDepth 100000 in
set_option maxHeartbeats 8000000 in
theorem rmerge_set (l a b : Lf) (la lt ia ta ja ua : Option Addr) (lc ld ic tc jc uc : Nat) (w : World) (hl : LfAt w l la lc lt ld) (ha : LfAt w a ia ic ta tc) (hb : LfAt w b ja jc ua uc) (hol : okL l) (hoa : okL a) (hob : okL b)
    (hall : AllMay l a b) (hk0 : l.k = 3) (hk1 : a.k = 3) (hk2 : b.k = 3) (hla : a.items.length ≤ 400000) (hlb : b.items.length ≤ 400000) (hta : a.tombs.length ≤ 400000) (htb : b.tombs.length ≤ 400000) :
    Calls Try.prog 18 #[lval l la lc lt ld, lval a ia ic ta tc, lval b ja jc ua uc] w (RMergeTo w l a b) := by
  obtain ⟨k'', n'', t'', ⟨⟨r'', i''⟩, s''⟩, x'', is'', ts''⟩ := l
  obtain ⟨k, n, t, ⟨⟨r, i⟩, s⟩, x, is, ts⟩ := a
  obtain ⟨k', n', t', ⟨⟨r', i'⟩, s'⟩, x', is', ts'⟩ := b
  dsimp only at hk0 hk1 hk2 hla hlb hta htb
  subst hk0 hk1 hk2
  have Hl := Lib.hid hl
  have Ha := Lib.hid ha
  have Hb := Lib.hid hb
  have Hol := Lib.hid hol
  have Hoa := Lib.hid hoa
  have Hob := Lib.hid hob
  have Hall := Lib.hid hall
  clear hl ha hb hol hoa hob hall
  simp only [lval]
  go_enter Try.func18, Try.ntmps18
  go_wp2_with fail
  refine (rmayLf_any ⟨3, n'', t'', ((r'', i''), s''), x'', is'', ts''⟩ la lt lc ld _ (Hl.out.below ?h1) Hol.out).mono ?_
  case h1 => exact ((((Below.refl _ _).alloc (Nat.le_refl _) _).alloc (by simp) _).alloc (by simp <;> omega) _).alloc (by simp <;> omega) _
  rintro e w1 ⟨q, rfl, hq, hb1⟩
  have E : Hid (MgE w w1 (lcells ⟨3, n'', t'', ((r'', i''), s''), x'', is'', ts''⟩ la lc lt ld) (lcells ⟨3, n, t, ((r, i), s), x, is, ts⟩ ia ic ta tc) (lcells ⟨3, n', t', ((r', i'), s'), x', is', ts'⟩ ja jc ua uc) zcells) := Lib.hid (MgE.of hb1)
  clear hb1
  have Hql := Lib.hid hq
  clear hq
  have d0 := cells_at E.out.b0
  have d1 := cells_at E.out.b1
  have d2 := cells_at E.out.b2
  have d3 := cells_at E.out.b3
  have g3 := free_at E.out.b3
  simp only [lcells, zcells] at d0 d1 d2 d3
  cases q with
  | false => exact absurd (Hql.out.2 Hall.out.1) (by simp)
  | true =>
    go_wp2_with fail
    refine (rmayLf_any ⟨3, n, t, ((r, i), s), x, is, ts⟩ ia ta ic tc _ (Ha.out.below E.out.bel) Hoa.out).mono ?_
    rintro e w2 ⟨q, rfl, hq, hb1⟩
    replace E := Lib.hid (E.out.step hb1)
    clear hb1 d0 d1 d2 d3 g3
    have Hqa := Lib.hid hq
    clear hq
    have d0 := cells_at E.out.b0
    have d1 := cells_at E.out.b1
    have d2 := cells_at E.out.b2
    have d3 := cells_at E.out.b3
    have g3 := free_at E.out.b3
    simp only [lcells, zcells] at d0 d1 d2 d3
    cases q with
    | false => exact absurd (Hqa.out.2 Hall.out.2.1) (by simp)
    | true =>
      go_wp2_with fail
      refine (rmayLf_any ⟨3, n', t', ((r', i'), s'), x', is', ts'⟩ ja ua jc uc _ (Hb.out.below E.out.bel) Hob.out).mono ?_
      rintro e w3 ⟨q, rfl, hq, hb1⟩
      replace E := Lib.hid (E.out.step hb1)
      clear hb1 d0 d1 d2 d3 g3
      have Hqb := Lib.hid hq
      clear hq
      have d0 := cells_at E.out.b0
      have d1 := cells_at E.out.b1
      have d2 := cells_at E.out.b2
      have d3 := cells_at E.out.b3
      have g3 := free_at E.out.b3
      simp only [lcells, zcells] at d0 d1 d2 d3
      cases q with
      | false => exact absurd (Hqb.out.2 Hall.out.2.2) (by simp)
      | true =>
        have hsE := E.out.sz
        have hsE0 : w.heap.size < w3.heap.size := by omega
        have hsE1 : w.heap.size + 1 < w3.heap.size := by omega
        have hsE2 : w.heap.size + 2 < w3.heap.size := by omega
        have hsE3 : w.heap.size + 3 < w3.heap.size := by omega
        clear Hql Hqa Hqb
        have O : Hid (OutE w3 (w3.alloc (.cells #[.int .u8 3, .int .i64 0, .int .u64 0, .int .u8 0, .int .u32 0, .int .u64 0, .string ⟨#[]⟩, .slice none 0 0, .slice none 0 0] 40)) 3 none 0 []) := Lib.hid ⟨heap_new _ _, Sl.nil _ 3, fun q hq => by simp [ob] at hq, (Below.refl _ _).alloc (Nat.le_refl _) _⟩
        have EO := Lib.hid (E.out.step ((Below.refl _ _).alloc (Nat.le_refl _) (.cells #[.int .u8 3, .int .i64 0, .int .u64 0, .int .u8 0, .int .u32 0, .int .u64 0, .string ⟨#[]⟩, .slice none 0 0, .slice none 0 0] 40)))
        go_wp2_with fail
        go_loopw [10] (fun j wr => ∃ (q : Nat) (va : Option Addr) (vc : Nat) (v : List Dt), q ≤ ts.length ∧ j = .int .i64 q ∧ Hid (v = buryAll ([]) (ts.take q)) ∧ Hid (OutE w3 wr 3 va vc v) ∧ Hid (MgE w wr (lcells ⟨3, n'', t'', ((r'', i''), s''), x'', is'', ts''⟩ la lc lt ld) (lcells ⟨3, n, t, ((r, i), s), x, is, ts⟩ ia ic ta tc) (lcells ⟨3, n', t', ((r', i'), s'), x', is', ts'⟩ ja jc ua uc) zcells)) (fun j _ => ts.length - (intOf j).toNat)
        case atStart => exact ⟨0, none, 0, [], Nat.zero_le _, rfl, Lib.hid (by simp [buryAll]), O, EO⟩
        case round =>
          clear E d0 d1 d2 d3 g3 O EO
          obtain ⟨q, va, vc, v, hq, rfl, hv, hO, hE⟩ := hrel
          have E := Lib.hid hE.out
          have O := Lib.hid hO.out
          have Hv := Lib.hid hv.out
          have hvl : v.length ≤ 800000 := by
            rw [Hv.out]
            refine Nat.le_trans (buryAll_len _ _) ?_
            skip
            simp at *
            omega
          clear hv hO hE
          have d0 := cells_at E.out.b0
          have d1 := cells_at E.out.b1
          have d2 := cells_at E.out.b2
          have d3 := cells_at E.out.b3
          have g3 := free_at E.out.b3
          have o0 := cells_at O.out.blk
          have og := free_at O.out.blk
          simp only [lcells, zcells] at d0 d1 d2 d3
          have hz := E.out.sz
          have hz3 := O.out.bel.size
          by_cases hlt : q < ts.length
          · obtain ⟨⟨⟨yr, yi⟩, ys⟩, hx⟩ : ∃ x, ts[q]? = some x := ⟨ts[q], by simp [hlt]⟩
            obtain ⟨ad, had, c0, c1, c2, hl0⟩ := (Ha.out.tms.below E.out.bel).at hx
            subst had
            dsimp only at c0 c1 c2
            have Hx := Lib.hid hx
            clear hx
            go_wp2_with fail
            refine region_text [([0, 1, 2, 3, 4, 5, 6, 7, 8, 9], false)] mixed (by kernel_rfl) ?_
            simp only [wpSegs, List.map_cons, List.map_nil, List.getD_cons_succ, List.getD_cons_zero]
            go_wp2_with fail
            refine (rbury_any va vc v ((yr, yi), ys) _ (O.out.tms.below (Below.refl _ _).drew) (by omega)).mono ?_
            rintro e w5 ⟨a5, c5, v5, rfl, hv5, hvec5, hob5, hb5⟩
            have hb5' := ((Below.refl _ _).drew).trans hb5
            have O5 := O.out.step hb5'
            have E5 := E.out.step hb5'
            have o5 := cells_at O5.blk
            have og5 := free_at O5.blk
            have O6 := Lib.hid (O5.put hvec5 (fun x hx => (hob5 x hx).elim (fun h => O.out.away x h) (fun h => Nat.lt_of_lt_of_le (heap_lt O.out.blk) h)))
            have E6 := Lib.hid (E5.set (p := ⟨w3.heap.size, 8, none⟩) (by show _ ≤ w3.heap.size; omega) (.slice a5 v5.length c5))
            have Hv5 := Lib.hid hv5
            clear hb5 hb5' O5 E5 hvec5 hob5 hv5 o0 og
            go_wp2_with fail
            refine And.intro (by kernel_rfl) ?_
            go_wp2_with fail
            go_roundw
            case rel => exact ⟨q + 1, a5, c5, v5, by omega, by go_num, Lib.hid (by rw [Hv5.out, Hv.out, take_snoc' Hx.out, buryAll_snoc]), O6, E6⟩
            case measure => simp [intOf]; omega
          · have hvv : v = buryAll ([]) ts := by have := Hv.out; rwa [List.take_of_length_le (by omega)] at this
            have Hvv := Lib.hid hvv
            clear Hv hvv
            have hq1 : w.heap.size + 1 < wr.heap.size := by omega
            have hq2 : w.heap.size + 2 < wr.heap.size := by omega
            have hq3 : w3.heap.size < wr.heap.size := heap_lt O.out.blk
            go_wp2_with fail
            go_loopw [11] (fun j wr => ∃ (q : Nat) (va : Option Addr) (vc : Nat) (v : List Dt), q ≤ ts'.length ∧ j = .int .i64 q ∧ Hid (v = buryAll (buryAll [] ts) (ts'.take q)) ∧ Hid (OutE w3 wr 3 va vc v) ∧ Hid (MgE w wr (lcells ⟨3, n'', t'', ((r'', i''), s''), x'', is'', ts''⟩ la lc lt ld) (lcells ⟨3, n, t, ((r, i), s), x, is, ts⟩ ia ic ta tc) (lcells ⟨3, n', t', ((r', i'), s'), x', is', ts'⟩ ja jc ua uc) zcells)) (fun j _ => ts'.length - (intOf j).toNat)
            case atStart => exact ⟨0, va, vc, v, Nat.zero_le _, rfl, Lib.hid (by rw [Hvv.out]; simp [buryAll]), O, E⟩
            case round =>
              clear E d0 d1 d2 d3 g3 O o0 og hz hz3 hlt hq Hvv hvl
              obtain ⟨q, va, vc, v, hq, rfl, hv, hO, hE⟩ := hrel
              have E := Lib.hid hE.out
              have O := Lib.hid hO.out
              have Hv := Lib.hid hv.out
              have hvl : v.length ≤ 800000 := by
                rw [Hv.out]
                refine Nat.le_trans (buryAll_len _ _) ?_
                have := buryAll_len [] ts
                simp at *
                omega
              clear hv hO hE
              have d0 := cells_at E.out.b0
              have d1 := cells_at E.out.b1
              have d2 := cells_at E.out.b2
              have d3 := cells_at E.out.b3
              have g3 := free_at E.out.b3
              have o0 := cells_at O.out.blk
              have og := free_at O.out.blk
              simp only [lcells, zcells] at d0 d1 d2 d3
              have hz := E.out.sz
              have hz3 := O.out.bel.size
              by_cases hlt : q < ts'.length
              · obtain ⟨⟨⟨yr, yi⟩, ys⟩, hx⟩ : ∃ x, ts'[q]? = some x := ⟨ts'[q], by simp [hlt]⟩
                obtain ⟨ad, had, c0, c1, c2, hl0⟩ := (Hb.out.tms.below E.out.bel).at hx
                subst had
                dsimp only at c0 c1 c2
                have Hx := Lib.hid hx
                clear hx
                go_wp2_with fail
                refine region_text [([0, 1, 2, 3, 4, 5, 6, 7, 8, 9], false)] mixed (by kernel_rfl) ?_
                simp only [wpSegs, List.map_cons, List.map_nil, List.getD_cons_succ, List.getD_cons_zero]
                go_wp2_with fail
                refine (rbury_any va vc v ((yr, yi), ys) _ (O.out.tms.below (Below.refl _ _).drew) (by omega)).mono ?_
                rintro e w5 ⟨a5, c5, v5, rfl, hv5, hvec5, hob5, hb5⟩
                have hb5' := ((Below.refl _ _).drew).trans hb5
                have O5 := O.out.step hb5'
                have E5 := E.out.step hb5'
                have o5 := cells_at O5.blk
                have og5 := free_at O5.blk
                have O6 := Lib.hid (O5.put hvec5 (fun x hx => (hob5 x hx).elim (fun h => O.out.away x h) (fun h => Nat.lt_of_lt_of_le (heap_lt O.out.blk) h)))
                have E6 := Lib.hid (E5.set (p := ⟨w3.heap.size, 8, none⟩) (by show _ ≤ w3.heap.size; omega) (.slice a5 v5.length c5))
                have Hv5 := Lib.hid hv5
                clear hb5 hb5' O5 E5 hvec5 hob5 hv5 o0 og
                go_wp2_with fail
                refine And.intro (by kernel_rfl) ?_
                go_wp2_with fail
                go_roundw
                case rel => exact ⟨q + 1, a5, c5, v5, by omega, by go_num, Lib.hid (by rw [Hv5.out, Hv.out, take_snoc' Hx.out, buryAll_snoc]), O6, E6⟩
                case measure => simp [intOf]; omega
              · have hvv : v = buryAll (buryAll [] ts) ts' := by have := Hv.out; rwa [List.take_of_length_le (by omega)] at this
                have Hvv := Lib.hid hvv
                clear Hv hvv
                have hq1 : w.heap.size + 1 < wr.heap.size := by omega
                have hq2 : w.heap.size + 2 < wr.heap.size := by omega
                have hq3 : w3.heap.size < wr.heap.size := heap_lt O.out.blk
                go_wp2_with (at_builtin; go_must (refine wpList_appI rfl _ _ rfl wr.heap.size (some ⟨wr.heap.size, 0, none⟩) 0 [] rfl (OwnI.made wr (Nat.le_refl _)) ia ic is rfl (Ha.out.its.below ?s1) ?n1 ?b1 ?_))
                case s1 => exact E.out.bel.alloc (by omega) _
                case n1 => simp <;> omega
                case b1 => simp
                intro v5 a5 c5 w5 hv5 ho5 hb5 _
                have hb5' : Below wr.heap.size wr w5 := ((Below.refl _ _).alloc (Nat.le_refl _) _).trans hb5
                have I5 := Lib.hid ho5.its
                have E5 := Lib.hid (E.out.step hb5')
                have O5 := Lib.hid (O.out.step hb5')
                have Hv5 := Lib.hid (show v5 = is by simpa using hv5)
                clear hv5 ho5 hb5 hb5' E O d0 d1 d2 d3 g3 o0 og hz hz3 hq1 hq2 hq3
                go_wp2_with fail
                go_loopw [12, 13] (fun o j wx => ∃ (q : Nat) (xa : Option Addr) (xc : Nat) (u : List It), q ≤ is'.length ∧ j = .int .i64 q ∧ o = .slice xa u.length xc ∧ Hid (u = layAll is (is'.take q)) ∧ Hid (Its wx xa xc u) ∧ Hid (OutE w3 wx 3 va vc v) ∧ Hid (MgE w wx (lcells ⟨3, n'', t'', ((r'', i''), s''), x'', is'', ts''⟩ la lc lt ld) (lcells ⟨3, n, t, ((r, i), s), x, is, ts⟩ ia ic ta tc) (lcells ⟨3, n', t', ((r', i'), s'), x', is', ts'⟩ ja jc ua uc) zcells)) (fun _ j _ => is'.length - (intOf j).toNat)
                case atStart => exact ⟨0, a5, c5, v5, Nat.zero_le _, rfl, rfl, Lib.hid (by rw [Hv5.out]; simp [layAll]), I5, O5, E5⟩
                case round =>
                  clear E5 O5 I5 hlt hq
                  obtain ⟨q, xa, xc, u, hq, rfl, rfl, hu, hI, hO, hE⟩ := hrel
                  have E := Lib.hid hE.out
                  have O := Lib.hid hO.out
                  have I := Lib.hid hI.out
                  have Hu := Lib.hid hu.out
                  have hul : u.length ≤ 800000 := by
                    rw [Hu.out]
                    refine Nat.le_trans (layAll_len _ _) ?_
                    simp
                    omega
                  clear hu hI hO hE
                  have d0 := cells_at E.out.b0
                  have d1 := cells_at E.out.b1
                  have d2 := cells_at E.out.b2
                  have d3 := cells_at E.out.b3
                  have g3 := free_at E.out.b3
                  have o0 := cells_at O.out.blk
                  have og := free_at O.out.blk
                  simp only [lcells, zcells] at d0 d1 d2 d3
                  have hz := E.out.sz
                  have hz3 := O.out.bel.size
                  by_cases hlt : q < is'.length
                  · obtain ⟨⟨yt, ⟨⟨yr, yi⟩, ys⟩, yx⟩, hx⟩ : ∃ x, is'[q]? = some x := ⟨is'[q], by simp [hlt]⟩
                    obtain ⟨ad, had, ⟨c0, c1, c2, c3, c4⟩, hl0⟩ := (Hb.out.its.below E.out.bel).at hx
                    subst had
                    dsimp only at c0 c1 c2 c3 c4
                    have Hx := Lib.hid hx
                    clear hx
                    go_wp2_with fail
                    refine (rlay_any xa xc u ⟨yt, ((yr, yi), ys), yx⟩ _ I.out (by omega)).mono ?_
                    rintro e w6 ⟨a6, c6, v6, rfl, hv6, ho6, hb6⟩
                    have I6 := Lib.hid ho6.its
                    have E6 := Lib.hid (E.out.step hb6)
                    have O6 := Lib.hid (O.out.step hb6)
                    have Hv6 := Lib.hid hv6
                    clear hv6 ho6 hb6
                    go_wp2_with fail
                    go_roundw
                    case rel => exact ⟨q + 1, a6, c6, v6, by omega, by go_num, rfl, Lib.hid (by rw [Hv6.out, Hu.out, take_snoc' Hx.out, layAll_snoc]), I6, O6, E6⟩
                    case measure => simp [intOf]; omega
                  · have huu : u = layAll is is' := by have := Hu.out; rwa [List.take_of_length_le (by omega)] at this
                    have Huu := Lib.hid huu
                    clear Hu huu
                    go_wp2_with fail
                    refine (rleft_any xa va xc vc u v _ I.out O.out.tms (by omega) (by omega)).mono ?_
                    rintro e w7 ⟨a7, c7, v7, rfl, hv7, ho7, hb7⟩
                    have E7 := Lib.hid (E.out.step hb7)
                    have O7 := Lib.hid (O.out.step hb7)
                    have Hv7 := Lib.hid hv7
                    have hp := heap_lt O.out.blk
                    have Ho7 := Lib.hid (ho7.base (base' := w3.heap.size + 1) (by omega))
                    have hl7 : v7.length ≤ 800000 := by rw [hv7]; exact Nat.le_trans (List.length_filter_le _ _) hul
                    clear hv7 ho7 hb7 d0 d1 d2 d3 g3 o0 og hz hz3
                    have E := E7
                    have O := O7
                    have d0 := cells_at E.out.b0
                    have d1 := cells_at E.out.b1
                    have d2 := cells_at E.out.b2
                    have d3 := cells_at E.out.b3
                    have g3 := free_at E.out.b3
                    have o0 := cells_at O.out.blk
                    have og := free_at O.out.blk
                    simp only [lcells, zcells] at d0 d1 d2 d3
                    have hz := E.out.sz
                    have hz3 := O.out.bel.size
                    have Hmg : Hid (Merged ⟨3, n'', t'', ((r'', i''), s''), x'', is'', ts''⟩ ⟨3, n, t, ((r, i), s), x, is, ts⟩ ⟨3, n', t', ((r', i'), s'), x', is', ts'⟩ { bare 3 with items := v7, tombs := v }) := Lib.hid (.inr (.inr (.inl ⟨rfl, v, v7, by rw [Hvv.out]; exact ref_tombs ts ts', by rw [Hv7.out, Huu.out]; exact ref_items (up_of Hall.out.2.1) (nodup_of Hall.out.2.2), rfl⟩)))
                    go_wp2_with fail
                    refine bodyPost_ret (v := .tuple #[lval { bare 3 with items := v7, tombs := v } a7 c7 va vc, .int .i64 0]) (by simp [results, Try.results18, go_sem, lval, d3, hsE3, bare, noDot]; rfl) rfl ⟨a7, c7, va, vc, { bare 3 with items := v7, tombs := v }, 0, rfl, .inr (.inr ⟨Hall.out, rfl, rfl, rfl, Hmg.out⟩), ⟨?g1, ?g2, ?g3, ?g4⟩, ?g5⟩
                    case g1 => exact OwnI.its (base := w3.heap.size + 1) (owns9 (owns_chg Ho7.out (Chg.setCell w7 ⟨w3.heap.size, 7, none⟩ (.slice a7 v7.length c7)) (fun x hx hm => by have := (owns_lt Ho7.out x hx).1; simp at hm; omega)) (by omega) _ _ _ _ _ _ _ _ _)
                    case g2 => exact Sl.chg (F := [w3.heap.size, w.heap.size + 3]) O.out.tms (((Chg.setCell w7 ⟨w3.heap.size, 7, none⟩ (.slice a7 v7.length c7)).mono (by simp)).trans (chg_nine (w.heap.size + 3) _ _ _ _ _ _ _ _ _ _) (by simp)) (fun x hx hm => by have := O.out.away x hx; simp at hm; omega)
                    case g3 => show v7.length ≤ 1000000; omega
                    case g4 => show v.length ≤ 1000000; omega
                    case g5 => exact below_nine (E.out.bel.setCell (by show w.heap.size ≤ w3.heap.size; omega) _) _ _ _ _ _ _ _ _ _
end Go.Proofs.Ytmabjghjkgicgaa
