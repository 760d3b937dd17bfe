/- The walk of FuseThree. Printed by genthree.py. -/
import Derived.Test.YtmabjghjkgicgaaThreeA
import Derived.Test.YtmabjghjkgicgaaRegN
import Derived.Test.YtmabjghjkgicgaaRefLD
namespace Go.Proofs.Ytmabjghjkgicgaa
open Go.RowKit
set_option linter.unusedVariables false
set_option linter.unusedSimpArgs false
set_option maxRecDepth 100000 in
set_option maxHeartbeats 16000000 in
theorem three_walk (k : Int) (hk : 0 ≤ k ∧ k ≤ 255) (A1 A2 A3 : Ls) (w : World) (hv1 : Evs w A1.a A1.c A1.ys) (hv2 : Evs w A2.a A2.c A2.ys) (hv3 : Evs w A3.a A3.c A3.ys) :
    Calls Try.prog 3 #[.int .u8 k, .slice A1.a A1.ys.length A1.c, .slice A2.a A2.ys.length A2.c, .slice A3.a A3.ys.length A3.c] w fun e w' => e = .returned (.bool true) ∧ Below w.heap.size w w' := by
  have HV1 := Lib.hid hv1
  have HV2 := Lib.hid hv2
  have HV3 := Lib.hid hv3
  have hm1 := hv1.len
  have hm2 := hv2.len
  have hm3 := hv3.len
  have hmm := @run_makeMap Try.prog
  unfold maxLen at hm1 hm2 hm3
  clear hv1 hv2 hv3
  go_enter Try.func3, Try.ntmps3
  by_cases g1 : 12 < A1.ys.length
  case pos =>
    go_wp2_with fail
    refine (known_any _).mono ?_
    rintro e wk ⟨rfl, hbk⟩
    have HBK := Lib.hid (below2 (Below.refl w.heap.size w) hbk (Below.refl w.heap.size w).size)
    clear hbk
    go_wp2_with fail
    go_ret
    exact ⟨rfl, HBK.out⟩
  case neg =>
    by_cases g2 : 12 < A2.ys.length
    case pos =>
      go_wp2_with fail
      refine (known_any _).mono ?_
      rintro e wk ⟨rfl, hbk⟩
      have HBK := Lib.hid (below2 (Below.refl w.heap.size w) hbk (Below.refl w.heap.size w).size)
      clear hbk
      go_wp2_with fail
      go_ret
      exact ⟨rfl, HBK.out⟩
    case neg =>
      by_cases g3 : 12 < A3.ys.length
      case pos =>
        go_wp2_with fail
        refine (known_any _).mono ?_
        rintro e wk ⟨rfl, hbk⟩
        have HBK := Lib.hid (below2 (Below.refl w.heap.size w) hbk (Below.refl w.heap.size w).size)
        clear hbk
        go_wp2_with fail
        go_ret
        exact ⟨rfl, HBK.out⟩
      case neg =>
        go_wp2_with fail
        go_loopw [10, 46] (fun a j wr => JT1 w [A1, A2, A3] a j wr) (fun _ j _ => 3 - (intOf j).toNat)
        case atStart => exact ⟨0, by omega, rfl, rfl, SeenAt.made w, (Below.refl _ _).alloc (Nat.le_refl _) _, fun e he => (by cases he)⟩
        case round =>
          clear hmm
          obtain ⟨q, hq, rfl, ht⟩ := hrel
          obtain ⟨rfl, hseen, hbel, hds⟩ := ht
          have Hseen := Lib.hid hseen
          have Hbel := Lib.hid hbel
          have Hds := Lib.hid hds
          clear hseen hbel hds
          by_cases hlt : q < 3
          · obtain ⟨s, hs⟩ : ∃ s, [A1, A2, A3][q]? = some s := ⟨[A1, A2, A3][q], by simp [hlt]⟩
            have hidx := index3 A1 A2 A3 hs
            have hsv : Evs w s.a s.c s.ys ∧ s.ys.length ≤ 12 := by
              match q, hs with
              | 0, hs => obtain rfl : A1 = s := by simpa using hs
                         exact ⟨HV1.out, by omega⟩
              | 1, hs => obtain rfl : A2 = s := by simpa using hs
                         exact ⟨HV2.out, by omega⟩
              | 2, hs => obtain rfl : A3 = s := by simpa using hs
                         exact ⟨HV3.out, by omega⟩
              | q + 3, hs => simp at hs
            have Hs := Lib.hid hs
            have Hsv := Lib.hid hsv.1
            have hyl := hsv.2
            have hel : (evsOf ([A1, A2, A3].take q)).length ≤ 100 := by
              match q, hlt with
              | 0, _ => simp [evsOf]
              | 1, _ => simp [evsOf, Ls.evs]; omega
              | 2, _ => simp [evsOf, Ls.evs]; omega
            have hq3 : decide ((q : Int) < 3) = true := by simp; omega
            clear hs hsv
            go_wp2_with fail
            clear hidx
            generalize hE0 : evsOf ([A1, A2, A3].take q) = E0 at *
            have HE0 := Lib.hid hE0
            clear hE0
            go_loopw [10, 51] (fun a j wx => JT2 w E0 s.ys a j wx) (fun _ j _ => s.ys.length - (intOf j).toNat)
            case atStart => exact ⟨0, Nat.zero_le _, rfl, by simpa using (⟨rfl, Hseen.out, Hbel.out, Hds.out⟩ : TE w wr E0 _)⟩
            case round =>
              clear Hseen Hbel Hds
              obtain ⟨p, hp, rfl, ht⟩ := hrel
              have hpl : (E0 ++ (s.ys.take p).map (·.e)).length = E0.length + p := by simp; omega
              generalize hEP : E0 ++ (s.ys.take p).map (·.e) = EP at ht hpl
              have HEP := Lib.hid hEP
              clear hEP
              obtain ⟨rfl, hseen, hbel, hds⟩ := ht
              have Hseen := Lib.hid hseen
              have Hbel := Lib.hid hbel
              have Hds := Lib.hid hds
              clear hseen hbel hds
              have hlo := Hseen.out.lt
              by_cases hlt2 : p < s.ys.length
              · obtain ⟨y, hy⟩ : ∃ y, s.ys[p]? = some y := ⟨s.ys[p], by simp [hlt2]⟩
                obtain ⟨ad, had, ⟨c0, c1, c2, c3, c4, c5, c6, c7, c8, hat⟩, hl0⟩ := (Hsv.out.below Hbel.out).at hy
                rw [had]
                have Hy := Lib.hid hy
                have hlen : (dotsE EP).length ≤ 1000000 := by simp [dotsE]; omega
                have hcb := cntI_bd (dotsE EP) ((y.e.d.1.1, y.e.d.1.2), y.e.d.2)
                obtain ⟨w2, w3, st, hr1, hr2, hr3, hr4, hs3, hC3⟩ := SeenAt.plus (w := (wr.alloc (.cells #[.int .u8 y.e.d.1.1, .int .u32 y.e.d.1.2, .int .u64 y.e.d.2, .int .u64 y.e.t, .int .u8 y.e.k, .slice y.pa y.pl.length y.pc, .int .i64 y.e.n, .string y.e.x, .slice y.da y.e.ds.length y.dc] 37)).drew) (Hseen.out.below ((Below.refl _ _).alloc (Nat.le_refl _) _).drew) (show okD ((y.e.d.1.1, y.e.d.1.2), y.e.d.2) from hat.ok.1)
                have hev : ((wr.alloc (.cells #[.int .u8 y.e.d.1.1, .int .u32 y.e.d.1.2, .int .u64 y.e.d.2, .int .u64 y.e.t, .int .u8 y.e.k, .slice y.pa y.pl.length y.pc, .int .i64 y.e.n, .string y.e.x, .slice y.da y.e.ds.length y.dc] 37)).drew).heap[wr.heap.size]? = some (.cells #[.int .u8 y.e.d.1.1, .int .u32 y.e.d.1.2, .int .u64 y.e.d.2, .int .u64 y.e.t, .int .u8 y.e.k, .slice y.pa y.pl.length y.pc, .int .i64 y.e.n, .string y.e.x, .slice y.da y.e.ds.length y.dc] 37 (0, 0)) := heap_new wr _
                have e3 := cells_at (heap_chg hev hC3 (by simp; omega))
                have HB3 : Hid (Below w.heap.size w w3) := Lib.hid (((Hbel.out.alloc Hbel.out.size _).drew).trans (hC3.below (by have := Hbel.out.size; simp; omega) (by simp)))
                have Hs3 : Hid (SeenAt w3 w.heap.size (dotsE (EP ++ [y.e]))) := Lib.hid (by unfold dotsE at *; rw [List.map_append]; exact hs3)
                clear hy hs3 hC3 hev
                go_wp2_with fail
                refine region_tree (.seg [0, 1, 2] false (.fork (.seg [3, 4, 5, 6, 7] false .done) (.seg [5, 6, 3, 4, 7] false .done))) mixed (by kernel_rfl) ?_
                simp only [wpSg, List.map_cons, List.map_nil, List.getD_cons_succ, List.getD_cons_zero]
                go_wp2_with fail
                refine And.intro ?_ ?_
                all_goals
                  go_wp2_with fail
                  refine And.intro (by kernel_rfl) ?_
                  clear hr1 hr2 hr3 hr4 c0 c1 c2 c3 c4 c5 c6 c7 c8
                  by_cases b1 : 100 < y.e.ds.length
                  case pos =>
                    go_wp2_with fail
                    refine (known_any _).mono ?_
                    rintro e wk ⟨rfl, hbk⟩
                    have HBK := Lib.hid (below2 (HB3.out) hbk (HB3.out).size)
                    clear hbk
                    go_wp2_with fail
                    go_ret
                    exact ⟨rfl, HBK.out⟩
                  case neg =>
                    by_cases b2 : 10 < y.pl.length
                    case pos =>
                      go_wp2_with fail
                      refine (known_any _).mono ?_
                      rintro e wk ⟨rfl, hbk⟩
                      have HBK := Lib.hid (below2 (HB3.out) hbk (HB3.out).size)
                      clear hbk
                      go_wp2_with fail
                      go_ret
                      exact ⟨rfl, HBK.out⟩
                    case neg =>
                      by_cases b3 : 100 < y.e.x.size
                      case pos =>
                        go_wp2_with fail
                        refine (known_any _).mono ?_
                        rintro e wk ⟨rfl, hbk⟩
                        have HBK := Lib.hid (below2 (HB3.out) hbk (HB3.out).size)
                        clear hbk
                        go_wp2_with fail
                        go_ret
                        exact ⟨rfl, HBK.out⟩
                      case neg =>
                        go_wp2_with fail
                        go_roundw
                        case rel =>
                          refine ⟨p + 1, by omega, by go_num, ?_⟩
                          rw [take_snoc' Hy.out, List.map_append, ← List.append_assoc, HEP.out]
                          exact ⟨by simp; omega, Hs3.out, HB3.out, fun e he => by
                            rcases List.mem_append.1 he with he | he
                            · exact Hds.out e he
                            · obtain rfl : e = y.e := by simpa using he
                              omega⟩
                        case measure => simp [intOf]; omega
              · have hpp : p = s.ys.length := by omega
                subst hpp
                have Hn := Lib.hid (show EP = evsOf ([A1, A2, A3].take (q + 1)) by
                  rw [← HEP.out, List.take_length, take_snoc' Hs.out, ← HE0.out]
                  unfold evsOf
                  rw [List.flatMap_append]
                  simp [Ls.evs])
                go_wp2_with fail
                go_roundw
                case rel =>
                  refine ⟨q + 1, by omega, by go_num, ?_⟩
                  rw [← Hn.out]
                  exact ⟨rfl, Hseen.out, Hbel.out, Hds.out⟩
                case measure => simp [intOf]; omega
          · obtain rfl : q = 3 := by omega
            have E : Hid (ThE w wr A1 A2 A3) := Lib.hid (by
              have h1 := Hds.out
              simp only [List.take_succ_cons, List.take_zero] at h1
              have hd : ∀ (s : Ls), s ∈ [A1, A2, A3] → ∀ y ∈ s.ys, y.e.ds.length ≤ 100 := fun s hs y hy => h1 y.e (List.mem_flatMap.2 ⟨s, hs, List.mem_map_of_mem hy⟩)
              exact ⟨⟨HV1.out.below Hbel.out, by omega, hd A1 (by simp)⟩, ⟨HV2.out.below Hbel.out, by omega, hd A2 (by simp)⟩, ⟨HV3.out.below Hbel.out, by omega, hd A3 (by simp)⟩, Hseen.out, Hbel.out⟩)
            have hnl : (evsOf ([A1, A2, A3].take 3)).length = (evsOf [A1, A2, A3]).length := by simp
            rw [hnl]
            have hel : (evsOf [A1, A2, A3]).length ≤ 36 := by
              have := evsOf_len (L := [A1, A2, A3]) (w := wr) (fun s hs => by
                simp at hs
                rcases hs with rfl | rfl | rfl
                · exact E.out.r1
                · exact E.out.r2
                · exact E.out.r3)
              simpa using this
            clear Hseen Hbel Hds hnl HV1 HV2 HV3
            generalize hEN : (evsOf [A1, A2, A3]).length = nE at *
            have HEN := Lib.hid hEN
            clear hEN
            go_wp2_with fail
            have hr : Below wr.heap.size wr (wr.alloc (.cells #[.slice A1.a A1.ys.length A1.c] 22)) := (Below.refl _ _).alloc (Nat.le_refl _) _
            have Hr := Lib.hid hr
            clear hr
            have Hls : Hid (Lsts (wr.alloc (.cells #[.slice A1.a A1.ys.length A1.c] 22)) wr.heap.size [A1]) := Lib.hid (lsts1 (heap_new _ _) (E.out.r1.below Hr.out))
            refine (some_any k hk wr.heap.size 1 [A1] _ rfl Hls.out (by simp) (by simp)).mono ?_
            intro e s1 hto
            obtain ⟨M1, q1, rfl, hq1, hb⟩ := hto
            have hbb := below2 Hr.out hb Hr.out.size
            have hnl : Below s1.heap.size s1 (s1.alloc (.cells #[.int .u8 M1.l.k, .int .i64 M1.l.n, .int .u64 M1.l.t, .int .u8 M1.l.d.1.1, .int .u32 M1.l.d.1.2, .int .u64 M1.l.d.2, .string M1.l.x, .slice M1.ia M1.l.items.length M1.ic, .slice M1.ta M1.l.tombs.length M1.tc] 40)) := (Below.refl _ _).alloc (Nat.le_refl _) _
            have hst := below2 hbb hnl hbb.size
            replace E := Lib.hid (E.out.step hst)
            have R1 : Hid (Res (s1.alloc (.cells #[.int .u8 M1.l.k, .int .i64 M1.l.n, .int .u64 M1.l.t, .int .u8 M1.l.d.1.1, .int .u32 M1.l.d.1.2, .int .u64 M1.l.d.2, .string M1.l.x, .slice M1.ia M1.l.items.length M1.ic, .slice M1.ta M1.l.tombs.length M1.tc] 40)) k [A1] s1.heap.size M1 q1) := Lib.hid (Res.of hq1)
            clear hq1 hb hbb hnl hst Hr Hls
            go_wp2_with fail
            have hr : Below (s1.alloc (.cells #[.int .u8 M1.l.k, .int .i64 M1.l.n, .int .u64 M1.l.t, .int .u8 M1.l.d.1.1, .int .u32 M1.l.d.1.2, .int .u64 M1.l.d.2, .string M1.l.x, .slice M1.ia M1.l.items.length M1.ic, .slice M1.ta M1.l.tombs.length M1.tc] 40)).heap.size (s1.alloc (.cells #[.int .u8 M1.l.k, .int .i64 M1.l.n, .int .u64 M1.l.t, .int .u8 M1.l.d.1.1, .int .u32 M1.l.d.1.2, .int .u64 M1.l.d.2, .string M1.l.x, .slice M1.ia M1.l.items.length M1.ic, .slice M1.ta M1.l.tombs.length M1.tc] 40)) ((s1.alloc (.cells #[.int .u8 M1.l.k, .int .i64 M1.l.n, .int .u64 M1.l.t, .int .u8 M1.l.d.1.1, .int .u32 M1.l.d.1.2, .int .u64 M1.l.d.2, .string M1.l.x, .slice M1.ia M1.l.items.length M1.ic, .slice M1.ta M1.l.tombs.length M1.tc] 40)).alloc (.cells #[.slice A1.a A1.ys.length A1.c, .slice A2.a A2.ys.length A2.c] 22)) := (Below.refl _ _).alloc (Nat.le_refl _) _
            have Hr := Lib.hid hr
            clear hr
            have Hls : Hid (Lsts ((s1.alloc (.cells #[.int .u8 M1.l.k, .int .i64 M1.l.n, .int .u64 M1.l.t, .int .u8 M1.l.d.1.1, .int .u32 M1.l.d.1.2, .int .u64 M1.l.d.2, .string M1.l.x, .slice M1.ia M1.l.items.length M1.ic, .slice M1.ta M1.l.tombs.length M1.tc] 40)).alloc (.cells #[.slice A1.a A1.ys.length A1.c, .slice A2.a A2.ys.length A2.c] 22)) (s1.heap.size + 1) [A1, A2]) := Lib.hid (lsts2 (heap_new2 _ _ _) (E.out.r1.below Hr.out) (E.out.r2.below Hr.out))
            refine (some_any k hk (s1.heap.size + 1) 2 [A1, A2] _ rfl Hls.out (by simp) (by simp)).mono ?_
            intro e s2 hto
            obtain ⟨M2, q2, rfl, hq2, hb⟩ := hto
            have hbb := below2 Hr.out hb Hr.out.size
            have hnl : Below s2.heap.size s2 (s2.alloc (.cells #[.int .u8 M2.l.k, .int .i64 M2.l.n, .int .u64 M2.l.t, .int .u8 M2.l.d.1.1, .int .u32 M2.l.d.1.2, .int .u64 M2.l.d.2, .string M2.l.x, .slice M2.ia M2.l.items.length M2.ic, .slice M2.ta M2.l.tombs.length M2.tc] 40)) := (Below.refl _ _).alloc (Nat.le_refl _) _
            have hst := below2 hbb hnl hbb.size
            replace E := Lib.hid (E.out.step hst)
            have R2 : Hid (Res (s2.alloc (.cells #[.int .u8 M2.l.k, .int .i64 M2.l.n, .int .u64 M2.l.t, .int .u8 M2.l.d.1.1, .int .u32 M2.l.d.1.2, .int .u64 M2.l.d.2, .string M2.l.x, .slice M2.ia M2.l.items.length M2.ic, .slice M2.ta M2.l.tombs.length M2.tc] 40)) k [A1, A2] s2.heap.size M2 q2) := Lib.hid (Res.of hq2)
            have R1 := Lib.hid (R1.out.step hst)
            clear hq2 hb hbb hnl hst Hr Hls
            go_wp2_with fail
            have hr : Below (s2.alloc (.cells #[.int .u8 M2.l.k, .int .i64 M2.l.n, .int .u64 M2.l.t, .int .u8 M2.l.d.1.1, .int .u32 M2.l.d.1.2, .int .u64 M2.l.d.2, .string M2.l.x, .slice M2.ia M2.l.items.length M2.ic, .slice M2.ta M2.l.tombs.length M2.tc] 40)).heap.size (s2.alloc (.cells #[.int .u8 M2.l.k, .int .i64 M2.l.n, .int .u64 M2.l.t, .int .u8 M2.l.d.1.1, .int .u32 M2.l.d.1.2, .int .u64 M2.l.d.2, .string M2.l.x, .slice M2.ia M2.l.items.length M2.ic, .slice M2.ta M2.l.tombs.length M2.tc] 40)) ((s2.alloc (.cells #[.int .u8 M2.l.k, .int .i64 M2.l.n, .int .u64 M2.l.t, .int .u8 M2.l.d.1.1, .int .u32 M2.l.d.1.2, .int .u64 M2.l.d.2, .string M2.l.x, .slice M2.ia M2.l.items.length M2.ic, .slice M2.ta M2.l.tombs.length M2.tc] 40)).alloc (.cells #[.slice A1.a A1.ys.length A1.c, .slice A3.a A3.ys.length A3.c] 22)) := (Below.refl _ _).alloc (Nat.le_refl _) _
            have Hr := Lib.hid hr
            clear hr
            have Hls : Hid (Lsts ((s2.alloc (.cells #[.int .u8 M2.l.k, .int .i64 M2.l.n, .int .u64 M2.l.t, .int .u8 M2.l.d.1.1, .int .u32 M2.l.d.1.2, .int .u64 M2.l.d.2, .string M2.l.x, .slice M2.ia M2.l.items.length M2.ic, .slice M2.ta M2.l.tombs.length M2.tc] 40)).alloc (.cells #[.slice A1.a A1.ys.length A1.c, .slice A3.a A3.ys.length A3.c] 22)) (s2.heap.size + 1) [A1, A3]) := Lib.hid (lsts2 (heap_new2 _ _ _) (E.out.r1.below Hr.out) (E.out.r3.below Hr.out))
            refine (some_any k hk (s2.heap.size + 1) 2 [A1, A3] _ rfl Hls.out (by simp) (by simp)).mono ?_
            intro e s3 hto
            obtain ⟨M3, q3, rfl, hq3, hb⟩ := hto
            have hbb := below2 Hr.out hb Hr.out.size
            have hnl : Below s3.heap.size s3 (s3.alloc (.cells #[.int .u8 M3.l.k, .int .i64 M3.l.n, .int .u64 M3.l.t, .int .u8 M3.l.d.1.1, .int .u32 M3.l.d.1.2, .int .u64 M3.l.d.2, .string M3.l.x, .slice M3.ia M3.l.items.length M3.ic, .slice M3.ta M3.l.tombs.length M3.tc] 40)) := (Below.refl _ _).alloc (Nat.le_refl _) _
            have hst := below2 hbb hnl hbb.size
            replace E := Lib.hid (E.out.step hst)
            have R3 : Hid (Res (s3.alloc (.cells #[.int .u8 M3.l.k, .int .i64 M3.l.n, .int .u64 M3.l.t, .int .u8 M3.l.d.1.1, .int .u32 M3.l.d.1.2, .int .u64 M3.l.d.2, .string M3.l.x, .slice M3.ia M3.l.items.length M3.ic, .slice M3.ta M3.l.tombs.length M3.tc] 40)) k [A1, A3] s3.heap.size M3 q3) := Lib.hid (Res.of hq3)
            have R1 := Lib.hid (R1.out.step hst)
            have R2 := Lib.hid (R2.out.step hst)
            clear hq3 hb hbb hnl hst Hr Hls
            go_wp2_with fail
            have hr : Below (s3.alloc (.cells #[.int .u8 M3.l.k, .int .i64 M3.l.n, .int .u64 M3.l.t, .int .u8 M3.l.d.1.1, .int .u32 M3.l.d.1.2, .int .u64 M3.l.d.2, .string M3.l.x, .slice M3.ia M3.l.items.length M3.ic, .slice M3.ta M3.l.tombs.length M3.tc] 40)).heap.size (s3.alloc (.cells #[.int .u8 M3.l.k, .int .i64 M3.l.n, .int .u64 M3.l.t, .int .u8 M3.l.d.1.1, .int .u32 M3.l.d.1.2, .int .u64 M3.l.d.2, .string M3.l.x, .slice M3.ia M3.l.items.length M3.ic, .slice M3.ta M3.l.tombs.length M3.tc] 40)) ((s3.alloc (.cells #[.int .u8 M3.l.k, .int .i64 M3.l.n, .int .u64 M3.l.t, .int .u8 M3.l.d.1.1, .int .u32 M3.l.d.1.2, .int .u64 M3.l.d.2, .string M3.l.x, .slice M3.ia M3.l.items.length M3.ic, .slice M3.ta M3.l.tombs.length M3.tc] 40)).alloc (.cells #[.slice A1.a A1.ys.length A1.c, .slice A2.a A2.ys.length A2.c, .slice A3.a A3.ys.length A3.c] 22)) := (Below.refl _ _).alloc (Nat.le_refl _) _
            have Hr := Lib.hid hr
            clear hr
            have Hls : Hid (Lsts ((s3.alloc (.cells #[.int .u8 M3.l.k, .int .i64 M3.l.n, .int .u64 M3.l.t, .int .u8 M3.l.d.1.1, .int .u32 M3.l.d.1.2, .int .u64 M3.l.d.2, .string M3.l.x, .slice M3.ia M3.l.items.length M3.ic, .slice M3.ta M3.l.tombs.length M3.tc] 40)).alloc (.cells #[.slice A1.a A1.ys.length A1.c, .slice A2.a A2.ys.length A2.c, .slice A3.a A3.ys.length A3.c] 22)) (s3.heap.size + 1) [A1, A2, A3]) := Lib.hid (lsts3 (heap_new2 _ _ _) (E.out.r1.below Hr.out) (E.out.r2.below Hr.out) (E.out.r3.below Hr.out))
            refine (some_any k hk (s3.heap.size + 1) 3 [A1, A2, A3] _ rfl Hls.out (by simp) (by simp)).mono ?_
            intro e s4 hto
            obtain ⟨M4, q4, rfl, hq4, hb⟩ := hto
            have hbb := below2 Hr.out hb Hr.out.size
            have hnl : Below s4.heap.size s4 (s4.alloc (.cells #[.int .u8 M4.l.k, .int .i64 M4.l.n, .int .u64 M4.l.t, .int .u8 M4.l.d.1.1, .int .u32 M4.l.d.1.2, .int .u64 M4.l.d.2, .string M4.l.x, .slice M4.ia M4.l.items.length M4.ic, .slice M4.ta M4.l.tombs.length M4.tc] 40)) := (Below.refl _ _).alloc (Nat.le_refl _) _
            have hst := below2 hbb hnl hbb.size
            replace E := Lib.hid (E.out.step hst)
            have R4 : Hid (Res (s4.alloc (.cells #[.int .u8 M4.l.k, .int .i64 M4.l.n, .int .u64 M4.l.t, .int .u8 M4.l.d.1.1, .int .u32 M4.l.d.1.2, .int .u64 M4.l.d.2, .string M4.l.x, .slice M4.ia M4.l.items.length M4.ic, .slice M4.ta M4.l.tombs.length M4.tc] 40)) k [A1, A2, A3] s4.heap.size M4 q4) := Lib.hid (Res.of hq4)
            have R1 := Lib.hid (R1.out.step hst)
            have R2 := Lib.hid (R2.out.step hst)
            have R3 := Lib.hid (R3.out.step hst)
            clear hq4 hb hbb hnl hst Hr Hls
            go_upto_region 21 with (fail)
            generalize s4.alloc (.cells #[.int .u8 M4.l.k, .int .i64 M4.l.n, .int .u64 M4.l.t, .int .u8 M4.l.d.1.1, .int .u32 M4.l.d.1.2, .int .u64 M4.l.d.2, .string M4.l.x, .slice M4.ia M4.l.items.length M4.ic, .slice M4.ta M4.l.tombs.length M4.tc] 40) = W4 at *
            have hdl : (dotsE (evsOf [A1, A2, A3])).length = nE := by simp only [dotsE, List.length_map]; exact HEN.out
            have hlen := E.out.seen.len 3 (by omega)
            have hle := distinct_le (dotsE (evsOf [A1, A2, A3]))
            have hnd := distinct_nodup (dotsE (evsOf [A1, A2, A3]))
            rw [hdl] at hle hnd
            generalize (distinct (dotsE (evsOf [A1, A2, A3]))).length = dn at *
            clear hdl
            by_cases c1 : dn < nE
            case pos =>
              clear hnd
              go_wp2_with fail
              refine (known_any _).mono ?_
              rintro e wk ⟨rfl, hbk⟩
              have HBK := Lib.hid (below2 (E.out.bel) hbk (E.out.bel).size)
              clear hbk
              go_wp2_with fail
              go_ret
              exact ⟨rfl, HBK.out⟩
            case neg =>
              have Hnd := Lib.hid (hnd.1 (by omega))
              clear hnd
              cases q1 with
              | false =>
                go_wp2_with fail
                refine (known_any _).mono ?_
                rintro e wk ⟨rfl, hbk⟩
                have HBK := Lib.hid (below2 (E.out.bel) hbk (E.out.bel).size)
                clear hbk
                go_wp2_with fail
                go_ret
                exact ⟨rfl, HBK.out⟩
              | true =>
                cases q2 with
                | false =>
                  go_wp2_with fail
                  refine (known_any _).mono ?_
                  rintro e wk ⟨rfl, hbk⟩
                  have HBK := Lib.hid (below2 (E.out.bel) hbk (E.out.bel).size)
                  clear hbk
                  go_wp2_with fail
                  go_ret
                  exact ⟨rfl, HBK.out⟩
                | true =>
                  cases q3 with
                  | false =>
                    go_wp2_with fail
                    refine (known_any _).mono ?_
                    rintro e wk ⟨rfl, hbk⟩
                    have HBK := Lib.hid (below2 (E.out.bel) hbk (E.out.bel).size)
                    clear hbk
                    go_wp2_with fail
                    go_ret
                    exact ⟨rfl, HBK.out⟩
                  | true =>
                    cases q4 with
                    | false =>
                      go_wp2_with fail
                      refine (known_any _).mono ?_
                      rintro e wk ⟨rfl, hbk⟩
                      have HBK := Lib.hid (below2 (E.out.bel) hbk (E.out.bel).size)
                      clear hbk
                      go_wp2_with fail
                      go_ret
                      exact ⟨rfl, HBK.out⟩
                    | true =>
                      by_cases k1 : k < 1
                      case pos =>
                        go_wp2_with fail
                        refine (known_any _).mono ?_
                        rintro e wk ⟨rfl, hbk⟩
                        have HBK := Lib.hid (below2 (E.out.bel) hbk (E.out.bel).size)
                        clear hbk
                        go_wp2_with fail
                        go_ret
                        exact ⟨rfl, HBK.out⟩
                      case neg =>
                        by_cases k4 : 4 < k
                        case pos =>
                          go_wp2_with fail
                          refine (known_any _).mono ?_
                          rintro e wk ⟨rfl, hbk⟩
                          have HBK := Lib.hid (below2 (E.out.bel) hbk (E.out.bel).size)
                          clear hbk
                          go_wp2_with fail
                          go_ret
                          exact ⟨rfl, HBK.out⟩
                        case neg =>
                          have hk14 : 1 ≤ k ∧ k ≤ 4 := by omega
                          have hkk : kindOf k = k := by unfold kindOf; rw [if_pos hk14]
                          obtain ⟨m1a, m1b, m1c⟩ := R1.out.2 rfl
                          obtain ⟨m2a, m2b, m2c⟩ := R2.out.2 rfl
                          obtain ⟨m3a, m3b, m3c⟩ := R3.out.2 rfl
                          obtain ⟨m4a, m4b, m4c⟩ := R4.out.2 rfl
                          rw [hkk] at m1a m2a m3a m4a m4b
                          have HM1 := Lib.hid m1a
                          have HM2 := Lib.hid m2a
                          have HM3 := Lib.hid m3a
                          have HM4 := Lib.hid m4a
                          have L1 := Lib.hid m1c
                          have L2 := Lib.hid m2c
                          have L3 := Lib.hid m3c
                          have L4 := Lib.hid m4c
                          have B1 := Lib.hid R1.out.1
                          have B2 := Lib.hid R2.out.1
                          have B3 := Lib.hid R3.out.1
                          have B4 := Lib.hid R4.out.1
                          have H3 := Lib.hid (three_merges hk14 E.out.r1 E.out.r2 E.out.r3 m4b Hnd.out)
                          have O1 := Lib.hid (show okL M1.l ∧ M1.l.items.length ≤ 400000 ∧ M1.l.tombs.length ≤ 400000 by rw [m1a]; exact ok_lens hk14 (by simp) (fun s hs => by simp at hs; subst hs; exact E.out.r1))
                          have O2 := Lib.hid (show okL M2.l ∧ M2.l.items.length ≤ 400000 ∧ M2.l.tombs.length ≤ 400000 by rw [m2a]; exact ok_lens hk14 (by simp) (fun s hs => by simp at hs; rcases hs with rfl | rfl; exact E.out.r1; exact E.out.r2))
                          have O3 := Lib.hid (show okL M3.l ∧ M3.l.items.length ≤ 400000 ∧ M3.l.tombs.length ≤ 400000 by rw [m3a]; exact ok_lens hk14 (by simp) (fun s hs => by simp at hs; rcases hs with rfl | rfl; exact E.out.r1; exact E.out.r3))
                          have HB := Lib.hid E.out.bel
                          clear m1a m1b m1c m2a m2b m2c m3a m3b m3c m4a m4b m4c R1 R2 R3 R4 E Hnd hle
                          have e1 := cells_at B1.out
                          have z1 := B1.out.lt
                          have e2 := cells_at B2.out
                          have z2 := B2.out.lt
                          have e3 := cells_at B3.out
                          have z3 := B3.out.lt
                          have e4 := cells_at B4.out
                          have z4 := B4.out.lt
                          simp only [lcells] at e1 e2 e3 e4
                          go_wp2_with fail
                          refine (merge_any M1.l M2.l M3.l M1.ia M1.ta M2.ia M2.ta M3.ia M3.ta M1.ic M1.tc M2.ic M2.tc M3.ic M3.tc _ L1.out L2.out L3.out O1.out.1 O2.out.1 O3.out.1 O2.out.2.1 O3.out.2.1 O2.out.2.2 O3.out.2.2).mono ?_
                          intro e tN hto
                          obtain ⟨N, code, rfl, hr, rd, ow, hbb⟩ := hto.lv
                          rw [HM1.out, HM2.out, HM3.out] at hr
                          obtain ⟨hc, hN⟩ := hr.uniq H3.out.1
                          subst hc
                          have HN := Lib.hid hN
                          have LN := Lib.hid rd
                          have hbt : Below W4.heap.size W4 tN := hbb
                          have B1 := Lib.hid (B1.out.below hbt)
                          have L1 := Lib.hid (L1.out.below hbt)
                          have B2 := Lib.hid (B2.out.below hbt)
                          have L2 := Lib.hid (L2.out.below hbt)
                          have B3 := Lib.hid (B3.out.below hbt)
                          have L3 := Lib.hid (L3.out.below hbt)
                          have B4 := Lib.hid (B4.out.below hbt)
                          have L4 := Lib.hid (L4.out.below hbt)
                          have HB := Lib.hid (below2 HB.out hbt HB.out.size)
                          clear hto hr rd ow hbb hbt hN e1 e2 e3 e4 z1 z2 z3 z4
                          have e1 := cells_at B1.out
                          have z1 := B1.out.lt
                          have e2 := cells_at B2.out
                          have z2 := B2.out.lt
                          have e3 := cells_at B3.out
                          have z3 := B3.out.lt
                          have e4 := cells_at B4.out
                          have z4 := B4.out.lt
                          simp only [lcells] at e1 e2 e3 e4
                          go_wp2_with fail
                          refine (merge_any M1.l M3.l M2.l M1.ia M1.ta M3.ia M3.ta M2.ia M2.ta M1.ic M1.tc M3.ic M3.tc M2.ic M2.tc _ (L1.out.below ((Below.refl tN.heap.size tN).alloc (Nat.le_refl _) (.cells #[.int .u8 N.l.k, .int .i64 N.l.n, .int .u64 N.l.t, .int .u8 N.l.d.1.1, .int .u32 N.l.d.1.2, .int .u64 N.l.d.2, .string N.l.x, .slice N.ia N.l.items.length N.ic, .slice N.ta N.l.tombs.length N.tc] 40))) (L3.out.below ((Below.refl tN.heap.size tN).alloc (Nat.le_refl _) (.cells #[.int .u8 N.l.k, .int .i64 N.l.n, .int .u64 N.l.t, .int .u8 N.l.d.1.1, .int .u32 N.l.d.1.2, .int .u64 N.l.d.2, .string N.l.x, .slice N.ia N.l.items.length N.ic, .slice N.ta N.l.tombs.length N.tc] 40))) (L2.out.below ((Below.refl tN.heap.size tN).alloc (Nat.le_refl _) (.cells #[.int .u8 N.l.k, .int .i64 N.l.n, .int .u64 N.l.t, .int .u8 N.l.d.1.1, .int .u32 N.l.d.1.2, .int .u64 N.l.d.2, .string N.l.x, .slice N.ia N.l.items.length N.ic, .slice N.ta N.l.tombs.length N.tc] 40))) O1.out.1 O3.out.1 O2.out.1 O3.out.2.1 O2.out.2.1 O3.out.2.2 O2.out.2.2).mono ?_
                          intro e tO hto
                          obtain ⟨O, code, rfl, hr, rd, ow, hbb⟩ := hto.lv
                          rw [HM1.out, HM3.out, HM2.out] at hr
                          obtain ⟨hc, hN⟩ := hr.uniq H3.out.2
                          subst hc
                          have HO := Lib.hid hN
                          have LO := Lib.hid rd
                          have hbt : Below tN.heap.size tN tO := below2 ((Below.refl tN.heap.size tN).alloc (Nat.le_refl _) (.cells #[.int .u8 N.l.k, .int .i64 N.l.n, .int .u64 N.l.t, .int .u8 N.l.d.1.1, .int .u32 N.l.d.1.2, .int .u64 N.l.d.2, .string N.l.x, .slice N.ia N.l.items.length N.ic, .slice N.ta N.l.tombs.length N.tc] 40)) hbb ((Below.refl tN.heap.size tN).alloc (Nat.le_refl _) (.cells #[.int .u8 N.l.k, .int .i64 N.l.n, .int .u64 N.l.t, .int .u8 N.l.d.1.1, .int .u32 N.l.d.1.2, .int .u64 N.l.d.2, .string N.l.x, .slice N.ia N.l.items.length N.ic, .slice N.ta N.l.tombs.length N.tc] 40)).size
                          have BN : Hid (LvBlk tO tN.heap.size N) := Lib.hid (LvBlk.below (w := tN.alloc (.cells #[.int .u8 N.l.k, .int .i64 N.l.n, .int .u64 N.l.t, .int .u8 N.l.d.1.1, .int .u32 N.l.d.1.2, .int .u64 N.l.d.2, .string N.l.x, .slice N.ia N.l.items.length N.ic, .slice N.ta N.l.tombs.length N.tc] 40)) (heap_new _ _) hbb)
                          have LN := Lib.hid (LN.out.below hbt)
                          have B1 := Lib.hid (B1.out.below hbt)
                          have L1 := Lib.hid (L1.out.below hbt)
                          have B2 := Lib.hid (B2.out.below hbt)
                          have L2 := Lib.hid (L2.out.below hbt)
                          have B3 := Lib.hid (B3.out.below hbt)
                          have L3 := Lib.hid (L3.out.below hbt)
                          have B4 := Lib.hid (B4.out.below hbt)
                          have L4 := Lib.hid (L4.out.below hbt)
                          have HB := Lib.hid (below2 HB.out hbt HB.out.size)
                          clear hto hr rd ow hbb hbt hN e1 e2 e3 e4 z1 z2 z3 z4
                          have e1 := cells_at B1.out
                          have z1 := B1.out.lt
                          have e2 := cells_at B2.out
                          have z2 := B2.out.lt
                          have e3 := cells_at B3.out
                          have z3 := B3.out.lt
                          have e4 := cells_at B4.out
                          have z4 := B4.out.lt
                          simp only [lcells] at e1 e2 e3 e4
                          have e5 := cells_at BN.out
                          have z5 := BN.out.lt
                          simp only [lcells] at e5
                          have B6 : Hid (LvBlk (tO.alloc (.cells #[.int .u8 O.l.k, .int .i64 O.l.n, .int .u64 O.l.t, .int .u8 O.l.d.1.1, .int .u32 O.l.d.1.2, .int .u64 O.l.d.2, .string O.l.x, .slice O.ia O.l.items.length O.ic, .slice O.ta O.l.tombs.length O.tc] 40)) tO.heap.size O) := Lib.hid (heap_new _ _)
                          go_wp2_with fail
                          refine (rsameL_any N.l M4.l N.ia N.ta M4.ia M4.ta N.ic N.tc M4.ic M4.tc _ (LN.out.below ((Below.refl tO.heap.size tO).alloc (Nat.le_refl _) (.cells #[.int .u8 O.l.k, .int .i64 O.l.n, .int .u64 O.l.t, .int .u8 O.l.d.1.1, .int .u32 O.l.d.1.2, .int .u64 O.l.d.2, .string O.l.x, .slice O.ia O.l.items.length O.ic, .slice O.ta O.l.tombs.length O.tc] 40))) (L4.out.below ((Below.refl tO.heap.size tO).alloc (Nat.le_refl _) (.cells #[.int .u8 O.l.k, .int .i64 O.l.n, .int .u64 O.l.t, .int .u8 O.l.d.1.1, .int .u32 O.l.d.1.2, .int .u64 O.l.d.2, .string O.l.x, .slice O.ia O.l.items.length O.ic, .slice O.ta O.l.tombs.length O.tc] 40)))).mono ?_
                          rintro e u1 ⟨z, rfl, hz, hb⟩
                          obtain rfl : z = true := hz.2 (by rw [HN.out, HM4.out])
                          have hbt := below2 ((Below.refl tO.heap.size tO).alloc (Nat.le_refl _) (.cells #[.int .u8 O.l.k, .int .i64 O.l.n, .int .u64 O.l.t, .int .u8 O.l.d.1.1, .int .u32 O.l.d.1.2, .int .u64 O.l.d.2, .string O.l.x, .slice O.ia O.l.items.length O.ic, .slice O.ta O.l.tombs.length O.tc] 40)) hb ((Below.refl tO.heap.size tO).alloc (Nat.le_refl _) (.cells #[.int .u8 O.l.k, .int .i64 O.l.n, .int .u64 O.l.t, .int .u8 O.l.d.1.1, .int .u32 O.l.d.1.2, .int .u64 O.l.d.2, .string O.l.x, .slice O.ia O.l.items.length O.ic, .slice O.ta O.l.tombs.length O.tc] 40)).size
                          have B4 := Lib.hid (B4.out.below hbt)
                          have B6 := Lib.hid (B6.out.below hb)
                          have L4 := Lib.hid (L4.out.below hbt)
                          have LO := Lib.hid (LO.out.below hbt)
                          have HB := Lib.hid (below2 HB.out hbt HB.out.size)
                          clear hz hb hbt e1 e2 e3 e4 e5 z1 z2 z3 z4 z5
                          have e4 := cells_at B4.out
                          have e6 := cells_at B6.out
                          simp only [lcells] at e4 e6
                          go_wp2_with fail
                          refine (rsameL_any O.l M4.l O.ia O.ta M4.ia M4.ta O.ic O.tc M4.ic M4.tc _ LO.out L4.out).mono ?_
                          rintro e u2 ⟨z, rfl, hz, hb⟩
                          obtain rfl : z = true := hz.2 (by rw [HO.out, HM4.out])
                          have HB := Lib.hid (below2 HB.out hb HB.out.size)
                          clear hz hb e4 e6
                          go_wp2_with fail
                          refine (known_any _).mono ?_
                          rintro e wk ⟨rfl, hbk⟩
                          have HBK := Lib.hid (below2 (HB.out) hbk (HB.out).size)
                          clear hbk
                          go_wp2_with fail
                          go_ret
                          exact ⟨rfl, HBK.out⟩
end Go.Proofs.Ytmabjghjkgicgaa
