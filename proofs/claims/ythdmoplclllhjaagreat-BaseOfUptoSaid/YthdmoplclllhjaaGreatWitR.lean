/- varveref12.Graph.Greatest: the contract. | Lifted: the contracts of base.Lifted and varveref13.Lifted. | The plain law of BaseOf: what is within the meet of what both sides know, is an ancestor of both. No program in sight. | varveref13.Within, Of: the contracts. -/
import Derived.Test.YthdmoplclllhjaaGreatRgE
import Derived.Test.YthdmoplclllhjaaGreatRefLA
import Derived.Test.YthdmoplclllhjaaGreatFuseA
import Derived.Test.YthdmoplclllhjaaGreatGraM
import Derived.Test.YthdmoplclllhjaaGreatWitA
import Derived.Test.YthdmoplclllhjaaGreatGraV
import Derived.Test.YthdmoplclllhjaaGreatVec4
import Derived.Test.YthdmoplclllhjaaGreatDagP
/- GtR -/
namespace Go.Proofs.YthdmoplclllhjaaGreat
open Go.RowKit
set_option linter.unusedVariables false
set_option linter.unusedSimpArgs false

theorem keepD (a : Option Addr) (c : Nat) (l : List Dt) (k : Nat) (hk : k ≤ l.length) (hc : l.length ≤ c) : ∃ u, u = l.take k ∧ (∀ W : World, (Instr.sliceAt 23 (.slice a l.length c) none (some (.int .i64 (k : Int))) none).run Tryz.prog W = .ok (.slice a (List.length u) c) W) ∧ ∀ w, Vec w a c l → Vec w a c u :=
  ⟨l.take k, rfl, fun W => by rw [slice_hiD a l.length c k (by omega) W, List.length_take, Nat.min_eq_left hk], fun w h => Vec.takeD h hk⟩
/-- one dot more, in its place -/
theorem ins_sorted {v : List Dt} {d : Dt} {k : Nat} (hv : v.Pairwise ltD) (h1 : ∀ y ∈ v.take k, lessD y d = true) (h2 : ∀ y, v[k]? = some y → lessD y d = false) (hd : d ∉ v) : ((v.take k ++ [d]) ++ v.drop k).Pairwise ltD := by
  have key : ∀ x ∈ v.drop k, ltD d x := by
    intro x hx
    obtain ⟨i, hi⟩ := List.getElem?_of_mem hx
    rw [List.getElem?_drop] at hi
    obtain ⟨hi1, hi2⟩ := List.getElem?_eq_some_iff.1 hi
    have hk : k < v.length := by omega
    have h3 := h2 v[k] (List.getElem?_eq_getElem hk)
    have hne : d ≠ v[k] := fun e => hd (e ▸ List.getElem_mem hk)
    have h4 : ltD d v[k] := by
      rcases lessD_total hne with h5 | h5
      · exact h5
      · rw [h5] at h3; cases h3
    rcases Nat.eq_zero_or_pos i with e | e
    · subst e; subst hi2; exact h4
    · have h5 := List.pairwise_iff_getElem.1 hv k (k + i) hk hi1 (by omega)
      rw [hi2] at h5
      exact ltD_trans h4 h5
  rw [List.pairwise_append, List.pairwise_append]
  refine ⟨⟨hv.sublist (List.take_sublist _ _), List.pairwise_singleton _ _, fun x hx y hy => ?_⟩, hv.sublist (List.drop_sublist _ _), fun x hx y hy => ?_⟩
  · rw [List.mem_singleton] at hy; subst hy; exact h1 x hx
  · rcases List.mem_append.1 hx with hx | hx
    · exact ltD_trans (h1 x hx) (key y hy)
    · rw [List.mem_singleton] at hx; subst hx; exact key y hy
theorem ins_mem {v : List Dt} {d : Dt} {k : Nat} (x : Dt) : x ∈ (v.take k ++ [d]) ++ v.drop k ↔ x ∈ v ∨ x = d := by
  rw [List.mem_append, List.mem_append, List.mem_singleton]
  have h : x ∈ v ↔ x ∈ v.take k ∨ x ∈ v.drop k := by rw [← List.mem_append, List.take_append_drop]
  rw [h]
  constructor
  · rintro ((h | h) | h)
    · exact .inl (.inl h)
    · exact .inr h
    · exact .inl (.inr h)
  · rintro ((h | h) | h)
    · exact .inl (.inl h)
    · exact .inr h
    · exact .inl (.inr h)
/-- does the y-th of some dots stand in the way: within another one's history -/
def overB (fd : Fd) (d k : Dt) : Bool := !eqD k d && (match fd k with | some x => hasV x.vv d | none => false)
def overQ (fd : Fd) (l : List Dt) (z : Nat) (d : Dt) : Bool := (l.take z).any fun k => overB fd d k
theorem overQ_next {fd : Fd} {l : List Dt} {z : Nat} {d k : Dt} (h : l[z]? = some k) : overQ fd l (z + 1) d = (overQ fd l z d || overB fd d k) := by
  unfold overQ
  rw [take_snoc' h, List.any_append]
  simp
/-- the greatest of some dots -/
def GrtP (fd : Fd) (l v : List Dt) : Prop := v.Pairwise ltD ∧ ∀ d, d ∈ v ↔ d ∈ l ∧ overQ fd l l.length d = false
def GrtTo (w : World) (fd : Fd) (l : List Dt) (e : Ending) (w' : World) : Prop := ∃ a c v, e = .returned (.slice a (List.length v) c) ∧ GrtP fd l v ∧ okV v ∧ v.length ≤ l.length ∧ OwnD w' w.heap.size a c v ∧ Below w.heap.size w w'
structure GrtE (w wr : World) (fd : Fd) (l : List Dt) (q : Nat) (oa : Option Addr) (oc : Nat) (v : List Dt) : Prop where
  own : OwnD wr w.heap.size oa oc v
  rise : v.Pairwise ltD
  mem : ∀ d, d ∈ v ↔ d ∈ l.take q ∧ overQ fd l l.length d = false
  len : v.length ≤ q
  ok : okV v
  bel : Below w.heap.size w wr
theorem GrtE.below {w wr w' : World} {fd : Fd} {l : List Dt} {q : Nat} {oa : Option Addr} {oc : Nat} {v : List Dt} (h : GrtE w wr fd l q oa oc v) (hb : Below wr.heap.size wr w') : GrtE w w' fd l q oa oc v :=
  ⟨OwnD.below h.own hb, h.rise, h.mem, h.len, h.ok, below2 h.bel hb h.bel.size⟩
theorem GrtE.skip {w wr : World} {fd : Fd} {l : List Dt} {q : Nat} {oa : Option Addr} {oc : Nat} {v : List Dt} {d : Dt} (h : GrtE w wr fd l q oa oc v) (hd : l[q]? = some d) (ho : overQ fd l l.length d = true) : GrtE w wr fd l (q + 1) oa oc v := by
  refine ⟨h.own, h.rise, fun x => ?_, by have := h.len; omega, h.ok, h.bel⟩
  rw [h.mem x, take_snoc' hd, List.mem_append, List.mem_singleton]
  constructor
  · rintro ⟨h1, h2⟩; exact ⟨.inl h1, h2⟩
  · rintro ⟨h1 | h1, h2⟩
    · exact ⟨h1, h2⟩
    · subst h1; rw [ho] at h2; cases h2
theorem GrtE.put {w wr w' : World} {fd : Fd} {l : List Dt} {q k : Nat} {oa oa' : Option Addr} {oc oc' : Nat} {v : List Dt} {d : Dt} (h : GrtE w wr fd l q oa oc v) (hnd : l.Nodup) (hd : l[q]? = some d) (hok : okD d) (ho : overQ fd l l.length d = false)
    (h1 : ∀ y ∈ v.take k, lessD y d = true) (h2 : ∀ y, v[k]? = some y → lessD y d = false) (how : OwnD w' w.heap.size oa' oc' ((v.take k ++ [d]) ++ v.drop k)) (hb : Below w.heap.size w w') : GrtE w w' fd l (q + 1) oa' oc' ((v.take k ++ [d]) ++ v.drop k) := by
  have hn : d ∉ v := fun hm => by
    have h3 := ((h.mem d).1 hm).1
    obtain ⟨i, hi⟩ := List.getElem?_of_mem h3
    rw [List.getElem?_take] at hi
    split at hi
    · rename_i hlt
      obtain ⟨k1, e1⟩ := List.getElem?_eq_some_iff.1 hi
      obtain ⟨k2, e2⟩ := List.getElem?_eq_some_iff.1 hd
      have h4 := List.pairwise_iff_getElem.1 hnd i q k1 k2 hlt
      rw [e1, e2] at h4
      exact h4 rfl
    · cases hi
  refine ⟨how, ins_sorted h.rise h1 h2 hn, fun x => ?_, ?_, fun x hx => ?_, hb⟩
  · rw [ins_mem, h.mem x, take_snoc' hd, List.mem_append, List.mem_singleton]
    constructor
    · rintro (⟨h3, h4⟩ | h3)
      · exact ⟨.inl h3, h4⟩
      · subst h3; exact ⟨.inr rfl, ho⟩
    · rintro ⟨h3 | h3, h4⟩
      · exact .inl ⟨h3, h4⟩
      · exact .inr h3
  · have := h.len
    simp only [List.length_append, List.length_take, List.length_drop, List.length_singleton]
    omega
  · rcases ins_mem x |>.1 hx with h3 | h3
    · exact h.ok x h3
    · subst h3; exact hok
def goD (v : List Dt) (d : Dt) (k : Nat) : Bool := match v[k]? with | some y => lessD y d | none => false
theorem goD_some {v : List Dt} {d y : Dt} {k : Nat} (h : v[k]? = some y) : goD v d k = lessD y d := by unfold goD; rw [h]
theorem goD_none {v : List Dt} {d : Dt} {k : Nat} (h : v.length ≤ k) : goD v d k = false := by unfold goD; rw [List.getElem?_eq_none h]
set_option maxRecDepth 100000 in
set_option maxHeartbeats 16000000 in
theorem greatest_R (pw : Nat) (w0 : World) (m : Nat) (b : Bw) (S : List Cw) (la : Option Addr) (lc : Nat) (a : Option Addr) (c : Nat) (l : List Dt) (w : World) (h : RgAt w pw w0 m b S la lc) (hl : Vec w a c l) (hn : l.length ≤ 1000) (hnd : l.Nodup) (hok : okV l) :
    Calls Tryz.prog 108 #[.pointer (some ⟨pw, 0, none⟩), .slice a l.length c] w (GrtTo w (findC (cms S)) l) := by
  have H := Lib.hid h
  have HL := Lib.hid hl
  have Hnd := Lib.hid hnd
  have Hok := Lib.hid hok
  have hfew := h.few
  have E0 : Hid (GrtE w w (findC (cms S)) l 0 none 0 []) := Lib.hid ⟨OwnD.nil _ _, List.Pairwise.nil, fun d => by simp, Nat.zero_le _, fun x hx => (by cases hx), Below.refl _ _⟩
  clear h hl hnd hok
  go_enter Tryz.func108, Tryz.ntmps108
  go_wp2_with fail
  go_loopw [5, 6] (fun o j wr => ∃ (q : Nat) (oa : Option Addr) (oc : Nat) (v : List Dt), q ≤ l.length ∧ j = .int .i64 q ∧ o = .slice oa (List.length v) oc ∧ Hid (GrtE w wr (findC (cms S)) l q oa oc v)) (fun _ j _ => l.length - (intOf j).toNat)
  case atStart => exact ⟨0, none, 0, [], Nat.zero_le _, rfl, rfl, E0⟩
  case round =>
    obtain ⟨q, oa, oc, v, hq, rfl, rfl, E⟩ := hrel
    clear E0
    by_cases hlt : q < l.length
    · obtain ⟨⟨⟨r, i⟩, s⟩, hx⟩ : ∃ x, l[q]? = some x := ⟨l[q], by simp [hlt]⟩
      have Hx := Lib.hid hx
      clear hx
      go_wp2_with fail
      go_loopw [7, 8] (fun u j wy => ∃ z : Nat, z ≤ l.length ∧ j = .int .i64 z ∧ u = .bool (!overQ (findC (cms S)) l z ((r, i), s)) ∧ Hid (Below wr.heap.size wr wy)) (fun _ j _ => l.length - (intOf j).toNat)
      case atStart => exact ⟨0, Nat.zero_le _, rfl, rfl, Lib.hid (Below.refl _ _)⟩
      case round =>
        obtain ⟨z, hz, rfl, rfl, BW⟩ := hrel
        have EY := Lib.hid (E.out.below BW.out)
        by_cases hlz : z < l.length
        · obtain ⟨⟨⟨r2, i2⟩, s2⟩, hy⟩ : ∃ x, l[z]? = some x := ⟨l[z], by simp [hlz]⟩
          obtain ⟨ad, had, f0, f1, f2, hl0⟩ := (HL.out.below EY.out.bel).at hy
          dsimp only at had f0 f1 f2
          subst had
          have Hy := Lib.hid hy
          clear hy
          go_wp2_with fail
          refine (find_R pw w0 m b S la lc r2 i2 s2 _ (H.out.below EY.out.bel)).mono ?_
          rintro e w2 ⟨rfl, hb⟩
          have BW2 := Lib.hid (below2 BW.out hb BW.out.size)
          have EZ := Lib.hid (E.out.below BW2.out)
          have BWD := Lib.hid (BW2.out.drew)
          clear hb f0 f1 f2 hl0 EY
          obtain ⟨ad1, had1, f0, f1, f2, hl1⟩ := (HL.out.below EZ.out.bel).at Hy.out
          obtain ⟨ad2, had2, e0, e1, e2, hl2⟩ := (HL.out.below EZ.out.bel).at Hx.out
          dsimp only at had1 f0 f1 f2 had2 e0 e1 e2
          obtain rfl : ad = ad1 := Option.some.inj had1
          obtain rfl : ad = ad2 := Option.some.inj had2
          have RB := Lib.hid (H.out.below EZ.out.bel)
          have g0 := cells_at RB.out.blk
          simp only [rgcells] at g0
          have gz := heap_lt RB.out.blk
          clear had1 had2
          have HN := Lib.hid (overQ_next (fd := findC (cms S)) (d := ((r, i), s)) Hy.out)
          cases heq : eqD ((r2, i2), s2) ((r, i), s) with
          | true =>
            have HO := Lib.hid (show overB (findC (cms S)) ((r, i), s) ((r2, i2), s2) = false by unfold overB; rw [heq]; rfl)
            go_wp2_with fail
            refine region_text [([0, 1, 2, 3, 4, 5, 6, 7, 8, 9, 10, 11, 12, 13, 14, 15, 16, 17, 18, 19, 20, 21, 22, 23, 24, 25, 26, 27], false)] mixed (by kernel_rfl) ?_
            simp only [wpSegs, List.map_cons, List.map_nil, List.getD_cons_succ, List.getD_cons_zero]
            go_wp2_with fail
            refine And.intro (by kernel_rfl) ?_
            go_wp2_with fail
            go_roundw
            case rel => exact ⟨z + 1, by omega, by go_num, by rw [HN.out, HO.out, Bool.or_false], BWD⟩
            case measure => simp [intOf]; omega
          | false =>
            rcases ixC_cases S ((r2, i2), s2) with ⟨x1, x2⟩ | ⟨y, v1, x1, x3, _, x2⟩
            · rw [x1]
              have HO := Lib.hid (show overB (findC (cms S)) ((r, i), s) ((r2, i2), s2) = false by unfold overB; rw [x2, Bool.and_false])
              have y1 : decide ((0 : Int) ≤ -1) = false := by decide
              clear x1 x2
              go_wp2_with fail
              refine region_text [([0, 1, 2, 3, 4, 5, 6, 7, 8, 9, 10, 11, 12, 13, 14, 15, 16, 17, 18, 19, 20, 21, 22, 23, 24, 25, 26, 27], false)] mixed (by kernel_rfl) ?_
              simp only [wpSegs, List.map_cons, List.map_nil, List.getD_cons_succ, List.getD_cons_zero]
              go_wp2_with fail
              refine And.intro (by kernel_rfl) ?_
              go_wp2_with fail
              go_roundw
              case rel => exact ⟨z + 1, by omega, by go_num, by rw [HN.out, HO.out, Bool.or_false], BWD⟩
              case measure => simp [intOf]; omega
            · rw [x1]
              have hyl : y < S.length := (List.getElem?_eq_some_iff.1 x3).1
              obtain ⟨ag, hag, ⟨c0, c1, c2, c3, c4, c5, c6, c7, c8, c9, c10⟩, hlb⟩ := RB.out.rows.at_ x3
              subst hag
              have Hat := Lib.hid (RB.out.rows.each v1 (List.mem_of_getElem? x3))
              have hvl := (H.out.may v1 (List.mem_of_getElem? x3)).vlen
              have HO := Lib.hid (show overB (findC (cms S)) ((r, i), s) ((r2, i2), s2) = hasV v1.c.vv ((r, i), s) by unfold overB; rw [x2, heq]; rfl)
              have y1 : decide ((0 : Int) ≤ (y : Int)) = true := decide_eq_true (by omega)
              clear x1 x2 x3 c0 c1 c2 c3 c5 c6 c7 c8 c9 c10
              obtain ⟨⟨⟨⟨r1, i1⟩, s1⟩, ps1, uu1, t1, ⟨k1, n1, x1', p1, ds1⟩⟩, qa1, qc1, ua1, uc1, pa1, pc1, da1, dc1⟩ := v1
              dsimp only at c4 hvl HO
              go_wp2_with fail
              refine region_text [([0, 1, 2, 3, 4, 5, 6, 7, 8, 9, 10, 11, 12, 13, 14, 15, 16, 17, 18, 19, 20, 21, 22, 23, 24, 25, 26, 27], false)] mixed (by kernel_rfl) ?_
              simp only [wpSegs, List.map_cons, List.map_nil, List.getD_cons_succ, List.getD_cons_zero]
              go_wp2_with fail
              refine (rhas_any ua1 uc1 uu1 r i s _ (Hat.out.vv.below ((Below.refl _ _).drew)) (by omega)).mono ?_
              rintro e w3 ⟨rfl, hb⟩
              have BW3 := Lib.hid (below2 BWD.out hb BWD.out.size)
              clear hb f0 f1 f2 e0 e1 e2 hl1 hl2 g0 gz RB c4 hlb Hat
              have HO2 := Lib.hid (show overQ (findC (cms S)) l (z + 1) ((r, i), s) = (overQ (findC (cms S)) l z ((r, i), s) || hasV uu1 ((r, i), s)) by rw [HN.out, HO.out])
              cases hh : hasV uu1 ((r, i), s) with
              | true =>
                rw [hh] at HO2
                go_wp2_with fail
                refine And.intro (by kernel_rfl) ?_
                go_wp2_with fail
                go_roundw
                case rel => exact ⟨z + 1, by omega, by go_num, by rw [HO2.out, Bool.or_true]; rfl, BW3⟩
                case measure => simp [intOf]; omega
              | false =>
                rw [hh] at HO2
                go_wp2_with fail
                refine And.intro (by kernel_rfl) ?_
                go_wp2_with fail
                go_roundw
                case rel => exact ⟨z + 1, by omega, by go_num, by rw [HO2.out, Bool.or_false], BW3⟩
                case measure => simp [intOf]; omega
        · have hzz : z = l.length := by omega
          subst hzz
          have hvl := E.out.len
          obtain ⟨ov, hov⟩ : ∃ ov, ov = overQ (findC (cms S)) l l.length ((r, i), s) := ⟨_, rfl⟩
          rw [← hov]
          have HOv := Lib.hid hov
          clear hov
          cases ov with
          | true =>
            have E2 := Lib.hid (EY.out.skip Hx.out HOv.out.symm)
            go_wp2_with fail
            go_roundw
            case rel => exact ⟨q + 1, oa, oc, v, by omega, by go_num, rfl, E2⟩
            case measure => simp [intOf]; omega
          | false =>
            clear E BW
            obtain ⟨wb, hwb⟩ : ∃ wb, wb = wr := ⟨_, rfl⟩
            subst hwb
            go_wp2_with fail
            go_loopw [10] (fun j wx => ∃ k : Nat, k ≤ v.length ∧ j = .int .i64 k ∧ Hid (∀ y ∈ v.take k, lessD y ((r, i), s) = true) ∧ Hid (Below wb.heap.size wb wx)) (fun j _ => v.length - (intOf j).toNat)
            case atStart => exact ⟨0, Nat.zero_le _, rfl, Lib.hid (by simp), Lib.hid (Below.refl _ _)⟩
            case round =>
              obtain ⟨k, hk, rfl, HA, BX⟩ := hrel
              have EX := Lib.hid (EY.out.below BX.out)
              have BXD := Lib.hid (BX.out.drew)
              go_upto_region 14 with (fail)
              go_cut [73] (fun u wz => u = .bool (goD v ((r, i), s) k) ∧ Hid (Below wb.heap.size wb wz))
              case first =>
                by_cases hkl : k < v.length
                · obtain ⟨⟨⟨r3, i3⟩, s3⟩, hy⟩ : ∃ x, v[k]? = some x := ⟨v[k], by simp [hkl]⟩
                  obtain ⟨ae, hae, f0, f1, f2, hl1⟩ := EX.out.own.vec.at hy
                  obtain ⟨ad2, had2, e0, e1, e2, hl2⟩ := (HL.out.below EX.out.bel).at Hx.out
                  dsimp only at hae f0 f1 f2 had2 e0 e1 e2
                  subst hae had2
                  have HG := Lib.hid (goD_some (d := ((r, i), s)) hy)
                  clear hy
                  go_wp2_with fail
                  refine region_text [([0, 1, 2, 3, 4, 5, 6, 7, 8, 9, 10, 11, 12, 13, 14], false)] mixed (by kernel_rfl) ?_
                  simp only [wpSegs, List.map_cons, List.map_nil, List.getD_cons_succ, List.getD_cons_zero]
                  go_wp2_with fail
                  refine (rless_any r3 i3 s3 r i s _).mono ?_
                  rintro e w3 ⟨rfl, hb⟩
                  have BX3 := Lib.hid (below2 BXD.out hb BXD.out.size)
                  clear hb
                  go_wp2_with fail
                  refine And.intro (by kernel_rfl) ?_
                  go_wp2_with fail
                  go_meet
                  exact ⟨by rw [HG.out], BX3⟩
                · have HG := Lib.hid (goD_none (v := v) (d := ((r, i), s)) (k := k) (by omega))
                  have x1 : decide ((k : Int) < (v.length : Int)) = false := decide_eq_false (by omega)
                  go_wp2_with fail
                  refine region_text [([0, 1, 2, 3, 4, 5, 6, 7, 8, 9, 10, 11, 12, 13, 14], false)] mixed (by kernel_rfl) ?_
                  simp only [wpSegs, List.map_cons, List.map_nil, List.getD_cons_succ, List.getD_cons_zero]
                  go_wp2_with fail
                  refine And.intro (by kernel_rfl) ?_
                  go_wp2_with fail
                  go_meet
                  exact ⟨by rw [HG.out], BXD⟩
              case rest =>
                obtain ⟨rfl, B3⟩ := hcut
                obtain ⟨wa, hwa⟩ : ∃ wa, wa = wc := ⟨_, rfl⟩
                subst hwa
                clear EX BX BXD
                cases hgo : goD v ((r, i), s) k with
                | true =>
                  have hkl : k < v.length := Classical.byContradiction fun h => by rw [goD_none (by omega)] at hgo; cases hgo
                  have HA' := Lib.hid (show ∀ y ∈ v.take (k + 1), lessD y ((r, i), s) = true from by
                    obtain ⟨y, hy⟩ : ∃ y, v[k]? = some y := ⟨v[k], by simp [hkl]⟩
                    rw [goD_some hy] at hgo
                    exact all_snoc (p := fun y : Dt => lessD y ((r, i), s) = true) hy HA.out hgo)
                  clear hgo
                  go_wp2_with fail
                  go_roundw
                  case rel => exact ⟨k + 1, by omega, by go_num, HA', B3⟩
                  case measure => simp [intOf]; omega
                | false =>
                  have HB := Lib.hid (show ∀ y, v[k]? = some y → lessD y ((r, i), s) = false from fun y hy => by rw [goD_some hy] at hgo; exact hgo)
                  clear hgo
                  have EA := Lib.hid (EY.out.below B3.out)
                  have hcap : v.length ≤ oc := EA.out.own.cap
                  obtain ⟨U, hU, hUr, hUs⟩ := keepD oa oc v k hk hcap
                  obtain ⟨xa, xc, V, hV, hVr, hVs⟩ := cutD oa oc v k hk hcap
                  have HPut := Lib.hid (show (v.take k ++ [((r, i), s)]) ++ v.drop k = (U ++ [((r, i), s)]) ++ V from by rw [hU, hV])
                  have hUl : U.length ≤ 1000 := by rw [hU]; simp; omega
                  have hVl : V.length ≤ 1000 := by rw [hV]; simp; omega
                  have HUs := Lib.hid hUs
                  have HVs := Lib.hid hVs
                  clear hU hV hUs hVs
                  have A1 : Hid (Below wa.heap.size wa (wa.alloc (.cells #[] 41))) := Lib.hid ((Below.refl _ _).alloc (Nat.le_refl _) _)
                  go_wp2_with (at_builtin; go_must (refine wpList_appD rfl _ _ rfl wa.heap.size (some ⟨wa.heap.size, 0, none⟩) 0 [] rfl (OwnD.made wa (Nat.le_refl _)) oa oc U rfl (HUs.out _ ((EA.out.below A1.out).own.vec)) ?n1 ?b1 ?_))
                  case n1 => simp; omega
                  case b1 => simp
                  intro v1 a1 c1 wd hv1 ho1 hb1 hc1
                  have Hv1 := Lib.hid (show v1 = U from hv1)
                  have hl1 : v1.length ≤ 1000 := by rw [Hv1.out]; exact hUl
                  have Hb1 := Lib.hid (A1.out.trans hb1)
                  have Ho1 := Lib.hid ho1
                  clear hv1 ho1 hb1 hc1 hUr
                  have EB := Lib.hid (EA.out.below Hb1.out)
                  obtain ⟨ad2, had2, e0, e1, e2, hl2⟩ := (HL.out.below EB.out.bel).at Hx.out
                  dsimp only at had2 e0 e1 e2
                  subst had2
                  have A2 : Hid (Below wd.heap.size wd (wd.alloc (.cells #[.int .u8 r, .int .u32 i, .int .u64 s] 41))) := Lib.hid ((Below.refl _ _).alloc (Nat.le_refl _) _)
                  go_wp2_with (at_builtin; go_must (refine wpList_appD rfl _ _ rfl wa.heap.size a1 c1 v1 rfl (OwnD.below Ho1.out A2.out) (some ⟨wd.heap.size, 0, none⟩) 1 [((r, i), s)] rfl (vec_one (heap_new _ _)) ?n2 ?b2 ?_))
                  case n2 => simp; omega
                  case b2 => exact Nat.le_trans Hb1.out.size A2.out.size
                  intro v2 a2 c2 we hv2 ho2 hb2 hc2
                  have Hv2 := Lib.hid (show v2 = U ++ [((r, i), s)] by rw [hv2, Hv1.out])
                  have hl2 : v2.length ≤ 1001 := by rw [Hv2.out]; simp; omega
                  have Hb2 := Lib.hid ((below2 Hb1.out A2.out Hb1.out.size).trans hb2)
                  have Ho2 := Lib.hid ho2
                  clear hv2 ho2 hb2 hc2 e0 e1 e2 A2 Ho1 EB
                  go_wp2_with (at_builtin; go_must (refine wpList_appD rfl _ _ rfl wa.heap.size a2 c2 v2 rfl Ho2.out xa xc V rfl (HVs.out _ ((EA.out.below Hb2.out).own.vec)) ?n3 ?b3 ?_))
                  case n3 => omega
                  case b3 => exact Hb2.out.size
                  intro v3 a3 c3 wf hv3 ho3 hb3 hc3
                  have Hv3 := Lib.hid (show v3 = (v.take k ++ [((r, i), s)]) ++ v.drop k by rw [hv3, Hv2.out, HPut.out])
                  have Hb3 := Lib.hid (Hb2.out.trans hb3)
                  have Hbel := Lib.hid (below2 EA.out.bel Hb3.out EA.out.bel.size)
                  have Ho3 := Lib.hid (OwnD.base (base' := w.heap.size) ho3 EA.out.bel.size)
                  have hokx : okD ((r, i), s) := Hok.out _ (List.mem_of_getElem? Hx.out)
                  have E9 := Lib.hid (EA.out.put (oa' := a3) (oc' := c3) (w' := wf) Hnd.out Hx.out hokx HOv.out.symm HA.out HB.out (by rw [← Hv3.out]; exact Ho3.out) Hbel.out)
                  rw [← Hv3.out] at E9
                  clear hv3 ho3 hb3 hc3 Ho2 HPut Hv3
                  go_wp2_with fail
                  go_roundw
                  case rel => exact ⟨q + 1, a3, c3, v3, by omega, by go_num, rfl, E9⟩
                  case measure => simp [intOf]; omega
    · have hqq : q = l.length := by omega
      have HM := Lib.hid (show GrtP (findC (cms S)) l v from ⟨E.out.rise, fun d => by rw [E.out.mem d, hqq, List.take_length]⟩)
      have hvl := E.out.len
      clear hqq
      go_wp2_with fail
      go_ret
      exact ⟨oa, oc, v, rfl, HM.out, E.out.ok, by omega, E.out.own, E.out.bel⟩
end Go.Proofs.YthdmoplclllhjaaGreat

/- LifA -/
namespace Go.Proofs.YthdmoplclllhjaaGreat
open Go.RowKit
set_option linter.unusedVariables false
set_option linter.unusedSimpArgs false

/-- what some dots' commits know, above F -/
def liftV (F : List Dt) (fd : Fd) (dots : List Dt) : List Dt := dots.foldl (fun K d => joinV K (vvOf (fd d))) F
theorem liftV_next (F : List Dt) (fd : Fd) {dots : List Dt} {q : Nat} {d : Dt} (h : dots[q]? = some d) : liftV F fd (dots.take (q + 1)) = joinV (liftV F fd (dots.take q)) (vvOf (fd d)) := by
  unfold liftV
  rw [take_snoc' h, List.foldl_append]
  rfl
theorem joinV_none {K : List Dt} (hc : canonV K = K) : joinV K [] = K := by
  rw [← hc]
  unfold canonV
  refine vecOf_congr fun x _ => ?_
  have e : vecOf (getN K) = K := hc
  rw [e]
  have h1 : getN [] x = 0 := rfl
  have h2 := (getN_bd K x).1
  omega
theorem canon_len {K : List Dt} (h : canonV K = K) : K.length ≤ 64 := by rw [← h]; exact vecOf_length _
structure LifE (w wr : World) (F : List Dt) (fd : Fd) (dots : List Dt) (q : Nat) (ka : Option Addr) (kc : Nat) (K : List Dt) : Prop where
  own : OwnD wr w.heap.size ka kc K
  val : K = liftV F fd (dots.take q)
  ok : okV K
  canon : canonV K = K
  bel : Below w.heap.size w wr
theorem LifE.step {w wr w2 w3 : World} {F : List Dt} {fd : Fd} {dots : List Dt} {q : Nat} {ka ja : Option Addr} {kc jc : Nat} {K U : List Dt} {d : Dt} (h : LifE w wr F fd dots q ka kc K) (hd : dots[q]? = some d) (hU : U = vvOf (fd d)) (okU : okV U) (hb : Below w.heap.size w w2) (ho : w3.ownsRow w2.heap.size 41 3 (.slice ja (joinV K U).length jc) (joinV K U).length (dcells (joinV K U))) (hb3 : Below w2.heap.size w2 w3) : LifE w w3 F fd dots (q + 1) ja jc (joinV K U) :=
  ⟨owns_base ho hb.size, by rw [liftV_next F fd hd, ← hU, h.val], okV_joinV h.ok okU, canon_join h.ok okU, below2 hb hb3 hb.size⟩
theorem LifE.skip {w wr w2 : World} {F : List Dt} {fd : Fd} {dots : List Dt} {q : Nat} {ka : Option Addr} {kc : Nat} {K : List Dt} {d : Dt} (h : LifE w wr F fd dots q ka kc K) (hd : dots[q]? = some d) (hU : fd d = none) (hb : Below wr.heap.size wr w2) : LifE w w2 F fd dots (q + 1) ka kc K :=
  ⟨OwnD.below h.own hb, by rw [liftV_next F fd hd, hU, ← h.val]; exact (joinV_none h.canon).symm, h.ok, h.canon, below2 h.bel hb h.bel.size⟩
theorem LifE.below {w wr w2 : World} {F : List Dt} {fd : Fd} {dots : List Dt} {q : Nat} {ka : Option Addr} {kc : Nat} {K : List Dt} (h : LifE w wr F fd dots q ka kc K) (hb : Below wr.heap.size wr w2) : LifE w w2 F fd dots q ka kc K :=
  ⟨OwnD.below h.own hb, h.val, h.ok, h.canon, below2 h.bel hb h.bel.size⟩
def LifTo (w : World) (F : List Dt) (fd : Fd) (dots : List Dt) (e : Ending) (w' : World) : Prop := ∃ a c K, e = .returned (.slice a (List.length K) c) ∧ K = liftV F fd dots ∧ okV K ∧ canonV K = K ∧ OwnD w' w.heap.size a c K ∧ Below w.heap.size w w'
set_option maxRecDepth 100000 in
set_option maxHeartbeats 8000000 in
theorem lifted_G (pg mb : Nat) (w0 : World) (m : Nat) (b : Bw) (L : List Cw) (va : Option Addr) (vc : Nat) (vv : List Dt) (da : Option Addr) (dc : Nat) (dots : List Dt) (w : World) (h : GrAt w pg mb w0 m b L va vc vv) (ht : TrRd w0 3 b.ra b.rc b.b.tr) (hB : BdA 1100000 3 b.b.tr) (hd : Vec w da dc dots) (hok : okV dots) (hn : dots.length ≤ 1000) :
    Calls Tryz.prog 44 #[.pointer (some ⟨pg, 0, none⟩), .slice da dots.length dc] w (LifTo w b.b.f (findC (cms L)) dots) := by
  have H := Lib.hid h
  have HT := Lib.hid ht
  have HBd := Lib.hid hB
  have Hd := Lib.hid hd
  have Hok := Lib.hid hok
  have Hcan := Lib.hid (show canonV b.b.f = b.b.f from h.bp.canon)
  have Hokf := Lib.hid h.base.okf
  clear h ht hB hd hok
  go_enter Tryz.func44, Tryz.ntmps44
  go_wp2_with fail
  refine (base_G pg mb w0 m b L va vc vv _ H.out HT.out HBd.out).mono ?_
  rintro e w1 ⟨⟨⟨num', F', tips', t', tr'⟩, a1, c1, a2, c2, a3, c3⟩, rfl, hs, ho, hb⟩
  have hF : b.b.f = F' := hs.f.symm
  have E0 : Hid (LifE w w1 b.b.f (findC (cms L)) dots 0 a1 c1 F') := Lib.hid ⟨ho.f, by rw [← hF]; rfl, by rw [← hF]; exact Hokf.out, by rw [← hF]; exact Hcan.out, hb⟩
  clear hs ho hb hF
  simp only [bwcells]
  go_wp2_with fail
  go_loopw [5, 15] (fun o j wr => ∃ (q : Nat) (ka : Option Addr) (kc : Nat) (K : List Dt), q ≤ dots.length ∧ j = .int .i64 q ∧ o = .slice ka (List.length K) kc ∧ Hid (LifE w wr b.b.f (findC (cms L)) dots q ka kc K)) (fun _ j _ => dots.length - (intOf j).toNat)
  case atStart => exact ⟨0, a1, c1, F', Nat.zero_le _, rfl, rfl, E0⟩
  case round =>
    obtain ⟨q, ka, kc, K, hq, rfl, rfl, E⟩ := hrel
    clear E0
    have hKl : K.length ≤ 64 := canon_len E.out.canon
    by_cases hlt : q < dots.length
    · obtain ⟨⟨⟨r, i⟩, s⟩, hx⟩ : ∃ x, dots[q]? = some x := ⟨dots[q], by simp [hlt]⟩
      obtain ⟨ad, had, f0, f1, f2, hl0⟩ := (Hd.out.below E.out.bel).at hx
      dsimp only at had f0 f1 f2
      have Hx := Lib.hid hx
      have Hokx := Lib.hid (show okD ((r, i), s) from Hok.out _ (List.mem_of_getElem? hx))
      subst had
      clear hx
      have B0 : Hid (BoxE 41 wr (wr.alloc (.cells #[.int .u8 r, .int .u32 i, .int .u64 s] 41)) #[.int .u8 r, .int .u32 i, .int .u64 s]) := Lib.hid ⟨heap_new _ _, (Below.refl _ _).alloc (Nat.le_refl _) _⟩
      have EB := Lib.hid (E.out.below B0.out.bel)
      go_wp2_with fail
      refine (get_G pg mb w0 m b L va vc vv r i s _ (H.out.below EB.out.bel) Hokx.out).mono ?_
      intro e w2 hto
      obtain ⟨u, rfl, hu, huo, hb⟩ := hto
      have hU : Hid (u.c.vv = vvOf (findC (cms L) ((r, i), s))) := Lib.hid (by
        rw [hu]
        cases findC (cms L) ((r, i), s) <;> rfl)
      have hul : u.c.vv.length ≤ 64 := by
        rw [hU.out]
        cases hf : findC (cms L) ((r, i), s) with
        | none => exact Nat.zero_le _
        | some y =>
          obtain ⟨v, hv, e⟩ := List.mem_map.1 (findC_some hf).1
          have h1 := (H.out.may v hv).canon
          rw [e] at h1
          exact canon_len h1
      generalize (findC (cms L) ((r, i), s)).isSome = zz
      clear hu f0 f1 f2 hl0
      obtain ⟨⟨⟨⟨r1, i1⟩, s1⟩, ps, uu, t1, ⟨k, n, x, p1, ds⟩⟩, qa, qc, ua, uc, pa, pc, xa, xc⟩ := u
      dsimp only at hU hul
      have Huo := Lib.hid huo
      have E2 := Lib.hid (EB.out.below hb)
      have HA2 : Hid (Below w2.heap.size w2 (w2.alloc (.cells (ccells r1 i1 s1 qa ps.length qc ua uu.length uc t1 k pa p1.length pc n x xa ds.length xc) 46))) := Lib.hid ((Below.refl _ _).alloc (Nat.le_refl _) _)
      have E3 := Lib.hid (E2.out.below HA2.out)
      have Hvu := Lib.hid (show Vec _ ua uc uu from huo.at_.vv.below HA2.out)
      have OkU := Lib.hid (show okV uu from huo.ok.vv)
      clear huo hb EB E2 B0 Huo
      simp only [cwcells]
      go_wp2_with fail
      refine (join_any ka ua kc uc K uu _ (OwnD.vec E3.out.own) Hvu.out E3.out.ok OkU.out (by omega) (by omega)).mono ?_
      rintro e w4 ⟨ja, jc, rfl, ho, hb⟩
      have E4 := Lib.hid (LifE.step E3.out Hx.out hU.out OkU.out E3.out.bel ho hb)
      clear ho hb E3 HA2 Hvu OkU
      go_wp2_with fail
      go_roundw
      case rel => exact ⟨q + 1, ja, jc, joinV K uu, by omega, by go_num, rfl, E4⟩
      case measure => simp [intOf]; omega
    · have hqq : q = dots.length := by omega
      have Hv := Lib.hid (show K = liftV b.b.f (findC (cms L)) dots from by have h1 := E.out.val; rw [hqq, List.take_length] at h1; exact h1)
      clear hqq
      go_wp2_with fail
      go_ret
      exact ⟨ka, kc, K, rfl, Hv.out, E.out.ok, E.out.canon, E.out.own, E.out.bel⟩
set_option maxRecDepth 100000 in
set_option maxHeartbeats 8000000 in
theorem lifted_R (pw : Nat) (w0 : World) (m : Nat) (b : Bw) (S : List Cw) (la : Option Addr) (lc : Nat) (da : Option Addr) (dc : Nat) (dots : List Dt) (w : World) (h : RgAt w pw w0 m b S la lc) (hd : Vec w da dc dots) (hok : okV dots) (hn : dots.length ≤ 1000) :
    Calls Tryz.prog 45 #[.pointer (some ⟨pw, 0, none⟩), .slice da dots.length dc] w (LifTo w b.b.f (findC (cms S)) dots) := by
  have H := Lib.hid h
  have Hd := Lib.hid hd
  have Hok := Lib.hid hok
  have hfl := h.flen
  have Hokf := Lib.hid h.base.okf
  have hfew := h.few
  have g0 := cells_at h.blk
  simp only [rgcells] at g0
  have gz := heap_lt h.blk
  clear h hd hok
  go_enter Tryz.func45, Tryz.ntmps45
  go_wp2_with fail
  refine (rcanon_any b.fa b.fc b.b.f _ H.out.f Hokf.out (by omega)).mono ?_
  rintro e w1 ⟨a1, c1, rfl, ho, hb⟩
  have hF : canonV b.b.f = b.b.f := H.out.canon
  rw [hF] at ho ⊢
  have E0 : Hid (LifE w w1 b.b.f (findC (cms S)) dots 0 a1 c1 b.b.f) := Lib.hid ⟨ho, rfl, Hokf.out, hF, hb⟩
  clear ho hb hF
  go_wp2_with fail
  go_loopw [5, 6] (fun o j wr => ∃ (q : Nat) (ka : Option Addr) (kc : Nat) (K : List Dt), q ≤ dots.length ∧ j = .int .i64 q ∧ o = .slice ka (List.length K) kc ∧ Hid (LifE w wr b.b.f (findC (cms S)) dots q ka kc K)) (fun _ j _ => dots.length - (intOf j).toNat)
  case atStart => exact ⟨0, a1, c1, b.b.f, Nat.zero_le _, rfl, rfl, E0⟩
  case round =>
    obtain ⟨q, ka, kc, K, hq, rfl, rfl, E⟩ := hrel
    clear E0 g0 gz
    have hKl : K.length ≤ 64 := canon_len E.out.canon
    by_cases hlt : q < dots.length
    · obtain ⟨⟨⟨r, i⟩, s⟩, hx⟩ : ∃ x, dots[q]? = some x := ⟨dots[q], by simp [hlt]⟩
      obtain ⟨ad, had, f0, f1, f2, hl0⟩ := (Hd.out.below E.out.bel).at hx
      dsimp only at had f0 f1 f2
      have Hx := Lib.hid hx
      subst had
      clear hx
      go_wp2_with fail
      refine (find_R pw w0 m b S la lc r i s _ (H.out.below E.out.bel)).mono ?_
      rintro e w2 ⟨rfl, hb⟩
      have E2 := Lib.hid (E.out.below hb)
      have RB := Lib.hid (H.out.below E2.out.bel)
      have g0 := cells_at RB.out.blk
      simp only [rgcells] at g0
      have gz := heap_lt RB.out.blk
      clear hb f0 f1 f2 hl0 E
      rcases ixC_cases S ((r, i), s) with ⟨hk, hf⟩ | ⟨k, v, hk, hv, hvd, hf⟩
      · rw [hk]
        have E3 := Lib.hid (LifE.skip E2.out Hx.out hf (Below.refl _ _))
        clear hk hf E2
        go_wp2_with fail
        go_roundw
        case rel => exact ⟨q + 1, ka, kc, K, by omega, by go_num, rfl, E3⟩
        case measure => simp [intOf]; omega
      · rw [hk]
        obtain ⟨ad2, had2, ⟨c0, c1, c2, c3, c4, c5, c6, c7, c8, c9, c10⟩, hlb⟩ := RB.out.rows.at_ hv
        subst had2
        have hvS := List.mem_of_getElem? hv
        have HU := Lib.hid (show v.c.vv = vvOf (findC (cms S) ((r, i), s)) from by rw [hf]; rfl)
        have hul : v.c.vv.length ≤ 64 := canon_len (H.out.may v hvS).canon
        have hkl : k < S.length := (List.getElem?_eq_some_iff.1 hv).1
        have Hvv := Lib.hid (show Vec w2 v.va v.vc v.c.vv from (RB.out.rows.each v hvS).vv)
        have OkU := Lib.hid (show okV v.c.vv from (RB.out.rows.each v hvS).ok.vv)
        clear hk hf hv hvd hvS c0 c1 c2 c3 c5 c6 c7 c8 c9 c10
        go_wp2_with fail
        refine (rjoin_any ka v.va kc v.vc K v.c.vv _ (OwnD.vec E2.out.own) Hvv.out E2.out.ok OkU.out (by omega) (by omega)).mono ?_
        rintro e w4 ⟨ja, jc, rfl, ho, hb⟩
        have E4 := Lib.hid (LifE.step E2.out Hx.out HU.out OkU.out E2.out.bel ho hb)
        clear ho hb E2 Hvv OkU RB g0 gz c4 hlb
        go_wp2_with fail
        go_roundw
        case rel => exact ⟨q + 1, ja, jc, joinV K v.c.vv, by omega, by go_num, rfl, E4⟩
        case measure => simp [intOf]; omega
    · have hqq : q = dots.length := by omega
      have Hv := Lib.hid (show K = liftV b.b.f (findC (cms S)) dots from by have h1 := E.out.val; rw [hqq, List.take_length] at h1; exact h1)
      clear hqq
      go_wp2_with fail
      go_ret
      exact ⟨ka, kc, K, rfl, Hv.out, E.out.ok, E.out.canon, E.out.own, E.out.bel⟩
end Go.Proofs.YthdmoplclllhjaaGreat

/- BofQ -/
namespace Go.Proofs.YthdmoplclllhjaaGreat
open Go.RowKit
set_option linter.unusedVariables false
set_option linter.unusedSimpArgs false

theorem okV_vvOf {fd : Fd} {L : List Cm} (hfd : fd = findC L) (hv : ∀ c ∈ L, okV c.vv) (d : Dt) : okV (vvOf (fd d)) := by
  subst hfd
  cases h : findC L d with
  | none => exact fun x hx => (by cases hx)
  | some c => exact hv c (findC_some h).1
/-- what some dots' commits know, above F: by actors -/
theorem getN_lift {F : List Dt} {fd : Fd} {L : List Cm} (hfd : fd = findC L) (hF : okV F) (hv : ∀ c ∈ L, okV c.vv) (dots : List Dt) : okV (liftV F fd dots) ∧ (∀ x, getN F x ≤ getN (liftV F fd dots) x) ∧ (∀ d ∈ dots, ∀ x, getN (vvOf (fd d)) x ≤ getN (liftV F fd dots) x) ∧ ∀ x n, n ≤ getN (liftV F fd dots) x → n ≤ getN F x ∨ ∃ d ∈ dots, n ≤ getN (vvOf (fd d)) x := by
  induction dots using snoc_rec with
  | h0 => exact ⟨hF, fun x => Int.le_refl _, fun d hd => (by cases hd), fun x n h => .inl h⟩
  | h1 ds d ih =>
    obtain ⟨h1, h2, h3, h4⟩ := ih
    have e : liftV F fd (ds ++ [d]) = joinV (liftV F fd ds) (vvOf (fd d)) := by unfold liftV; rw [List.foldl_append]; rfl
    have ho := okV_vvOf hfd hv d
    have hg : ∀ x, getN (liftV F fd (ds ++ [d])) x = max (getN (liftV F fd ds) x) (getN (vvOf (fd d)) x) := fun x => by rw [e, getN_joinV h1 ho]
    refine ⟨by rw [e]; exact okV_joinV h1 ho, fun x => ?_, fun y hy x => ?_, fun x n h => ?_⟩
    · have := h2 x; rw [hg]; omega
    · rw [hg]
      rcases List.mem_append.1 hy with hy | hy
      · have := h3 y hy x; omega
      · rw [List.mem_singleton] at hy; subst hy; omega
    · rw [hg] at h
      by_cases h5 : n ≤ getN (vvOf (fd d)) x
      · exact .inr ⟨d, by simp, h5⟩
      · rcases h4 x n (by omega) with h6 | ⟨y, hy, h6⟩
        · exact .inl h6
        · exact .inr ⟨y, by simp [hy], h6⟩
/-- within what some dots' commits know: known to one of them -/
theorem lift_down {F : List Dt} {L : List Cm} {vv : List Dt} (h : HistP F L vv) (hv : ∀ c ∈ L, okV c.vv) {c : Cm} (hc : c ∈ L) (dots : List Dt) :
    (∀ x, getN c.vv x ≤ getN (liftV F (findC L) dots) x) ↔ downS L (fun x => x ∈ dots) c.d := by
  obtain ⟨h1, h2, h3, h4⟩ := getN_lift (fd := findC L) rfl h.okF hv dots
  have hfc := findC_mem h.nodup hc
  have hself := hasV_iff.1 (h.self hc)
  have hm := (may_iff c.d).1 hself.1
  constructor
  · intro hle
    rcases h4 c.d.1 c.d.2 (Int.le_trans hself.2 (hle _)) with h5 | ⟨d, hd, h5⟩
    · have h6 := h.out c hc
      have h7 : hasV F c.d = true := hasV_iff.2 ⟨hself.1, h5⟩
      rw [h6] at h7; cases h7
    · cases hf : findC L d with
      | none =>
        rw [hf] at h5
        have h5 : c.d.2 ≤ getN [] c.d.1 := h5
        have h8 : getN [] c.d.1 = 0 := rfl
        omega
      | some y =>
        rw [hf] at h5
        exact ⟨c, hfc, d, hd, y, hf, hasV_iff.2 ⟨hself.1, h5⟩⟩
  · rintro ⟨z, hz, d, hd, y, hy, hh⟩ x
    rw [hfc] at hz
    cases hz
    have h5 := (h.within (findC_some hy).1 hc hh).1 x
    have h6 := h3 d hd x
    rw [hy] at h6
    exact Int.le_trans h5 h6
/-- the greatest within the meet, above F, are the bases -/
theorem wit_bof {F : List Dt} {L : List Cm} {vv : List Dt} (h : HistP F L vv) (hv : ∀ c ∈ L, okV c.vv) {dots : List Dt} {d : Dt} {v : List Dt}
    (hw : WitP L (joinV (meetV (liftV F (findC L) dots) (liftV F (findC L) [d])) F) v) : BofP L dots d v := by
  obtain ⟨B, hB, hH⟩ := hw
  refine ⟨B, fun c => ?_, hH⟩
  rw [hB c]
  obtain ⟨a1, a2, _, _⟩ := getN_lift (fd := findC L) rfl h.okF hv dots
  obtain ⟨b1, b2, _, _⟩ := getN_lift (fd := findC L) rfl h.okF hv [d]
  have hg : ∀ x, getN (joinV (meetV (liftV F (findC L) dots) (liftV F (findC L) [d])) F) x = max (min (getN (liftV F (findC L) dots) x) (getN (liftV F (findC L) [d]) x)) (getN F x) := fun x => by
    rw [getN_joinV (okV_meetV a1 b1) h.okF, getN_meetV a1 b1]
  constructor
  · rintro ⟨hc, hw⟩
    rw [withinV_iff (hv c hc)] at hw
    refine ⟨hc, (lift_down h hv hc dots).1 fun x => ?_, (lift_down h hv hc [d]).1 fun x => ?_⟩
    · have h1 := hw x; have h2 := hg x; have h3 := a2 x; have h4 := b2 x; omega
    · have h1 := hw x; have h2 := hg x; have h3 := a2 x; have h4 := b2 x; omega
  · rintro ⟨hc, h1, h2⟩
    refine ⟨hc, (withinV_iff (hv c hc)).2 fun x => ?_⟩
    have h3 := (lift_down h hv hc dots).2 h1 x
    have h4 := (lift_down h hv hc [d]).2 h2 x
    rw [hg]; omega
/-- two of the greatest of the same are the same -/
theorem heads_eq {B C : List Cm} {u v : List Dt} (h : ∀ c, c ∈ B ↔ c ∈ C) (hu : HeadsP [] B u) (hv : HeadsP [] C v) : u = v := by
  refine rising_ext (lt := ltD) ltD_irrefl (fun h k => ltD_trans h k) hu.1 hv.1 fun d => ?_
  rw [hu.2 d, hv.2 d]
  have e : behindB B d = behindB C d := by
    rw [Bool.eq_iff_iff, behindB_iff, behindB_iff]
    constructor
    · rintro ⟨y, hy, h1⟩; exact ⟨y, (h y).1 hy, h1⟩
    · rintro ⟨y, hy, h1⟩; exact ⟨y, (h y).2 hy, h1⟩
  rw [e]
  constructor
  · rintro ⟨h1 | ⟨c, hc, h1⟩, h2⟩
    · exact ⟨.inl h1, h2⟩
    · exact ⟨.inr ⟨c, (h c).1 hc, h1⟩, h2⟩
  · rintro ⟨h1 | ⟨c, hc, h1⟩, h2⟩
    · exact ⟨.inl h1, h2⟩
    · exact ⟨.inr ⟨c, (h c).2 hc, h1⟩, h2⟩
theorem bof_eq {L : List Cm} {dots : List Dt} {d : Dt} {u v : List Dt} (hu : BofP L dots d u) (hv : BofP L dots d v) : u = v := by
  obtain ⟨B, hB, h1⟩ := hu
  obtain ⟨C, hC, h2⟩ := hv
  exact heads_eq (fun c => by rw [hB c, hC c]) h1 h2
theorem wit_eq {L M : List Cm} (hp : L.Perm M) {J u v : List Dt} (hu : WitP L J u) (hv : WitP M J v) : u = v := by
  obtain ⟨B, hB, h1⟩ := hu
  obtain ⟨C, hC, h2⟩ := hv
  exact heads_eq (fun c => by rw [hB c, hC c, hp.mem_iff]) h1 h2
end Go.Proofs.YthdmoplclllhjaaGreat

/- WitR -/
namespace Go.Proofs.YthdmoplclllhjaaGreat
open Go.RowKit
set_option linter.unusedVariables false
set_option linter.unusedSimpArgs false

theorem grt_heads {S B : List Cm} (hn : (S.map (·.d)).Nodup) (hB : ∀ c ∈ B, c ∈ S) {v : List Dt} (h : GrtP (findC S) (B.map (·.d)) v) : HeadsP [] B v := by
  refine ⟨h.1, fun d => ?_⟩
  rw [h.2 d]
  have e : overQ (findC S) (B.map (·.d)) (B.map (·.d)).length d = behindB B d := by
    rw [Bool.eq_iff_iff, behindB_iff]
    unfold overQ
    rw [List.take_length, List.any_eq_true]
    constructor
    · rintro ⟨k, hk, h1⟩
      obtain ⟨c, hc, rfl⟩ := List.mem_map.1 hk
      unfold overB at h1
      rw [findC_mem hn (hB c hc), Bool.and_eq_true] at h1
      refine ⟨c, hc, fun e => ?_, h1.2⟩
      have h2 := h1.1
      rw [(eqD_iff _ _).2 e] at h2; cases h2
    · rintro ⟨c, hc, h1, h2⟩
      refine ⟨c.d, List.mem_map.2 ⟨c, hc, rfl⟩, ?_⟩
      unfold overB
      rw [findC_mem hn (hB c hc), Bool.and_eq_true]
      refine ⟨?_, h2⟩
      cases h3 : eqD c.d d with
      | true => exact absurd ((eqD_iff _ _).1 h3) h1
      | false => rfl
  rw [e]
  constructor
  · rintro ⟨h1, h2⟩
    obtain ⟨c, hc, h3⟩ := List.mem_map.1 h1
    exact ⟨.inr ⟨c, hc, h3⟩, h2⟩
  · rintro ⟨h1 | ⟨c, hc, h3⟩, h2⟩
    · cases h1
    · exact ⟨List.mem_map.2 ⟨c, hc, h3⟩, h2⟩
theorem cms_at {S : List Cw} {k : Nat} {v : Cw} (h : S[k]? = some v) : (cms S)[k]? = some v.c := by unfold cms; rw [List.getElem?_map, h]; rfl
/-- those within a vector, of the first q -/
def inW (S : List Cw) (J : List Dt) (q : Nat) : List Dt := (((cms S).take q).filter fun c => withinV c.vv J).map (·.d)
theorem inW_next {S : List Cw} {J : List Dt} {q : Nat} {v : Cw} (h : S[q]? = some v) : inW S J (q + 1) = if withinV v.c.vv J = true then inW S J q ++ [v.c.d] else inW S J q := by
  unfold inW
  rw [take_snoc' (cms_at h), List.filter_append, List.map_append]
  by_cases e : withinV v.c.vv J = true
  · rw [if_pos e]; simp [e]
  · rw [if_neg e]; simp [e]
theorem inW_len (S : List Cw) (J : List Dt) (q : Nat) : (inW S J q).length ≤ S.length := by
  unfold inW
  rw [List.length_map]
  refine Nat.le_trans (List.length_filter_le _ _) ?_
  rw [List.length_take]
  unfold cms
  rw [List.length_map]
  omega
theorem inW_ok {S : List Cw} (hS : ∀ v ∈ S, okD v.c.d) (J : List Dt) (q : Nat) : okV (inW S J q) := fun d hd => by
  unfold inW at hd
  obtain ⟨c, hc, rfl⟩ := List.mem_map.1 hd
  have h1 := List.mem_of_mem_take (List.mem_filter.1 hc).1
  obtain ⟨v, hv, rfl⟩ := List.mem_map.1 h1
  exact hS v hv
structure WitE (w1 wr : World) (S : List Cw) (J : List Dt) (q : Nat) (ia : Option Addr) (ic : Nat) (v : List Dt) : Prop where
  own : OwnD wr w1.heap.size ia ic v
  val : v = inW S J q
  bel : Below w1.heap.size w1 wr
theorem WitE.below {w1 wr w' : World} {S : List Cw} {J : List Dt} {q : Nat} {ia : Option Addr} {ic : Nat} {v : List Dt} (h : WitE w1 wr S J q ia ic v) (hb : Below wr.heap.size wr w') : WitE w1 w' S J q ia ic v :=
  ⟨OwnD.below h.own hb, h.val, below2 h.bel hb h.bel.size⟩
set_option maxRecDepth 100000 in
set_option maxHeartbeats 8000000 in
theorem within_R (pw : Nat) (w0 : World) (m : Nat) (b : Bw) (S : List Cw) (la : Option Addr) (lc : Nat) (ua : Option Addr) (uc : Nat) (U : List Dt) (w : World) (h : RgAt w pw w0 m b S la lc) (hU : Vec w ua uc U) (hok : okV U) (hn : U.length ≤ 500000) :
    Calls Tryz.prog 47 #[.pointer (some ⟨pw, 0, none⟩), .slice ua U.length uc] w (WitTo w (cms S) (joinV U b.b.f)) := by
  have H := Lib.hid h
  have HU := Lib.hid hU
  have Hok := Lib.hid hok
  have Hokf := Lib.hid h.base.okf
  have hfl := h.flen
  have hfew := h.few
  have g0 := cells_at h.blk
  simp only [rgcells] at g0
  have gz := heap_lt h.blk
  clear h hU hok
  go_enter Tryz.func47, Tryz.ntmps47
  go_wp2_with fail
  refine (rjoin_any ua b.fa uc b.fc U b.b.f _ HU.out H.out.f Hok.out Hokf.out hn (by omega)).mono ?_
  rintro e w1 ⟨ja, jc, rfl, ho, hb⟩
  have HJ := Lib.hid (show Vec w1 ja jc (joinV U b.b.f) from vec_of ho)
  have hJl : (joinV U b.b.f).length ≤ 64 := vecOf_length _
  have OkJ := Lib.hid (okV_joinV Hok.out Hokf.out)
  have B1 := Lib.hid hb
  have H1 := Lib.hid (H.out.below hb)
  clear ho hb g0 gz
  obtain ⟨J, hJ⟩ : ∃ J, J = joinV U b.b.f := ⟨_, rfl⟩
  rw [← hJ] at HJ hJl OkJ ⊢
  have HJe := Lib.hid hJ
  clear hJ
  have E0 : Hid (WitE w1 w1 S J 0 none 0 []) := Lib.hid ⟨OwnD.nil _ _, by unfold inW; simp, Below.refl _ _⟩
  go_wp2_with fail
  go_loopw [6, 7] (fun o j wr => ∃ (q : Nat) (ia : Option Addr) (ic : Nat) (v : List Dt), q ≤ S.length ∧ j = .int .i64 q ∧ o = .slice ia (List.length v) ic ∧ Hid (WitE w1 wr S J q ia ic v)) (fun _ j _ => S.length - (intOf j).toNat)
  case atStart => exact ⟨0, none, 0, [], Nat.zero_le _, rfl, rfl, E0⟩
  case round =>
    obtain ⟨q, ia, ic, v, hq, rfl, rfl, E⟩ := hrel
    clear E0
    have hvl : v.length ≤ 200 := by rw [E.out.val]; have := inW_len S J q; omega
    have RB := Lib.hid (H1.out.below E.out.bel)
    have g0 := cells_at RB.out.blk
    simp only [rgcells] at g0
    have gz := heap_lt RB.out.blk
    by_cases hlt : q < S.length
    · obtain ⟨u, hu⟩ : ∃ u, S[q]? = some u := ⟨S[q], by simp [hlt]⟩
      obtain ⟨ad, had, ⟨c0, c1, c2, c3, c4, c5, c6, c7, c8, c9, c10⟩, hlb⟩ := RB.out.rows.at_ hu
      subst had
      have Hat := Lib.hid (RB.out.rows.each u (List.mem_of_getElem? hu))
      have hul := (H.out.may u (List.mem_of_getElem? hu)).vlen
      have HN := Lib.hid (inW_next (J := J) hu)
      have Hu := Lib.hid hu
      clear hu c3 c5 c6 c7 c8 c9 c10
      obtain ⟨⟨⟨⟨r1, i1⟩, s1⟩, ps1, uu1, t1, ⟨k1, n1, x1', p1, ds1⟩⟩, qa1, qc1, ua1, uc1, pa1, pc1, da1, dc1⟩ := u
      dsimp only at c0 c1 c2 c4 hul
      go_wp2_with fail
      refine (rwithin_any ua1 ja uc1 jc uu1 J _ Hat.out.vv (HJ.out.below E.out.bel) Hat.out.ok.vv (by omega) (by omega)).mono ?_
      rintro e w2 ⟨rfl, hb⟩
      have E2 := Lib.hid (E.out.below hb)
      clear hb c0 c1 c2 c4 hlb RB g0 gz Hat
      have RB := Lib.hid (H1.out.below E2.out.bel)
      have g0 := cells_at RB.out.blk
      simp only [rgcells] at g0
      have gz := heap_lt RB.out.blk
      cases hw : withinV uu1 J with
      | false =>
        have E3 : Hid (WitE w1 w2 S J (q + 1) ia ic v) := Lib.hid ⟨E2.out.own, by rw [HN.out, if_neg (by rw [hw]; decide)]; exact E2.out.val, E2.out.bel⟩
        go_wp2_with fail
        go_roundw
        case rel => exact ⟨q + 1, ia, ic, v, by omega, by go_num, rfl, E3⟩
        case measure => simp [intOf]; omega
      | true =>
        have HV2 := Lib.hid (show inW S J (q + 1) = v ++ [((r1, i1), s1)] from by rw [HN.out, if_pos hw, E2.out.val])
        obtain ⟨ad2, had2, ⟨c0, c1, c2, c3, c4, c5, c6, c7, c8, c9, c10⟩, hlb⟩ := RB.out.rows.at_ Hu.out
        obtain rfl : ad = ad2 := Option.some.inj had2
        dsimp only at c0 c1 c2
        clear had2 hw c3 c4 c5 c6 c7 c8 c9 c10
        have A2 : Hid (Below w2.heap.size w2 (w2.alloc (.cells #[.int .u8 r1, .int .u32 i1, .int .u64 s1] 41))) := Lib.hid ((Below.refl _ _).alloc (Nat.le_refl _) _)
        have E3 := Lib.hid (E2.out.below A2.out)
        go_wp2_with (at_builtin; go_must (refine wpList_appD rfl _ _ rfl w1.heap.size ia ic v rfl E3.out.own (some ⟨w2.heap.size, 0, none⟩) 1 [((r1, i1), s1)] rfl (vec_one (heap_new _ _)) ?n2 ?b2 ?_))
        case n2 => simp; omega
        case b2 => exact E3.out.bel.size
        intro v2 a2 c2' we hv2 ho2 hb2 hc2
        have E4 : Hid (WitE w1 we S J (q + 1) a2 c2' v2) := Lib.hid ⟨ho2, by rw [hv2, HV2.out], E3.out.bel.trans hb2⟩
        clear hv2 ho2 hb2 hc2 c0 c1 c2 g0 gz hlb RB A2 E3
        go_wp2_with fail
        go_roundw
        case rel => exact ⟨q + 1, a2, c2', v2, by omega, by go_num, rfl, E4⟩
        case measure => simp [intOf]; omega
    · have hqq : q = S.length := by omega
      have Hsub : Hid ((((cms S).take q).filter fun c => withinV c.vv J) = (cms S).filter fun c => withinV c.vv J) := Lib.hid (by rw [List.take_of_length_le]; unfold cms; rw [List.length_map]; omega)
      have Hv := Lib.hid (show v = ((cms S).filter fun c => withinV c.vv J).map (·.d) from by rw [E.out.val]; unfold inW; rw [Hsub.out])
      have Hnd := Lib.hid (show v.Nodup from by rw [Hv.out]; exact H.out.nodup.sublist ((List.filter_sublist).map _))
      have Hokv := Lib.hid (show okV v from by rw [E.out.val]; exact inW_ok (fun u hu => (H.out.each u hu).ok.d) J q)
      have B2 := Lib.hid (below2 B1.out E.out.bel B1.out.size)
      clear hqq
      go_wp2_with fail
      refine (greatest_R pw w0 m b S la lc ia ic v _ RB.out E.out.own.vec (by omega) Hnd.out Hokv.out).mono ?_
      intro e w5 hto
      obtain ⟨a5, c5, g5, rfl, hg, hok5, hl5, ho5, hb5⟩ := hto
      have HG := Lib.hid (show HeadsP [] ((cms S).filter fun c => withinV c.vv J) g5 from grt_heads H.out.nodup (fun c hc => (List.mem_filter.1 hc).1) (by rw [← Hv.out]; exact hg))
      have Hok5 := Lib.hid hok5
      have Hl5 := Lib.hid (show g5.length ≤ (cms S).length from by
        have h1 := inW_len S J q
        rw [← E.out.val] at h1
        unfold cms
        rw [List.length_map]
        omega)
      have Ho5 := Lib.hid (OwnD.base (base' := w.heap.size) ho5 B2.out.size)
      have B5 := Lib.hid (below2 B2.out hb5 B2.out.size)
      clear hg hok5 hl5 ho5 hb5
      go_wp2_with fail
      go_ret
      exact ⟨a5, c5, g5, rfl, ⟨(cms S).filter fun c => withinV c.vv J, fun c => by rw [← HJe.out]; exact List.mem_filter, HG.out⟩, Hok5.out, Hl5.out, Ho5.out, B5.out⟩
set_option maxRecDepth 100000 in
set_option maxHeartbeats 8000000 in
theorem of_R (pw : Nat) (w0 : World) (m : Nat) (b : Bw) (S : List Cw) (la : Option Addr) (lc : Nat) (da : Option Addr) (dc : Nat) (dots : List Dt) (r i s : Int) (w : World) (h : RgAt w pw w0 m b S la lc) (hd : Vec w da dc dots) (hok : okV dots) (hn : dots.length ≤ 1000) (hokd : okD ((r, i), s)) :
    Calls Tryz.prog 48 #[.pointer (some ⟨pw, 0, none⟩), .slice da dots.length dc, .agg #[.int .u8 r, .int .u32 i, .int .u64 s]] w (WitTo w (cms S) (joinV (meetV (liftV b.b.f (findC (cms S)) dots) (liftV b.b.f (findC (cms S)) [((r, i), s)])) b.b.f)) := by
  have H := Lib.hid h
  have Hd := Lib.hid hd
  have Hok := Lib.hid hok
  have Hok1 := Lib.hid (show okV [((r, i), s)] from fun y hy => by rw [List.mem_singleton] at hy; subst hy; exact hokd)
  have B0 : Hid (BoxE 41 w (w.alloc (.cells #[.int .u8 r, .int .u32 i, .int .u64 s] 41)) #[.int .u8 r, .int .u32 i, .int .u64 s]) := Lib.hid ⟨heap_new _ _, (Below.refl _ _).alloc (Nat.le_refl _) _⟩
  clear h hd hok
  go_enter Tryz.func48, Tryz.ntmps48
  go_upto_region 1 with (fail)
  have d0 := cells_at B0.out.blk
  have z0 := heap_lt B0.out.blk
  refine region_tree (.seg [0, 1, 2, 4, 5] false (.fork (.seg [3] true (.seg [6, 7, 8, 9, 10] false .done)) (.seg [6] false (.seg [3] true (.seg [7, 8, 9, 10] false .done))))) mixed (by kernel_rfl) ?_
  simp only [wpSg, List.map_cons, List.map_nil, List.getD_cons_succ, List.getD_cons_zero]
  go_wp2_with fail
  refine And.intro ?ordA ?ordB
  case' ordA =>
    go_wp2_with fail
    refine (lifted_R pw w0 m b S la lc da dc dots _ (H.out.below B0.out.bel.drew) (Hd.out.below B0.out.bel.drew) Hok.out hn).mono ?_
    intro e w1 hto
    obtain ⟨a1, c1, K1, rfl, hK1, hok1, hcan1, ho1, hb1⟩ := hto
    have Hb1 := Lib.hid hb1
    have B1 := Lib.hid (B0.out.step (((Below.refl _ _).drew).trans hb1))
    have O1 := Lib.hid (OwnD.base (base' := w.heap.size) ho1 (by simp))
    have V1 := Lib.hid hK1
    have Ok1 := Lib.hid hok1
    have hl1 : K1.length ≤ 64 := canon_len hcan1
    clear hK1 hok1 hcan1 ho1 hb1 d0 z0
    have d0 := cells_at B1.out.blk
    have z0 := heap_lt B1.out.blk
    have HA : Hid (Below w1.heap.size w1 (w1.alloc (.cells #[.int .u8 r, .int .u32 i, .int .u64 s] 41))) := Lib.hid ((Below.refl _ _).alloc (Nat.le_refl _) _)
    have HA1 := Lib.hid (below2 B1.out.bel HA.out B1.out.bel.size)
    go_wp2_with fail
    refine And.intro (Agree.of_below Hb1.out) ?_
    go_wp2_with fail
    refine (lifted_R pw w0 m b S la lc (some ⟨w1.heap.size, 0, none⟩) 1 [((r, i), s)] _ (H.out.below HA1.out) (vec_one (heap_new _ _)) Hok1.out (by simp)).mono ?_
    intro e w2 hto
    obtain ⟨a2, c2, K2, rfl, hK2, hok2, hcan2, ho2, hb2⟩ := hto
    have O1' := Lib.hid (OwnD.below O1.out (HA.out.trans (hb2.mono HA.out.size)))
    have B2 := Lib.hid (below2 HA1.out hb2 HA1.out.size)
    have V2 := Lib.hid hK2
    have Ok2 := Lib.hid hok2
    have O2 := Lib.hid ho2.vec
    have hl2 : K2.length ≤ 64 := canon_len hcan2
    clear hK2 hok2 hcan2 ho2 hb2 d0 z0 HA1 HA B1 O1 Hb1
  case' ordB =>
    go_wp2_with fail
    have HA2 : Hid (Below w.heap.size w ((w.alloc (.cells #[.int .u8 r, .int .u32 i, .int .u64 s] 41)).alloc (.cells #[.int .u8 r, .int .u32 i, .int .u64 s] 41)).drew) := Lib.hid ((B0.out.bel.alloc B0.out.bel.size _).drew)
    have O9 : Hid (OwnD ((w.alloc (.cells #[.int .u8 r, .int .u32 i, .int .u64 s] 41)).alloc (.cells #[.int .u8 r, .int .u32 i, .int .u64 s] 41)).drew 0 (some ⟨w.heap.size + 1, 0, none⟩) 1 [((r, i), s)]) := Lib.hid (by
      have h1 := OwnD.one (w.alloc (.cells #[.int .u8 r, .int .u32 i, .int .u64 s] 41)) (base := 0) (Nat.zero_le _) r i s
      have h2 := OwnD.below h1 ((Below.refl _ _).drew)
      simpa using h2)
    refine (lifted_R pw w0 m b S la lc da dc dots _ (H.out.below HA2.out) (Hd.out.below HA2.out) Hok.out hn).mono ?_
    intro e w1 hto
    obtain ⟨a1, c1, K1, rfl, hK1, hok1, hcan1, ho1, hb1⟩ := hto
    have Hb1 := Lib.hid hb1
    have HB1 := Lib.hid (below2 HA2.out hb1 HA2.out.size)
    have O3 := Lib.hid (OwnD.below O9.out hb1)
    have O1 := Lib.hid (OwnD.base (base' := w.heap.size) ho1 (by simp; omega))
    have V1 := Lib.hid hK1
    have Ok1 := Lib.hid hok1
    have hl1 : K1.length ≤ 64 := canon_len hcan1
    clear hK1 hok1 hcan1 ho1 hb1 d0 z0
    go_wp2_with fail
    refine And.intro (Agree.of_below Hb1.out) ?_
    go_wp2_with fail
    refine (lifted_R pw w0 m b S la lc (some ⟨w.heap.size + 1, 0, none⟩) 1 [((r, i), s)] _ (H.out.below HB1.out) O3.out.vec Hok1.out (by simp)).mono ?_
    intro e w2 hto
    obtain ⟨a2, c2, K2, rfl, hK2, hok2, hcan2, ho2, hb2⟩ := hto
    have O1' := Lib.hid (OwnD.below O1.out hb2)
    have B2 := Lib.hid (below2 HB1.out hb2 HB1.out.size)
    have V2 := Lib.hid hK2
    have Ok2 := Lib.hid hok2
    have O2 := Lib.hid ho2.vec
    have hl2 : K2.length ≤ 64 := canon_len hcan2
    clear hK2 hok2 hcan2 ho2 hb2 HA2 O9 O3 HB1 O1 Hb1
  all_goals
    go_wp2_with fail
    refine (rmeet_any a1 a2 c1 c2 K1 K2 _ O1'.out.vec O2.out Ok1.out Ok2.out (by omega) (by omega)).mono ?_
    rintro e w3 ⟨a3, c3, rfl, ho3, hb3⟩
    have B3 := Lib.hid (below2 B2.out hb3 B2.out.size)
    have O3 := Lib.hid (vec_of ho3)
    have hl3 : (meetV K1 K2).length ≤ 64 := vecOf_length _
    have Ok3 := Lib.hid (okV_meetV Ok1.out Ok2.out)
    clear ho3 hb3
    go_wp2_with fail
    refine (within_R pw w0 m b S la lc a3 c3 (meetV K1 K2) _ (H.out.below B3.out) O3.out Ok3.out (by omega)).mono ?_
    intro e w4 hto
    obtain ⟨a4, c4, g, rfl, hg, hok4, hl4, ho4, hb4⟩ := hto
    have HG := Lib.hid (show WitP (cms S) (joinV (meetV (liftV b.b.f (findC (cms S)) dots) (liftV b.b.f (findC (cms S)) [((r, i), s)])) b.b.f) g from by rw [← V1.out, ← V2.out]; exact hg)
    have Hok4 := Lib.hid hok4
    have Hl4 := Lib.hid hl4
    have Ho4 := Lib.hid (OwnD.base (base' := w.heap.size) ho4 B3.out.size)
    have B4 := Lib.hid (below2 B3.out hb4 B3.out.size)
    clear hg hok4 hl4 ho4 hb4
    go_wp2_with fail
    refine And.intro (by kernel_rfl) ?_
    go_wp2_with fail
    go_ret
    exact ⟨a4, c4, g, rfl, HG.out, Hok4.out, Hl4.out, Ho4.out, B4.out⟩
end Go.Proofs.YthdmoplclllhjaaGreat
