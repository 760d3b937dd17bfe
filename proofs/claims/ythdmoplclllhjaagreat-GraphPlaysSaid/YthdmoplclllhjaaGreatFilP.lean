/- varveref12.Graph.Greatest: the contract. | Lifted: the contracts of base.Lifted and varveref13.Lifted. | The plain law of BaseOf: what is within the meet of what both sides know, is an ancestor of both. No program in sight. | varveref13.Within, Of: the contracts. | A graph filled in the document's order, plainly. No program in sight. -/
import Derived.Test.YthdmoplclllhjaaGreatRgE
import Derived.Test.YthdmoplclllhjaaGreatRefLA
import Derived.Test.YthdmoplclllhjaaGreatFuseA
import Derived.Test.YthdmoplclllhjaaGreatGraM
import Derived.Test.YthdmoplclllhjaaGreatWitA
import Derived.Test.YthdmoplclllhjaaGreatGraV
import Derived.Test.YthdmoplclllhjaaGreatVec4
import Derived.Test.YthdmoplclllhjaaGreatRgA
import Derived.Test.YthdmoplclllhjaaGreatLwL
/- WitR -/
/- GtR -/
namespace Go.Proofs.YthdmoplclllhjaaGreat
open Go.RowKit
set_option linter.unusedVariables false
set_option linter.unusedSimpArgs false

theorem keepD (a : Option Addr) (c : Nat) (l : List Dt) (k : Nat) (hk : k ≤ l.length) (hc : l.length ≤ c) : ∃ u, u = l.take k ∧ (∀ W : World, (Instr.sliceAt 23 (.slice a l.length c) none (some (.int .i64 (k : Int))) none).run Tryz.prog W = .ok (.slice a (List.length u) c) W) ∧ ∀ w, Vec w a c l → Vec w a c u :=
  ⟨l.take k, rfl, fun W => by rw [slice_hiD a l.length c k (by omega) W, List.length_take, Nat.min_eq_left hk], fun w h => Vec.takeD h hk⟩
/-- one dot more, in its place -/
theorem ins_sorted {v : List Dt} {d : Dt} {k : Nat} (hv : v.Pairwise ltD) (h1 : ∀ y ∈ v.take k, lessD y d = true) (h2 : ∀ y, v[k]? = some y → lessD y d = false) (hd : d ∉ v) : ((v.take k ++ [d]) ++ v.drop k).Pairwise ltD := by
  have key : ∀ x ∈ v.drop k, ltD d x := by
    intro x hx
    obtain ⟨i, hi⟩ := List.getElem?_of_mem hx
    rw [List.getElem?_drop] at hi
    obtain ⟨hi1, hi2⟩ := List.getElem?_eq_some_iff.1 hi
    have hk : k < v.length := by omega
    have h3 := h2 v[k] (List.getElem?_eq_getElem hk)
    have hne : d ≠ v[k] := fun e => hd (e ▸ List.getElem_mem hk)
    have h4 : ltD d v[k] := by
      rcases lessD_total hne with h5 | h5
      · exact h5
      · rw [h5] at h3; cases h3
    rcases Nat.eq_zero_or_pos i with e | e
    · subst e; subst hi2; exact h4
    · have h5 := List.pairwise_iff_getElem.1 hv k (k + i) hk hi1 (by omega)
      rw [hi2] at h5
      exact ltD_trans h4 h5
  rw [List.pairwise_append, List.pairwise_append]
  refine ⟨⟨hv.sublist (List.take_sublist _ _), List.pairwise_singleton _ _, fun x hx y hy => ?_⟩, hv.sublist (List.drop_sublist _ _), fun x hx y hy => ?_⟩
  · rw [List.mem_singleton] at hy; subst hy; exact h1 x hx
  · rcases List.mem_append.1 hx with hx | hx
    · exact ltD_trans (h1 x hx) (key y hy)
    · rw [List.mem_singleton] at hx; subst hx; exact key y hy
theorem ins_mem {v : List Dt} {d : Dt} {k : Nat} (x : Dt) : x ∈ (v.take k ++ [d]) ++ v.drop k ↔ x ∈ v ∨ x = d := by
  rw [List.mem_append, List.mem_append, List.mem_singleton]
  have h : x ∈ v ↔ x ∈ v.take k ∨ x ∈ v.drop k := by rw [← List.mem_append, List.take_append_drop]
  rw [h]
  constructor
  · rintro ((h | h) | h)
    · exact .inl (.inl h)
    · exact .inr h
    · exact .inl (.inr h)
  · rintro ((h | h) | h)
    · exact .inl (.inl h)
    · exact .inr h
    · exact .inl (.inr h)
/-- does the y-th of some dots stand in the way: within another one's history -/
def overB (fd : Fd) (d k : Dt) : Bool := !eqD k d && (match fd k with | some x => hasV x.vv d | none => false)
def overQ (fd : Fd) (l : List Dt) (z : Nat) (d : Dt) : Bool := (l.take z).any fun k => overB fd d k
theorem overQ_next {fd : Fd} {l : List Dt} {z : Nat} {d k : Dt} (h : l[z]? = some k) : overQ fd l (z + 1) d = (overQ fd l z d || overB fd d k) := by
  unfold overQ
  rw [take_snoc' h, List.any_append]
  simp
/-- the greatest of some dots -/
def GrtP (fd : Fd) (l v : List Dt) : Prop := v.Pairwise ltD ∧ ∀ d, d ∈ v ↔ d ∈ l ∧ overQ fd l l.length d = false
def GrtTo (w : World) (fd : Fd) (l : List Dt) (e : Ending) (w' : World) : Prop := ∃ a c v, e = .returned (.slice a (List.length v) c) ∧ GrtP fd l v ∧ okV v ∧ v.length ≤ l.length ∧ OwnD w' w.heap.size a c v ∧ Below w.heap.size w w'
structure GrtE (w wr : World) (fd : Fd) (l : List Dt) (q : Nat) (oa : Option Addr) (oc : Nat) (v : List Dt) : Prop where
  own : OwnD wr w.heap.size oa oc v
  rise : v.Pairwise ltD
  mem : ∀ d, d ∈ v ↔ d ∈ l.take q ∧ overQ fd l l.length d = false
  len : v.length ≤ q
  ok : okV v
  bel : Below w.heap.size w wr
theorem GrtE.below {w wr w' : World} {fd : Fd} {l : List Dt} {q : Nat} {oa : Option Addr} {oc : Nat} {v : List Dt} (h : GrtE w wr fd l q oa oc v) (hb : Below wr.heap.size wr w') : GrtE w w' fd l q oa oc v :=
  ⟨OwnD.below h.own hb, h.rise, h.mem, h.len, h.ok, below2 h.bel hb h.bel.size⟩
theorem GrtE.skip {w wr : World} {fd : Fd} {l : List Dt} {q : Nat} {oa : Option Addr} {oc : Nat} {v : List Dt} {d : Dt} (h : GrtE w wr fd l q oa oc v) (hd : l[q]? = some d) (ho : overQ fd l l.length d = true) : GrtE w wr fd l (q + 1) oa oc v := by
  refine ⟨h.own, h.rise, fun x => ?_, by have := h.len; omega, h.ok, h.bel⟩
  rw [h.mem x, take_snoc' hd, List.mem_append, List.mem_singleton]
  constructor
  · rintro ⟨h1, h2⟩; exact ⟨.inl h1, h2⟩
  · rintro ⟨h1 | h1, h2⟩
    · exact ⟨h1, h2⟩
    · subst h1; rw [ho] at h2; cases h2
theorem GrtE.put {w wr w' : World} {fd : Fd} {l : List Dt} {q k : Nat} {oa oa' : Option Addr} {oc oc' : Nat} {v : List Dt} {d : Dt} (h : GrtE w wr fd l q oa oc v) (hnd : l.Nodup) (hd : l[q]? = some d) (hok : okD d) (ho : overQ fd l l.length d = false)
    (h1 : ∀ y ∈ v.take k, lessD y d = true) (h2 : ∀ y, v[k]? = some y → lessD y d = false) (how : OwnD w' w.heap.size oa' oc' ((v.take k ++ [d]) ++ v.drop k)) (hb : Below w.heap.size w w') : GrtE w w' fd l (q + 1) oa' oc' ((v.take k ++ [d]) ++ v.drop k) := by
  have hn : d ∉ v := fun hm => by
    have h3 := ((h.mem d).1 hm).1
    obtain ⟨i, hi⟩ := List.getElem?_of_mem h3
    rw [List.getElem?_take] at hi
    split at hi
    · rename_i hlt
      obtain ⟨k1, e1⟩ := List.getElem?_eq_some_iff.1 hi
      obtain ⟨k2, e2⟩ := List.getElem?_eq_some_iff.1 hd
      have h4 := List.pairwise_iff_getElem.1 hnd i q k1 k2 hlt
      rw [e1, e2] at h4
      exact h4 rfl
    · cases hi
  refine ⟨how, ins_sorted h.rise h1 h2 hn, fun x => ?_, ?_, fun x hx => ?_, hb⟩
  · rw [ins_mem, h.mem x, take_snoc' hd, List.mem_append, List.mem_singleton]
    constructor
    · rintro (⟨h3, h4⟩ | h3)
      · exact ⟨.inl h3, h4⟩
      · subst h3; exact ⟨.inr rfl, ho⟩
    · rintro ⟨h3 | h3, h4⟩
      · exact .inl ⟨h3, h4⟩
      · exact .inr h3
  · have := h.len
    simp only [List.length_append, List.length_take, List.length_drop, List.length_singleton]
    omega
  · rcases ins_mem x |>.1 hx with h3 | h3
    · exact h.ok x h3
    · subst h3; exact hok
def goD (v : List Dt) (d : Dt) (k : Nat) : Bool := match v[k]? with | some y => lessD y d | none => false
theorem goD_some {v : List Dt} {d y : Dt} {k : Nat} (h : v[k]? = some y) : goD v d k = lessD y d := by unfold goD; rw [h]
theorem goD_none {v : List Dt} {d : Dt} {k : Nat} (h : v.length ≤ k) : goD v d k = false := by unfold goD; rw [List.getElem?_eq_none h]
set_option maxRecDepth 100000 in
set_option maxHeartbeats 16000000 in
theorem greatest_R (pw : Nat) (w0 : World) (m : Nat) (b : Bw) (S : List Cw) (la : Option Addr) (lc : Nat) (a : Option Addr) (c : Nat) (l : List Dt) (w : World) (h : RgAt w pw w0 m b S la lc) (hl : Vec w a c l) (hn : l.length ≤ 1000) (hnd : l.Nodup) (hok : okV l) :
    Calls Tryz.prog 108 #[.pointer (some ⟨pw, 0, none⟩), .slice a l.length c] w (GrtTo w (findC (cms S)) l) := by
  have H := Lib.hid h
  have HL := Lib.hid hl
  have Hnd := Lib.hid hnd
  have Hok := Lib.hid hok
  have hfew := h.few
  have E0 : Hid (GrtE w w (findC (cms S)) l 0 none 0 []) := Lib.hid ⟨OwnD.nil _ _, List.Pairwise.nil, fun d => by simp, Nat.zero_le _, fun x hx => (by cases hx), Below.refl _ _⟩
  clear h hl hnd hok
  go_enter Tryz.func108, Tryz.ntmps108
  go_wp2_with fail
  go_loopw [5, 6] (fun o j wr => ∃ (q : Nat) (oa : Option Addr) (oc : Nat) (v : List Dt), q ≤ l.length ∧ j = .int .i64 q ∧ o = .slice oa (List.length v) oc ∧ Hid (GrtE w wr (findC (cms S)) l q oa oc v)) (fun _ j _ => l.length - (intOf j).toNat)
  case atStart => exact ⟨0, none, 0, [], Nat.zero_le _, rfl, rfl, E0⟩
  case round =>
    obtain ⟨q, oa, oc, v, hq, rfl, rfl, E⟩ := hrel
    clear E0
    by_cases hlt : q < l.length
    · obtain ⟨⟨⟨r, i⟩, s⟩, hx⟩ : ∃ x, l[q]? = some x := ⟨l[q], by simp [hlt]⟩
      have Hx := Lib.hid hx
      clear hx
      go_wp2_with fail
      go_loopw [7, 8] (fun u j wy => ∃ z : Nat, z ≤ l.length ∧ j = .int .i64 z ∧ u = .bool (!overQ (findC (cms S)) l z ((r, i), s)) ∧ Hid (Below wr.heap.size wr wy)) (fun _ j _ => l.length - (intOf j).toNat)
      case atStart => exact ⟨0, Nat.zero_le _, rfl, rfl, Lib.hid (Below.refl _ _)⟩
      case round =>
        obtain ⟨z, hz, rfl, rfl, BW⟩ := hrel
        have EY := Lib.hid (E.out.below BW.out)
        by_cases hlz : z < l.length
        · obtain ⟨⟨⟨r2, i2⟩, s2⟩, hy⟩ : ∃ x, l[z]? = some x := ⟨l[z], by simp [hlz]⟩
          obtain ⟨ad, had, f0, f1, f2, hl0⟩ := (HL.out.below EY.out.bel).at hy
          dsimp only at had f0 f1 f2
          subst had
          have Hy := Lib.hid hy
          clear hy
          go_wp2_with fail
          refine (find_R pw w0 m b S la lc r2 i2 s2 _ (H.out.below EY.out.bel)).mono ?_
          rintro e w2 ⟨rfl, hb⟩
          have BW2 := Lib.hid (below2 BW.out hb BW.out.size)
          have EZ := Lib.hid (E.out.below BW2.out)
          have BWD := Lib.hid (BW2.out.drew)
          clear hb f0 f1 f2 hl0 EY
          obtain ⟨ad1, had1, f0, f1, f2, hl1⟩ := (HL.out.below EZ.out.bel).at Hy.out
          obtain ⟨ad2, had2, e0, e1, e2, hl2⟩ := (HL.out.below EZ.out.bel).at Hx.out
          dsimp only at had1 f0 f1 f2 had2 e0 e1 e2
          obtain rfl : ad = ad1 := Option.some.inj had1
          obtain rfl : ad = ad2 := Option.some.inj had2
          have RB := Lib.hid (H.out.below EZ.out.bel)
          have g0 := cells_at RB.out.blk
          simp only [rgcells] at g0
          have gz := heap_lt RB.out.blk
          clear had1 had2
          have HN := Lib.hid (overQ_next (fd := findC (cms S)) (d := ((r, i), s)) Hy.out)
          cases heq : eqD ((r2, i2), s2) ((r, i), s) with
          | true =>
            have HO := Lib.hid (show overB (findC (cms S)) ((r, i), s) ((r2, i2), s2) = false by unfold overB; rw [heq]; rfl)
            go_wp2_with fail
            refine region_text [([0, 1, 2, 3, 4, 5, 6, 7, 8, 9, 10, 11, 12, 13, 14, 15, 16, 17, 18, 19, 20, 21, 22, 23, 24, 25, 26, 27], false)] mixed (by kernel_rfl) ?_
            simp only [wpSegs, List.map_cons, List.map_nil, List.getD_cons_succ, List.getD_cons_zero]
            go_wp2_with fail
            refine And.intro (by kernel_rfl) ?_
            go_wp2_with fail
            go_roundw
            case rel => exact ⟨z + 1, by omega, by go_num, by rw [HN.out, HO.out, Bool.or_false], BWD⟩
            case measure => simp [intOf]; omega
          | false =>
            rcases ixC_cases S ((r2, i2), s2) with ⟨x1, x2⟩ | ⟨y, v1, x1, x3, _, x2⟩
            · rw [x1]
              have HO := Lib.hid (show overB (findC (cms S)) ((r, i), s) ((r2, i2), s2) = false by unfold overB; rw [x2, Bool.and_false])
              have y1 : decide ((0 : Int) ≤ -1) = false := by decide
              clear x1 x2
              go_wp2_with fail
              refine region_text [([0, 1, 2, 3, 4, 5, 6, 7, 8, 9, 10, 11, 12, 13, 14, 15, 16, 17, 18, 19, 20, 21, 22, 23, 24, 25, 26, 27], false)] mixed (by kernel_rfl) ?_
              simp only [wpSegs, List.map_cons, List.map_nil, List.getD_cons_succ, List.getD_cons_zero]
              go_wp2_with fail
              refine And.intro (by kernel_rfl) ?_
              go_wp2_with fail
              go_roundw
              case rel => exact ⟨z + 1, by omega, by go_num, by rw [HN.out, HO.out, Bool.or_false], BWD⟩
              case measure => simp [intOf]; omega
            · rw [x1]
              have hyl : y < S.length := (List.getElem?_eq_some_iff.1 x3).1
              obtain ⟨ag, hag, ⟨c0, c1, c2, c3, c4, c5, c6, c7, c8, c9, c10⟩, hlb⟩ := RB.out.rows.at_ x3
              subst hag
              have Hat := Lib.hid (RB.out.rows.each v1 (List.mem_of_getElem? x3))
              have hvl := (H.out.may v1 (List.mem_of_getElem? x3)).vlen
              have HO := Lib.hid (show overB (findC (cms S)) ((r, i), s) ((r2, i2), s2) = hasV v1.c.vv ((r, i), s) by unfold overB; rw [x2, heq]; rfl)
              have y1 : decide ((0 : Int) ≤ (y : Int)) = true := decide_eq_true (by omega)
              clear x1 x2 x3 c0 c1 c2 c3 c5 c6 c7 c8 c9 c10
              obtain ⟨⟨⟨⟨r1, i1⟩, s1⟩, ps1, uu1, t1, ⟨k1, n1, x1', p1, ds1⟩⟩, qa1, qc1, ua1, uc1, pa1, pc1, da1, dc1⟩ := v1
              dsimp only at c4 hvl HO
              go_wp2_with fail
              refine region_text [([0, 1, 2, 3, 4, 5, 6, 7, 8, 9, 10, 11, 12, 13, 14, 15, 16, 17, 18, 19, 20, 21, 22, 23, 24, 25, 26, 27], false)] mixed (by kernel_rfl) ?_
              simp only [wpSegs, List.map_cons, List.map_nil, List.getD_cons_succ, List.getD_cons_zero]
              go_wp2_with fail
              refine (rhas_any ua1 uc1 uu1 r i s _ (Hat.out.vv.below ((Below.refl _ _).drew)) (by omega)).mono ?_
              rintro e w3 ⟨rfl, hb⟩
              have BW3 := Lib.hid (below2 BWD.out hb BWD.out.size)
              clear hb f0 f1 f2 e0 e1 e2 hl1 hl2 g0 gz RB c4 hlb Hat
              have HO2 := Lib.hid (show overQ (findC (cms S)) l (z + 1) ((r, i), s) = (overQ (findC (cms S)) l z ((r, i), s) || hasV uu1 ((r, i), s)) by rw [HN.out, HO.out])
              cases hh : hasV uu1 ((r, i), s) with
              | true =>
                rw [hh] at HO2
                go_wp2_with fail
                refine And.intro (by kernel_rfl) ?_
                go_wp2_with fail
                go_roundw
                case rel => exact ⟨z + 1, by omega, by go_num, by rw [HO2.out, Bool.or_true]; rfl, BW3⟩
                case measure => simp [intOf]; omega
              | false =>
                rw [hh] at HO2
                go_wp2_with fail
                refine And.intro (by kernel_rfl) ?_
                go_wp2_with fail
                go_roundw
                case rel => exact ⟨z + 1, by omega, by go_num, by rw [HO2.out, Bool.or_false], BW3⟩
                case measure => simp [intOf]; omega
        · have hzz : z = l.length := by omega
          subst hzz
          have hvl := E.out.len
          obtain ⟨ov, hov⟩ : ∃ ov, ov = overQ (findC (cms S)) l l.length ((r, i), s) := ⟨_, rfl⟩
          rw [← hov]
          have HOv := Lib.hid hov
          clear hov
          cases ov with
          | true =>
            have E2 := Lib.hid (EY.out.skip Hx.out HOv.out.symm)
            go_wp2_with fail
            go_roundw
            case rel => exact ⟨q + 1, oa, oc, v, by omega, by go_num, rfl, E2⟩
            case measure => simp [intOf]; omega
          | false =>
            clear E BW
            obtain ⟨wb, hwb⟩ : ∃ wb, wb = wr := ⟨_, rfl⟩
            subst hwb
            go_wp2_with fail
            go_loopw [10] (fun j wx => ∃ k : Nat, k ≤ v.length ∧ j = .int .i64 k ∧ Hid (∀ y ∈ v.take k, lessD y ((r, i), s) = true) ∧ Hid (Below wb.heap.size wb wx)) (fun j _ => v.length - (intOf j).toNat)
            case atStart => exact ⟨0, Nat.zero_le _, rfl, Lib.hid (by simp), Lib.hid (Below.refl _ _)⟩
            case round =>
              obtain ⟨k, hk, rfl, HA, BX⟩ := hrel
              have EX := Lib.hid (EY.out.below BX.out)
              have BXD := Lib.hid (BX.out.drew)
              go_upto_region 14 with (fail)
              go_cut [73] (fun u wz => u = .bool (goD v ((r, i), s) k) ∧ Hid (Below wb.heap.size wb wz))
              case first =>
                by_cases hkl : k < v.length
                · obtain ⟨⟨⟨r3, i3⟩, s3⟩, hy⟩ : ∃ x, v[k]? = some x := ⟨v[k], by simp [hkl]⟩
                  obtain ⟨ae, hae, f0, f1, f2, hl1⟩ := EX.out.own.vec.at hy
                  obtain ⟨ad2, had2, e0, e1, e2, hl2⟩ := (HL.out.below EX.out.bel).at Hx.out
                  dsimp only at hae f0 f1 f2 had2 e0 e1 e2
                  subst hae had2
                  have HG := Lib.hid (goD_some (d := ((r, i), s)) hy)
                  clear hy
                  go_wp2_with fail
                  refine region_text [([0, 1, 2, 3, 4, 5, 6, 7, 8, 9, 10, 11, 12, 13, 14], false)] mixed (by kernel_rfl) ?_
                  simp only [wpSegs, List.map_cons, List.map_nil, List.getD_cons_succ, List.getD_cons_zero]
                  go_wp2_with fail
                  refine (rless_any r3 i3 s3 r i s _).mono ?_
                  rintro e w3 ⟨rfl, hb⟩
                  have BX3 := Lib.hid (below2 BXD.out hb BXD.out.size)
                  clear hb
                  go_wp2_with fail
                  refine And.intro (by kernel_rfl) ?_
                  go_wp2_with fail
                  go_meet
                  exact ⟨by rw [HG.out], BX3⟩
                · have HG := Lib.hid (goD_none (v := v) (d := ((r, i), s)) (k := k) (by omega))
                  have x1 : decide ((k : Int) < (v.length : Int)) = false := decide_eq_false (by omega)
                  go_wp2_with fail
                  refine region_text [([0, 1, 2, 3, 4, 5, 6, 7, 8, 9, 10, 11, 12, 13, 14], false)] mixed (by kernel_rfl) ?_
                  simp only [wpSegs, List.map_cons, List.map_nil, List.getD_cons_succ, List.getD_cons_zero]
                  go_wp2_with fail
                  refine And.intro (by kernel_rfl) ?_
                  go_wp2_with fail
                  go_meet
                  exact ⟨by rw [HG.out], BXD⟩
              case rest =>
                obtain ⟨rfl, B3⟩ := hcut
                obtain ⟨wa, hwa⟩ : ∃ wa, wa = wc := ⟨_, rfl⟩
                subst hwa
                clear EX BX BXD
                cases hgo : goD v ((r, i), s) k with
                | true =>
                  have hkl : k < v.length := Classical.byContradiction fun h => by rw [goD_none (by omega)] at hgo; cases hgo
                  have HA' := Lib.hid (show ∀ y ∈ v.take (k + 1), lessD y ((r, i), s) = true from by
                    obtain ⟨y, hy⟩ : ∃ y, v[k]? = some y := ⟨v[k], by simp [hkl]⟩
                    rw [goD_some hy] at hgo
                    exact all_snoc (p := fun y : Dt => lessD y ((r, i), s) = true) hy HA.out hgo)
                  clear hgo
                  go_wp2_with fail
                  go_roundw
                  case rel => exact ⟨k + 1, by omega, by go_num, HA', B3⟩
                  case measure => simp [intOf]; omega
                | false =>
                  have HB := Lib.hid (show ∀ y, v[k]? = some y → lessD y ((r, i), s) = false from fun y hy => by rw [goD_some hy] at hgo; exact hgo)
                  clear hgo
                  have EA := Lib.hid (EY.out.below B3.out)
                  have hcap : v.length ≤ oc := EA.out.own.cap
                  obtain ⟨U, hU, hUr, hUs⟩ := keepD oa oc v k hk hcap
                  obtain ⟨xa, xc, V, hV, hVr, hVs⟩ := cutD oa oc v k hk hcap
                  have HPut := Lib.hid (show (v.take k ++ [((r, i), s)]) ++ v.drop k = (U ++ [((r, i), s)]) ++ V from by rw [hU, hV])
                  have hUl : U.length ≤ 1000 := by rw [hU]; simp; omega
                  have hVl : V.length ≤ 1000 := by rw [hV]; simp; omega
                  have HUs := Lib.hid hUs
                  have HVs := Lib.hid hVs
                  clear hU hV hUs hVs
                  have A1 : Hid (Below wa.heap.size wa (wa.alloc (.cells #[] 41))) := Lib.hid ((Below.refl _ _).alloc (Nat.le_refl _) _)
                  go_wp2_with (at_builtin; go_must (refine wpList_appD rfl _ _ rfl wa.heap.size (some ⟨wa.heap.size, 0, none⟩) 0 [] rfl (OwnD.made wa (Nat.le_refl _)) oa oc U rfl (HUs.out _ ((EA.out.below A1.out).own.vec)) ?n1 ?b1 ?_))
                  case n1 => simp; omega
                  case b1 => simp
                  intro v1 a1 c1 wd hv1 ho1 hb1 hc1
                  have Hv1 := Lib.hid (show v1 = U from hv1)
                  have hl1 : v1.length ≤ 1000 := by rw [Hv1.out]; exact hUl
                  have Hb1 := Lib.hid (A1.out.trans hb1)
                  have Ho1 := Lib.hid ho1
                  clear hv1 ho1 hb1 hc1 hUr
                  have EB := Lib.hid (EA.out.below Hb1.out)
                  obtain ⟨ad2, had2, e0, e1, e2, hl2⟩ := (HL.out.below EB.out.bel).at Hx.out
                  dsimp only at had2 e0 e1 e2
                  subst had2
                  have A2 : Hid (Below wd.heap.size wd (wd.alloc (.cells #[.int .u8 r, .int .u32 i, .int .u64 s] 41))) := Lib.hid ((Below.refl _ _).alloc (Nat.le_refl _) _)
                  go_wp2_with (at_builtin; go_must (refine wpList_appD rfl _ _ rfl wa.heap.size a1 c1 v1 rfl (OwnD.below Ho1.out A2.out) (some ⟨wd.heap.size, 0, none⟩) 1 [((r, i), s)] rfl (vec_one (heap_new _ _)) ?n2 ?b2 ?_))
                  case n2 => simp; omega
                  case b2 => exact Nat.le_trans Hb1.out.size A2.out.size
                  intro v2 a2 c2 we hv2 ho2 hb2 hc2
                  have Hv2 := Lib.hid (show v2 = U ++ [((r, i), s)] by rw [hv2, Hv1.out])
                  have hl2 : v2.length ≤ 1001 := by rw [Hv2.out]; simp; omega
                  have Hb2 := Lib.hid ((below2 Hb1.out A2.out Hb1.out.size).trans hb2)
                  have Ho2 := Lib.hid ho2
                  clear hv2 ho2 hb2 hc2 e0 e1 e2 A2 Ho1 EB
                  go_wp2_with (at_builtin; go_must (refine wpList_appD rfl _ _ rfl wa.heap.size a2 c2 v2 rfl Ho2.out xa xc V rfl (HVs.out _ ((EA.out.below Hb2.out).own.vec)) ?n3 ?b3 ?_))
                  case n3 => omega
                  case b3 => exact Hb2.out.size
                  intro v3 a3 c3 wf hv3 ho3 hb3 hc3
                  have Hv3 := Lib.hid (show v3 = (v.take k ++ [((r, i), s)]) ++ v.drop k by rw [hv3, Hv2.out, HPut.out])
                  have Hb3 := Lib.hid (Hb2.out.trans hb3)
                  have Hbel := Lib.hid (below2 EA.out.bel Hb3.out EA.out.bel.size)
                  have Ho3 := Lib.hid (OwnD.base (base' := w.heap.size) ho3 EA.out.bel.size)
                  have hokx : okD ((r, i), s) := Hok.out _ (List.mem_of_getElem? Hx.out)
                  have E9 := Lib.hid (EA.out.put (oa' := a3) (oc' := c3) (w' := wf) Hnd.out Hx.out hokx HOv.out.symm HA.out HB.out (by rw [← Hv3.out]; exact Ho3.out) Hbel.out)
                  rw [← Hv3.out] at E9
                  clear hv3 ho3 hb3 hc3 Ho2 HPut Hv3
                  go_wp2_with fail
                  go_roundw
                  case rel => exact ⟨q + 1, a3, c3, v3, by omega, by go_num, rfl, E9⟩
                  case measure => simp [intOf]; omega
    · have hqq : q = l.length := by omega
      have HM := Lib.hid (show GrtP (findC (cms S)) l v from ⟨E.out.rise, fun d => by rw [E.out.mem d, hqq, List.take_length]⟩)
      have hvl := E.out.len
      clear hqq
      go_wp2_with fail
      go_ret
      exact ⟨oa, oc, v, rfl, HM.out, E.out.ok, by omega, E.out.own, E.out.bel⟩
end Go.Proofs.YthdmoplclllhjaaGreat

/- LifA -/
namespace Go.Proofs.YthdmoplclllhjaaGreat
open Go.RowKit
set_option linter.unusedVariables false
set_option linter.unusedSimpArgs false

end Go.Proofs.YthdmoplclllhjaaGreat

/- BofQ -/
namespace Go.Proofs.YthdmoplclllhjaaGreat
open Go.RowKit
set_option linter.unusedVariables false
set_option linter.unusedSimpArgs false

end Go.Proofs.YthdmoplclllhjaaGreat

/- WitR -/
namespace Go.Proofs.YthdmoplclllhjaaGreat
open Go.RowKit
set_option linter.unusedVariables false
set_option linter.unusedSimpArgs false

theorem cms_at {S : List Cw} {k : Nat} {v : Cw} (h : S[k]? = some v) : (cms S)[k]? = some v.c := by unfold cms; rw [List.getElem?_map, h]; rfl
end Go.Proofs.YthdmoplclllhjaaGreat

/- FilP -/
namespace Go.Proofs.YthdmoplclllhjaaGreat
open Go.RowKit
set_option linter.unusedVariables false
set_option linter.unusedSimpArgs false

theorem HistP.perm {F : List Dt} {L M : List Cm} {vv : List Dt} (h : HistP F L vv) (hp : L.Perm M) : HistP F M vv := by
  have e := findC_perm hp h.nodup
  refine ⟨h.okF, h.canon, (hp.map _).nodup_iff.1 h.nodup, fun c hc => h.may c (hp.mem_iff.2 hc), fun c hc => h.out c (hp.mem_iff.2 hc), h.base, fun c hc => h.up c (hp.mem_iff.2 hc), ?_, fun c hc p hpp => ?_, fun c hc y hy => h.anc c (hp.mem_iff.2 hc) y (hp.mem_iff.2 hy)⟩
  · rw [← e]; exact h.low
  · rcases h.par c (hp.mem_iff.2 hc) p hpp with h1 | ⟨y, hy, h1⟩
    · exact .inl h1
    · exact .inr ⟨y, hp.mem_iff.1 hy, h1⟩
theorem HeadsP.uniq {tips : List Dt} {L M : List Cm} {u v : List Dt} (h : HeadsP tips L u) (k : HeadsP tips M v) (hm : ∀ c, c ∈ L ↔ c ∈ M) : u = v := by
  refine rising_ext (lt := ltD) ltD_irrefl (fun h k => ltD_trans h k) h.1 k.1 fun d => ?_
  have e : behindB L d = behindB M d := by
    rw [Bool.eq_iff_iff, behindB_iff, behindB_iff]
    constructor
    · rintro ⟨c, hc, h1⟩; exact ⟨c, (hm c).1 hc, h1⟩
    · rintro ⟨c, hc, h1⟩; exact ⟨c, (hm c).2 hc, h1⟩
  rw [h.2 d, k.2 d, e]
  refine and_congr_left fun _ => or_congr_right ?_
  constructor
  · rintro ⟨c, hc, h1⟩; exact ⟨c, (hm c).1 hc, h1⟩
  · rintro ⟨c, hc, h1⟩; exact ⟨c, (hm c).2 hc, h1⟩
end Go.Proofs.YthdmoplclllhjaaGreat
