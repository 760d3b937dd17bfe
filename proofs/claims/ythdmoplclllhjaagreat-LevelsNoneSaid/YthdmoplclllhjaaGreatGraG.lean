/- graph.Insert's missing; graph.follows: contracts. (printed by wip/tools/genfollows.py) -/
import Derived.Test.YthdmoplclllhjaaGreatGraF
namespace Go.Proofs.YthdmoplclllhjaaGreat
open Go.RowKit
set_option linter.unusedVariables false
set_option linter.unusedSimpArgs false

set_option maxRecDepth 100000 in
set_option maxHeartbeats 2000000 in
theorem missing_any (pg mb : Nat) (w0 : World) (m : Nat) (b : Bw) (L : List Cw) (va : Option Addr) (vc : Nat) (vv : List Dt) (gb : Nat) (r i s : Int) (w : World) (h : GrAt w pg mb w0 m b L va vc vv) (hg : w.cell? ⟨gb, 0, none⟩ = some (.pointer (some ⟨pg, 0, none⟩))) (hd : okD ((r, i), s)) :
    Calls Tryz.prog 75 #[.agg #[.int .u8 r, .int .u32 i, .int .u64 s], .pointer (some ⟨gb, 0, none⟩)] w fun e w' => e = .returned (.bool (!hasG b.b.f (findC (cms L)) ((r, i), s))) ∧ Below w.heap.size w w' := by
  have H := Lib.hid h
  clear h
  have z0 : gb < w.heap.size := World.block_lt_of_cell? w _ hg
  have hB : Below w.heap.size w (w.alloc (.cells #[.int .u8 r, .int .u32 i, .int .u64 s] 41)) := (Below.refl _ _).alloc (Nat.le_refl _) _
  have HB := Lib.hid hB
  clear hB
  go_enter Tryz.func75, Tryz.ntmps75
  go_wp2_with fail
  refine (has_G pg mb w0 m b L va vc vv r i s _ (H.out.below HB.out) hd).mono ?_
  rintro e w1 ⟨rfl, hb⟩
  have HB1 := Lib.hid (below2 HB.out hb HB.out.size)
  clear hb
  go_wp2_with fail
  go_ret
  exact ⟨rfl, HB1.out⟩
/-- within another parent's history -/
def twiceB (uu : List Dt) (p q : Dt) : Bool := !eqD q p && hasV uu q
set_option maxRecDepth 100000 in
set_option maxHeartbeats 2000000 in
theorem twiceG_any (pb xb : Nat) (r0 i0 s0 : Int) (ua : Option Addr) (uu : List Dt) (uc : Nat) (r i s : Int) (w : World) (h0 : w.cell? ⟨pb, 0, none⟩ = some (.int .u8 r0)) (h1 : w.cell? ⟨pb, 1, none⟩ = some (.int .u32 i0)) (h2 : w.cell? ⟨pb, 2, none⟩ = some (.int .u64 s0))
    (h4 : w.cell? ⟨xb, 4, none⟩ = some (.slice ua uu.length uc)) (hu : Vec w ua uc uu) (hok : okV uu) (hn : uu.length ≤ 1000000) (hd : okA (r, i)) :
    Calls Tryz.prog 139 #[.agg #[.int .u8 r, .int .u32 i, .int .u64 s], .pointer (some ⟨pb, 0, none⟩), .pointer (some ⟨xb, 0, none⟩)] w fun e w' => e = .returned (.bool (twiceB uu ((r0, i0), s0) ((r, i), s))) ∧ Below w.heap.size w w' := by
  have HU := Lib.hid hu
  clear hu
  have z0 : pb < w.heap.size := World.block_lt_of_cell? w _ h0
  have z1 : xb < w.heap.size := World.block_lt_of_cell? w _ h4
  have hB : Below w.heap.size w (w.alloc (.cells #[.int .u8 r, .int .u32 i, .int .u64 s] 41)) := (Below.refl _ _).alloc (Nat.le_refl _) _
  have HB := Lib.hid hB
  clear hB
  cases he : eqD ((r, i), s) ((r0, i0), s0) with
  | true =>
    have Hr := Lib.hid (show twiceB uu ((r0, i0), s0) ((r, i), s) = false by simp [twiceB, he])
    go_enter Tryz.func139, Tryz.ntmps139
    go_wp2_with fail
    go_ret
    exact ⟨by rw [Hr.out]; rfl, HB.out⟩
  | false =>
    have Hr := Lib.hid (show twiceB uu ((r0, i0), s0) ((r, i), s) = hasV uu ((r, i), s) by simp [twiceB, he])
    go_enter Tryz.func139, Tryz.ntmps139
    go_wp2_with fail
    refine (has_any ua uc uu r i s _ (HU.out.below HB.out) hn hok hd).mono ?_
    rintro e w1 ⟨rfl, hb⟩
    have HB1 := Lib.hid (below2 HB.out hb HB.out.size)
    clear hb
    go_wp2_with fail
    go_ret
    exact ⟨by rw [Hr.out]; rfl, HB1.out⟩
/-- two new blocks: a commit, the dot ahead -/
structure FoE (w wr : World) (C D : Array Value) : Prop where
  b0 : wr.heap[w.heap.size]? = some (.cells C 46 (0, 0))
  b1 : wr.heap[w.heap.size + 1]? = some (.cells D 41 (0, 0))
  bel : Below w.heap.size w wr
theorem FoE.step {w wr w' : World} {C D : Array Value} (h : FoE w wr C D) (hb : Below wr.heap.size wr w') : FoE w w' C D := ⟨(hb.block _ (heap_lt h.b0)).trans h.b0, (hb.block _ (heap_lt h.b1)).trans h.b1, below2 h.bel hb h.bel.size⟩
def KnP (F : List Dt) (fd : Fd) (c : Cm) (q : Nat) : Prop := c.d.2 = 1 ∨ hasV F (aheadD c.d) = true ∨ ∃ p ∈ c.ps.take q, ∃ x, fd p = some x ∧ hasV x.vv (aheadD c.d) = true
def EachP (fd : Fd) (c : Cm) (q : Nat) : Prop := ∀ p ∈ c.ps.take q, ∀ x, fd p = some x → (∀ o ∈ c.ps, o ≠ p → hasV x.vv o = false) ∧ x.t < c.t
def JFo (w : World) (C D : Array Value) (F : List Dt) (fd : Fd) (c : Cm) (kv j : Value) (wr : World) : Prop :=
  ∃ (q : Nat) (z : Bool), q ≤ c.ps.length ∧ j = .int .i64 q ∧ kv = .bool z ∧ (z = true ↔ KnP F fd c q) ∧ EachP fd c q ∧ FoE w wr C D
theorem KnP.zero {F : List Dt} {fd : Fd} {c : Cm} : KnP F fd c 0 ↔ c.d.2 = 1 ∨ hasV F (aheadD c.d) = true := by simp [KnP]
theorem KnP.none {F : List Dt} {fd : Fd} {c : Cm} {q : Nat} {p : Dt} (hp : c.ps[q]? = some p) (hf : fd p = none) : KnP F fd c (q + 1) ↔ KnP F fd c q := by
  unfold KnP
  rw [take_snoc' hp]
  simp only [List.mem_append, List.mem_singleton]
  constructor
  · rintro (h | h | ⟨o, ho | rfl, x, hx, h⟩)
    · exact .inl h
    · exact .inr (.inl h)
    · exact .inr (.inr ⟨o, ho, x, hx, h⟩)
    · rw [hf] at hx; cases hx
  · rintro (h | h | ⟨o, ho, x, hx, h⟩)
    · exact .inl h
    · exact .inr (.inl h)
    · exact .inr (.inr ⟨o, .inl ho, x, hx, h⟩)
theorem KnP.some {F : List Dt} {fd : Fd} {c y : Cm} {q : Nat} {p : Dt} (hp : c.ps[q]? = some p) (hf : fd p = some y) : KnP F fd c (q + 1) ↔ KnP F fd c q ∨ hasV y.vv (aheadD c.d) = true := by
  unfold KnP
  rw [take_snoc' hp]
  simp only [List.mem_append, List.mem_singleton]
  constructor
  · rintro (h | h | ⟨o, ho | rfl, x, hx, h⟩)
    · exact .inl (.inl h)
    · exact .inl (.inr (.inl h))
    · exact .inl (.inr (.inr ⟨o, ho, x, hx, h⟩))
    · rw [hf] at hx; cases hx; exact .inr h
  · rintro ((h | h | ⟨o, ho, x, hx, h⟩) | h)
    · exact .inl h
    · exact .inr (.inl h)
    · exact .inr (.inr ⟨o, .inl ho, x, hx, h⟩)
    · exact .inr (.inr ⟨p, .inr rfl, y, hf, h⟩)
theorem EachP.none {fd : Fd} {c : Cm} {q : Nat} {p : Dt} (h : EachP fd c q) (hp : c.ps[q]? = some p) (hf : fd p = none) : EachP fd c (q + 1) := fun o ho => by
  rw [take_snoc' hp] at ho
  rcases List.mem_append.1 ho with ho | ho
  · exact h o ho
  · rw [List.mem_singleton] at ho; subst ho; intro x hx; rw [hf] at hx; cases hx
theorem twice_no {fd : Fd} {c y : Cm} {p : Dt} : (¬ ∃ o ∈ c.ps, twiceB y.vv p o = true) ↔ ∀ o ∈ c.ps, o ≠ p → hasV y.vv o = false := by
  constructor
  · intro h o ho hne
    refine Bool.eq_false_iff.2 fun hh => h ⟨o, ho, ?_⟩
    unfold twiceB
    rw [hh, Bool.and_true, Bool.not_eq_true', ← Bool.not_eq_true, eqD_iff]
    exact hne
  · rintro h ⟨o, ho, hh⟩
    unfold twiceB at hh
    rw [Bool.and_eq_true, Bool.not_eq_true', ← Bool.not_eq_true, eqD_iff] at hh
    rw [h o ho hh.1] at hh
    cases hh.2
theorem EachP.some {fd : Fd} {c y : Cm} {q : Nat} {p : Dt} (h : EachP fd c q) (hp : c.ps[q]? = some p) (hf : fd p = some y) (h1 : ¬ ∃ o ∈ c.ps, twiceB y.vv p o = true) (h2 : y.t < c.t) : EachP fd c (q + 1) := fun o ho => by
  rw [take_snoc' hp] at ho
  rcases List.mem_append.1 ho with ho | ho
  · exact h o ho
  · rw [List.mem_singleton] at ho; subst ho; intro x hx; rw [hf] at hx; cases hx
    exact ⟨(twice_no (fd := fd)).1 h1, h2⟩
theorem not_follows {F : List Dt} {fd : Fd} {c y : Cm} {q : Nat} {p : Dt} (hp : c.ps[q]? = some p) (hf : fd p = some y) (h : (∃ o ∈ c.ps, twiceB y.vv p o = true) ∨ c.t ≤ y.t) : ¬ FollowsP F fd c := fun hh => by
  obtain ⟨h1, h2⟩ := hh.each p (List.mem_of_getElem? hp) y hf
  rcases h with h | h
  · exact (twice_no (fd := fd)).2 h1 h
  · omega
theorem follows_iff {F : List Dt} {fd : Fd} {c : Cm} (h : EachP fd c c.ps.length) : FollowsP F fd c ↔ KnP F fd c c.ps.length := by
  unfold EachP at h
  rw [List.take_length] at h
  unfold KnP
  rw [List.take_length]
  exact ⟨fun hh => hh.known, fun hh => ⟨hh, h⟩⟩
set_option maxRecDepth 100000 in
set_option maxHeartbeats 16000000 in
theorem follows_G (pg mb : Nat) (w0 : World) (m : Nat) (b : Bw) (L : List Cw) (va : Option Addr) (vc : Nat) (vv : List Dt) (r i s : Int) (ps uu : List Dt) (t k n : Int) (x : ByteArray) (p : List ByteArray) (ds : List Dt) (qa : Option Addr) (qc : Nat) (ua : Option Addr) (uc : Nat) (pa : Option Addr) (pc : Nat) (da : Option Addr) (dc : Nat) (w : World) (h : GrAt w pg mb w0 m b L va vc vv) (hv : CwAt w ⟨⟨((r, i), s), ps, uu, t, ⟨k, n, x, p, ds⟩⟩, qa, qc, ua, uc, pa, pc, da, dc⟩) (hm : ps.length ≤ 100000) :
    Calls Tryz.prog 78 #[.pointer (some ⟨pg, 0, none⟩), .agg (ccells r i s qa ps.length qc ua uu.length uc t k pa p.length pc n x da ds.length dc), .agg #[.int .u8 r, .int .u32 i, .int .u64 (s - 1)]] w (IsTo w (FollowsP b.b.f (findC (cms L)) ⟨((r, i), s), ps, uu, t, ⟨k, n, x, p, ds⟩⟩)) := by
  have H := Lib.hid h
  have HV := Lib.hid hv
  have g0 := cells_at h.blk
  simp only [gcells] at g0
  have hpg := heap_lt h.blk
  have hA : okA (r, i) := hv.ok.d.1
  have he5 := enters_of Tryz.func139 (by kernel_rfl) rfl
  have hW0 : FoE w ((w.alloc (.cells (ccells r i s qa ps.length qc ua uu.length uc t k pa p.length pc n x da ds.length dc) 46)).alloc (.cells #[.int .u8 r, .int .u32 i, .int .u64 (s - 1)] 41)) (ccells r i s qa ps.length qc ua uu.length uc t k pa p.length pc n x da ds.length dc) #[.int .u8 r, .int .u32 i, .int .u64 (s - 1)] :=
    ⟨(heap_old _ _ (by simp)).trans (heap_new _ _), heap_new2 _ _ _, ((Below.refl _ _).alloc (Nat.le_refl _) _).alloc (by simp) _⟩
  have HW0 := Lib.hid hW0
  clear h hv hW0
  go_enter Tryz.func78, Tryz.ntmps78
  by_cases h1 : s = 1
  case' pos =>
    have e1 : (s == 1) = true := by simpa using h1
    have H1 := Lib.hid h1
    clear h1
    go_wp2_with fail
    refine region_text [([0, 1, 2, 3, 4, 5, 6, 7, 8, 9, 10, 11, 12, 13], false)] mixed (by kernel_rfl) ?_
    simp only [wpSegs, List.map_cons, List.map_nil, List.getD_cons_succ, List.getD_cons_zero]
    go_wp2_with fail
    refine And.intro (by kernel_rfl) ?_
    have E := Lib.hid (HW0.out.step (((Below.refl _ _).drew)))
    have HK0 : Hid (true = true ↔ KnP b.b.f (findC (cms L)) ⟨((r, i), s), ps, uu, t, ⟨k, n, x, p, ds⟩⟩ 0) := Lib.hid ⟨fun _ => KnP.zero.2 (.inl H1.out), fun _ => rfl⟩
  case' neg =>
    have e1 : (s == 1) = false := by simpa using h1
    have H1 := Lib.hid h1
    clear h1
    go_wp2_with fail
    refine region_text [([0, 1, 2, 3, 4, 5, 6, 7, 8, 9, 10, 11, 12, 13], false)] mixed (by kernel_rfl) ?_
    simp only [wpSegs, List.map_cons, List.map_nil, List.getD_cons_succ, List.getD_cons_zero]
    go_wp2_with fail
    refine (has_any b.fa b.fc b.b.f r i (s - 1) _ (H.out.fvec.below HW0.out.bel.drew) (by have := H.out.fmax; omega) H.out.base.okf hA).mono ?_
    rintro e w1 ⟨rfl, hb⟩
    have E := Lib.hid (HW0.out.step (((Below.refl _ _).drew).trans hb))
    have HK0 : Hid (hasV b.b.f ((r, i), s - 1) = true ↔ KnP b.b.f (findC (cms L)) ⟨((r, i), s), ps, uu, t, ⟨k, n, x, p, ds⟩⟩ 0) := Lib.hid ⟨fun h => KnP.zero.2 (.inr h), fun h => (KnP.zero.1 h).resolve_left H1.out⟩
    clear hb
    go_wp2_with fail
    refine And.intro (by kernel_rfl) ?_
  all_goals
    have d0 := cells_at E.out.b0
    simp only [ccells] at d0
    go_wp2_with fail
    go_loopw [7, 29] (fun kv j wr => JFo w (ccells r i s qa ps.length qc ua uu.length uc t k pa p.length pc n x da ds.length dc) #[.int .u8 r, .int .u32 i, .int .u64 (s - 1)] b.b.f (findC (cms L)) ⟨((r, i), s), ps, uu, t, ⟨k, n, x, p, ds⟩⟩ kv j wr) (fun _ j _ => ps.length - (intOf j).toNat)
    case atStart => exact ⟨0, _, Nat.zero_le _, rfl, rfl, (by first | exact HK0.out | exact ⟨fun _ => HK0.out.1 trivial, fun _ => rfl⟩), fun o ho => by simp at ho, E.out⟩
    case round =>
      obtain ⟨q, z, hq, rfl, rfl, hkn, hea, hE⟩ := hrel
      dsimp only at hq
      clear E HK0 d0 g0 e1
      have HK := Lib.hid hkn
      have HE0 := Lib.hid hea
      have E := Lib.hid hE
      have HG := H.out.below hE.bel
      have g0 := cells_at HG.blk
      simp only [gcells] at g0
      have hpg1 := heap_lt HG.blk
      have d0 := cells_at hE.b0
      simp only [ccells] at d0
      have d1 := cells_at hE.b1
      have z0 := heap_lt hE.b0
      have z1 := heap_lt hE.b1
      clear hkn hea hE HG
      by_cases hlt : q < ps.length
      · obtain ⟨⟨⟨r', i'⟩, s'⟩, hx⟩ : ∃ x, ps[q]? = some x := ⟨ps[q], by simp [hlt]⟩
        obtain ⟨ad, had, e0, e1, e2, hl0⟩ := (HV.out.ps.below E.out.bel).at hx
        have hokd : okD ((r', i'), s') := HV.out.ok.ps _ (List.mem_of_getElem? hx)
        dsimp only at had e0 e1 e2
        subst had
        have Hx := Lib.hid hx
        clear hx
        have hW1 : Below wr.heap.size wr (wr.alloc (.cells #[.int .u8 r', .int .u32 i', .int .u64 s'] 41)) := (Below.refl _ _).alloc (Nat.le_refl _) _
        have hB1 := below2 E.out.bel hW1 E.out.bel.size
        have HW1 := Lib.hid hW1
        cases hf : fdW L ((r', i'), s') with
        | none =>
          have l1 := H.out.no2 hB1.drew hokd hf
          have l2 := H.out.no2 (hB1.alloc (by have := E.out.bel.size; simp; omega) (.cells (ccells 0 0 0 none 0 0 none 0 0 0 0 none 0 0 0 ⟨#[]⟩ none 0 0) 46)).drew hokd hf
          have hfc : findC (cms L) ((r', i'), s') = none := by rw [← fdW_c, hf]; rfl
          have Hf := Lib.hid hfc
          simp only [ccells] at l1 l2
          clear hf hfc hW1 hokd hB1
          go_wp2_with fail
          refine region_tree (.seg [0, 1, 2, 3, 4] false (.fork (.seg [5, 6, 7, 8, 9, 10, 11] false .done) (.seg [9, 5, 6, 7, 8, 10, 11] false .done))) mixed (by kernel_rfl) ?_
          simp only [wpSg, List.map_cons, List.map_nil, List.getD_cons_succ, List.getD_cons_zero]
          go_wp2_with fail
          refine And.intro ?_ ?_
          all_goals
            go_wp2_with fail
            refine And.intro (by kernel_rfl) ?_
            go_wp2_with fail
            go_roundw
            case rel => exact ⟨q + 1, z, by dsimp only; omega, by go_num, rfl, HK.out.trans (KnP.none Hx.out Hf.out).symm, HE0.out.none Hx.out Hf.out, E.out.step ((HW1.out.alloc (by simp) _).drew)⟩
            case measure => simp [intOf]; omega
        | some v1 =>
          obtain ⟨⟨⟨⟨r1, i1⟩, s1⟩, ps1, uu1, t1, ⟨k1, n1, x1, p1, ds1⟩⟩, qa1, qc1, ua1, uc1, pa1, pc1, da1, dc1⟩ := v1
          have l1 := H.out.yes2 hB1.drew hokd hf
          have l2 := H.out.yes2 (hB1.alloc (by have := E.out.bel.size; simp; omega) (.cells (ccells 0 0 0 none 0 0 none 0 0 0 0 none 0 0 0 ⟨#[]⟩ none 0 0) 46)).drew hokd hf
          have hfc : findC (cms L) ((r', i'), s') = some ⟨((r1, i1), s1), ps1, uu1, t1, ⟨k1, n1, x1, p1, ds1⟩⟩ := by rw [← fdW_c, hf]; rfl
          have Hf := Lib.hid hfc
          have hat := (H.out.each _ (fdW_some hf).1)
          have hmay := H.out.may _ (fdW_some hf).1
          have Hat := Lib.hid hat.at_
          have hcl := canon_few hmay.canon
          simp only [ccells, cwcells] at l1 l2
          dsimp only at hcl
          clear hf hfc hokd hat hmay
          have hX : Below wr.heap.size wr ((wr.alloc (.cells #[.int .u8 r', .int .u32 i', .int .u64 s'] 41)).alloc (.cells (ccells r1 i1 s1 qa1 ps1.length qc1 ua1 uu1.length uc1 t1 k1 pa1 p1.length pc1 n1 x1 da1 ds1.length dc1) 46)).drew := (hW1.alloc (by simp) _).drew
          have HX := Lib.hid hX
          clear hW1 hB1 hX
          cases z with
          | true =>
            have HK5 : Hid (true = true ↔ KnP b.b.f (findC (cms L)) ⟨((r, i), s), ps, uu, t, ⟨k, n, x, p, ds⟩⟩ (q + 1)) := Lib.hid ⟨fun _ => (KnP.some Hx.out Hf.out).2 (.inl (HK.out.1 rfl)), fun _ => rfl⟩
            go_wp2_with fail
            refine region_tree (.seg [0, 1, 2, 3, 4] false (.fork (.seg [5, 6, 7, 8, 9, 10, 11] false .done) (.seg [9, 5, 6, 7, 8, 10, 11] false .done))) mixed (by kernel_rfl) ?_
            simp only [wpSg, List.map_cons, List.map_nil, List.getD_cons_succ, List.getD_cons_zero]
            go_wp2_with fail
            refine And.intro ?_ ?_
            all_goals
              go_wp2_with fail
              refine And.intro (by kernel_rfl) ?_
              have P5 : Hid (((wr.alloc (.cells #[.int .u8 r', .int .u32 i', .int .u64 s'] 41)).alloc (.cells (ccells r1 i1 s1 qa1 ps1.length qc1 ua1 uu1.length uc1 t1 k1 pa1 p1.length pc1 n1 x1 da1 ds1.length dc1) 46)).drew.heap[wr.heap.size]? = some (.cells #[.int .u8 r', .int .u32 i', .int .u64 s'] 41 (0, 0))) := Lib.hid ((heap_old _ _ (by simp)).trans (heap_new _ _))
              have X5 : Hid (((wr.alloc (.cells #[.int .u8 r', .int .u32 i', .int .u64 s'] 41)).alloc (.cells (ccells r1 i1 s1 qa1 ps1.length qc1 ua1 uu1.length uc1 t1 k1 pa1 p1.length pc1 n1 x1 da1 ds1.length dc1) 46)).drew.heap[wr.heap.size + 1]? = some (.cells (ccells r1 i1 s1 qa1 ps1.length qc1 ua1 uu1.length uc1 t1 k1 pa1 p1.length pc1 n1 x1 da1 ds1.length dc1) 46 (0, 0))) := Lib.hid (heap_new2 _ _ _)
              replace E := Lib.hid (E.out.step HX.out)
              go_wp2_with fail
              refine (containsD_fn 139 #[.pointer (some ⟨wr.heap.size, 0, none⟩), .pointer (some ⟨wr.heap.size + 1, 0, none⟩)] (twiceB uu1 ((r', i'), s')) (some ad) qc ps _ (HV.out.ps.below E.out.bel) (by omega) he5 (fun r2 i2 s2 h2 W2 hW2 => twiceG_any wr.heap.size (wr.heap.size + 1) r' i' s' ua1 uu1 uc1 r2 i2 s2 W2 (by rw [(bcell hW2).1 _ _ (heap_lt P5.out), cells_at P5.out]; rfl) (by rw [(bcell hW2).1 _ _ (heap_lt P5.out), cells_at P5.out]; rfl) (by rw [(bcell hW2).1 _ _ (heap_lt P5.out), cells_at P5.out]; rfl) (by rw [(bcell hW2).1 _ _ (heap_lt X5.out), cells_at X5.out]; rfl) ((Hat.out.vv.below E.out.bel).below hW2) Hat.out.ok.vv (by omega) (HV.out.ok.ps _ h2).1)).mono ?_
              intro e w6 hto
              obtain ⟨z6, rfl, hz6, hb6⟩ := hto
              have Hz6 := Lib.hid hz6
              have x6 := cells_at ((hb6.block _ (heap_lt X5.out)).trans X5.out)
              simp only [ccells] at x6
              replace E := Lib.hid (E.out.step hb6)
              have d6 := cells_at E.out.b0
              simp only [ccells] at d6
              clear hz6 hb6 X5 P5
              cases z6 with
              | true =>
                have Hn := Lib.hid (show ¬ FollowsP b.b.f (findC (cms L)) ⟨((r, i), s), ps, uu, t, ⟨k, n, x, p, ds⟩⟩ from not_follows Hx.out Hf.out (.inl (Hz6.out.1 rfl)))
                go_wp2_with fail
                go_ret
                exact no_name Hn.out E.out.bel
              | false =>
                have Hnt := Lib.hid (show ¬ ∃ o ∈ ps, twiceB uu1 ((r', i'), s') o = true from fun h => by have := Hz6.out.2 h; cases this)
                by_cases htt : t ≤ t1
                · have Hn := Lib.hid (show ¬ FollowsP b.b.f (findC (cms L)) ⟨((r, i), s), ps, uu, t, ⟨k, n, x, p, ds⟩⟩ from not_follows Hx.out Hf.out (.inr htt))
                  have ett : decide (t ≤ t1) = true := by simpa using htt
                  go_wp2_with fail
                  go_ret
                  exact no_name Hn.out E.out.bel
                · have Htt := Lib.hid (show t1 < t by omega)
                  have ett : decide (t ≤ t1) = false := by simpa using htt
                  clear htt
                  go_wp2_with fail
                  go_roundw
                  case rel => exact ⟨q + 1, _, by dsimp only; omega, by go_num, rfl, (by first | exact HK5.out | exact ⟨fun _ => HK5.out.1 trivial, fun _ => rfl⟩), HE0.out.some Hx.out Hf.out Hnt.out Htt.out, E.out⟩
                  case measure => simp [intOf]; omega
          | false =>
            go_wp2_with fail
            refine region_tree (.seg [0, 1, 2, 3, 4] false (.fork (.seg [5, 6, 7, 8, 9, 10, 11] false .done) (.seg [9, 5, 6, 7, 8, 10, 11] false .done))) mixed (by kernel_rfl) ?_
            simp only [wpSg, List.map_cons, List.map_nil, List.getD_cons_succ, List.getD_cons_zero]
            go_wp2_with fail
            refine And.intro ?_ ?_
            all_goals
              go_wp2_with fail
              refine And.intro (by kernel_rfl) ?_
              go_wp2_with fail
              refine (has_any ua1 uc1 uu1 r i (s - 1) _ (Hat.out.vv.below (below2 E.out.bel HX.out E.out.bel.size)) (by omega) Hat.out.ok.vv hA).mono ?_
              rintro e w5 ⟨rfl, hb5⟩
              have hb5' := hb5
              have P5 := Lib.hid ((hb5'.block wr.heap.size (by simp; omega)).trans ((heap_old _ _ (by simp)).trans (heap_new wr (.cells #[.int .u8 r', .int .u32 i', .int .u64 s'] 41))))
              have X5 := Lib.hid ((hb5'.block (wr.heap.size + 1) (by simp)).trans (heap_new2 wr (.cells #[.int .u8 r', .int .u32 i', .int .u64 s'] 41) (.cells (ccells r1 i1 s1 qa1 ps1.length qc1 ua1 uu1.length uc1 t1 k1 pa1 p1.length pc1 n1 x1 da1 ds1.length dc1) 46)))
              have HK5 : Hid (hasV uu1 ((r, i), s - 1) = true ↔ KnP b.b.f (findC (cms L)) ⟨((r, i), s), ps, uu, t, ⟨k, n, x, p, ds⟩⟩ (q + 1)) := Lib.hid ⟨fun h => (KnP.some Hx.out Hf.out).2 (.inr h), fun h => ((KnP.some Hx.out Hf.out).1 h).resolve_left (fun h => by have := HK.out.2 h; cases this)⟩
              replace E := Lib.hid ((E.out.step HX.out).step hb5)
              have d5 := cells_at E.out.b0
              simp only [ccells] at d5
              clear hb5 hb5' l1 l2
              go_wp2_with fail
              refine (containsD_fn 139 #[.pointer (some ⟨wr.heap.size, 0, none⟩), .pointer (some ⟨wr.heap.size + 1, 0, none⟩)] (twiceB uu1 ((r', i'), s')) (some ad) qc ps _ (HV.out.ps.below E.out.bel) (by omega) he5 (fun r2 i2 s2 h2 W2 hW2 => twiceG_any wr.heap.size (wr.heap.size + 1) r' i' s' ua1 uu1 uc1 r2 i2 s2 W2 (by rw [(bcell hW2).1 _ _ (heap_lt P5.out), cells_at P5.out]; rfl) (by rw [(bcell hW2).1 _ _ (heap_lt P5.out), cells_at P5.out]; rfl) (by rw [(bcell hW2).1 _ _ (heap_lt P5.out), cells_at P5.out]; rfl) (by rw [(bcell hW2).1 _ _ (heap_lt X5.out), cells_at X5.out]; rfl) ((Hat.out.vv.below E.out.bel).below hW2) Hat.out.ok.vv (by omega) (HV.out.ok.ps _ h2).1)).mono ?_
              intro e w6 hto
              obtain ⟨z6, rfl, hz6, hb6⟩ := hto
              have Hz6 := Lib.hid hz6
              have x6 := cells_at ((hb6.block _ (heap_lt X5.out)).trans X5.out)
              simp only [ccells] at x6
              replace E := Lib.hid (E.out.step hb6)
              have d6 := cells_at E.out.b0
              simp only [ccells] at d6
              clear hz6 hb6 X5 P5
              cases z6 with
              | true =>
                have Hn := Lib.hid (show ¬ FollowsP b.b.f (findC (cms L)) ⟨((r, i), s), ps, uu, t, ⟨k, n, x, p, ds⟩⟩ from not_follows Hx.out Hf.out (.inl (Hz6.out.1 rfl)))
                go_wp2_with fail
                go_ret
                exact no_name Hn.out E.out.bel
              | false =>
                have Hnt := Lib.hid (show ¬ ∃ o ∈ ps, twiceB uu1 ((r', i'), s') o = true from fun h => by have := Hz6.out.2 h; cases this)
                by_cases htt : t ≤ t1
                · have Hn := Lib.hid (show ¬ FollowsP b.b.f (findC (cms L)) ⟨((r, i), s), ps, uu, t, ⟨k, n, x, p, ds⟩⟩ from not_follows Hx.out Hf.out (.inr htt))
                  have ett : decide (t ≤ t1) = true := by simpa using htt
                  go_wp2_with fail
                  go_ret
                  exact no_name Hn.out E.out.bel
                · have Htt := Lib.hid (show t1 < t by omega)
                  have ett : decide (t ≤ t1) = false := by simpa using htt
                  clear htt
                  go_wp2_with fail
                  go_roundw
                  case rel => exact ⟨q + 1, _, by dsimp only; omega, by go_num, rfl, (by first | exact HK5.out | exact ⟨fun _ => HK5.out.1 trivial, fun _ => rfl⟩), HE0.out.some Hx.out Hf.out Hnt.out Htt.out, E.out⟩
                  case measure => simp [intOf]; omega
      · have hqq : q = ps.length := by omega
        have HF := Lib.hid (show z = true ↔ FollowsP b.b.f (findC (cms L)) ⟨((r, i), s), ps, uu, t, ⟨k, n, x, p, ds⟩⟩ from by
          have h1 := HK.out
          have h2 := HE0.out
          rw [hqq] at h1 h2
          exact h1.trans (follows_iff (c := ⟨((r, i), s), ps, uu, t, ⟨k, n, x, p, ds⟩⟩) h2).symm)
        go_wp2_with fail
        go_ret
        exact ⟨z, rfl, HF.out, E.out.bel⟩
end Go.Proofs.YthdmoplclllhjaaGreat
