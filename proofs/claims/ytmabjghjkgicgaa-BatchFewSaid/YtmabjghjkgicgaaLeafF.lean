/- leaf.May: contract. -/
import Derived.Test.YtmabjghjkgicgaaLeafE
namespace Go.Proofs.Ytmabjghjkgicgaa
open Go.RowKit
set_option linter.unusedVariables false
set_option linter.unusedSimpArgs false

theorem Held.of_chg {w w' : World} {q : Nat} {C : Array Value} {t : TypeId} {fr : Nat × Nat} {F : List Nat} (hq : w.heap[q]? = some (.cells C t fr)) (hc : Chg F w w') (hn : q ∉ F) : Held (fun k => k = q) w w' := by
  refine .inr fun k o hk ho => ?_
  have hk' : k = q := hk
  subst hk'
  have h2 := heap_chg hq hc (by simpa using hn)
  rw [hq] at ho
  have ho' := Option.some.inj ho
  subst ho'
  exact ⟨fun _ _ h => (by cases h), h2⟩
theorem held_alloc (w : World) (C D D' : Array Value) (t t' : TypeId) : Held (fun q => q = w.heap.size) ((w.alloc (.cells C t)).alloc (.cells D t')).drew ((w.alloc (.cells C t)).alloc (.cells D' t')).drew := by
  refine .inr fun k o hk ho => ?_
  have hk' : k = w.heap.size := hk
  subst hk'
  have h1 : ∀ D : Array Value, ((w.alloc (.cells C t)).alloc (.cells D t')).drew.heap[w.heap.size]? = some (.cells C t (0, 0)) := fun D => (heap_old (w.alloc (.cells C t)) (.cells D t') (by simp)).trans (heap_new w _)
  rw [h1] at ho
  have ho' := Option.some.inj ho
  subst ho'
  exact ⟨fun _ _ h => (by cases h), h1 _⟩
theorem toList_nil {x : ByteArray} : x.toList = [] ↔ x.size = 0 := by
  rw [ByteArray.toList_eq, Array.toList_eq_nil_iff]
  exact ⟨fun h => by show x.data.size = 0; rw [h]; rfl, fun h => Array.eq_empty_of_size_eq_zero h⟩
theorem LfAt.none {w : World} {l : Lf} (h : l.items = []) (h2 : l.tombs = []) : LfAt w l none 0 none 0 := by
  refine ⟨?_, ?_, by simp [h], by simp [h2]⟩
  · unfold Its; rw [h]; exact Sl.nil w 5
  · unfold Vec; rw [h2]; exact Sl.nil w 3
set_option maxRecDepth 100000 in
set_option maxHeartbeats 4000000 in
theorem mayL1 (l : Lf) (ia ta : Option Addr) (ic tc : Nat) (w : World) (hl : LfAt w l ia ic ta tc) (hk : l.k = 1) :
    Calls Try.prog 24 #[lval l ia ic ta tc] w fun e w' => ∃ q : Bool, e = .returned (.bool q) ∧ (q = true ↔ MayLf l) ∧ Below w.heap.size w w' := by
  obtain ⟨lk, ln, lt, ⟨⟨lr, li⟩, ls⟩, lx, is, ts⟩ := l
  dsimp only at hk
  subst hk
  have Hl := Lib.hid hl
  clear hl
  simp only [lval]
  go_enter Try.func24, Try.ntmps24
  go_wp2_with fail
  refine (sameL_any ⟨1, ln, lt, ((lr, li), ls), lx, is, ts⟩ ⟨1, ln, 0, noDot, ByteArray.empty, [], []⟩ ia ta none none ic tc 0 0 _ (Hl.out.below ?hb) (LfAt.none rfl rfl)).mono ?_
  case hb => exact ((Below.refl _ _).alloc (Nat.le_refl _) _).alloc (by simp) _
  rintro e w1 ⟨q, rfl, hq, hb⟩
  have HB : Hid (Below w.heap.size w w1) := Lib.hid (new2 hb).2.2.2
  have Hq := Lib.hid hq
  clear hq hb
  go_wp2_with fail
  go_ret
  refine ⟨q, rfl, Hq.out.trans ?_, HB.out⟩
  simp only [Lf.mk.injEq, MayLf, NoReg, noDot]
  constructor
  · rintro ⟨_, _, rfl, h1, rfl, rfl, rfl⟩
    exact .inl ⟨(by trivial), ⟨(by trivial), h1, rfl⟩, (by trivial), (by trivial)⟩
  · rintro (⟨_, ⟨rfl, h1, h2⟩, rfl, rfl⟩ | ⟨h, _⟩ | ⟨h, _⟩ | ⟨h, _⟩)
    · exact ⟨(by trivial), (by trivial), (by trivial), h1, ByteArray.ext (Array.eq_empty_of_size_eq_zero h2), (by trivial), (by trivial)⟩
    all_goals simp at h
theorem empty_bytes {x : ByteArray} (h : x.size = 0) : x = ByteArray.empty := ByteArray.ext (Array.eq_empty_of_size_eq_zero h)
set_option maxRecDepth 100000 in
set_option maxHeartbeats 4000000 in
theorem mayL4 (l : Lf) (ia ta : Option Addr) (ic tc : Nat) (w : World) (hl : LfAt w l ia ic ta tc) (hok : okV (dotsOf l.items)) (hk : l.k = 4) :
    Calls Try.prog 24 #[lval l ia ic ta tc] w fun e w' => ∃ q : Bool, e = .returned (.bool q) ∧ (q = true ↔ MayLf l) ∧ Below w.heap.size w w' := by
  obtain ⟨lk, ln, lt, ⟨⟨lr, li⟩, ls⟩, lx, is, ts⟩ := l
  dsimp only at hk hok
  subst hk
  have Hl := Lib.hid hl
  clear hl
  simp only [lval]
  go_enter Try.func24, Try.ntmps24
  go_wp2_with fail
  refine (items_any ia ic is true _ (Hl.out.its.below ?hb) hok Hl.out.li).mono ?_
  case hb => exact ((Below.refl _ _).alloc (Nat.le_refl _) _).alloc (by simp) _
  rintro e w1 ⟨q, rfl, hq, hb⟩
  obtain ⟨hx0, hx1, hz, hB⟩ := new2 hb
  have d0 := cells_at hx0
  have d1 := cells_at hx1
  have HB := Lib.hid hB
  have Hq := Lib.hid hq
  clear hq hb hx0 hx1 hB
  cases q with
  | false =>
    have He := Lib.hid (show ¬ MayLf ⟨4, ln, lt, ((lr, li), ls), lx, is, ts⟩ by
      rintro (⟨h, _⟩ | ⟨h, _⟩ | ⟨h, _⟩ | ⟨_, _, _, h, _⟩)
      · simp at h
      · simp at h
      · simp at h
      · have := Hq.out.2 h; simp at this)
    go_wp2_with fail
    go_ret
    exact ⟨false, rfl, false_iff' He.out, HB.out⟩
  | true =>
    go_wp2_with fail
    refine (sameL_any ⟨4, ln, lt, ((lr, li), ls), lx, is, ts⟩ ⟨4, 0, 0, noDot, ByteArray.empty, is, []⟩ ia ta ia none ic tc ic 0 _ (Hl.out.below HB.out) ⟨Hl.out.its.below HB.out, Sl.nil w1 3, Hl.out.li, by simp⟩).mono ?_
    rintro e w2 ⟨q, rfl, hq2, hb2⟩
    have HB2 := Lib.hid (below2 HB.out hb2 HB.out.size)
    have Hq2 := Lib.hid hq2
    clear hq2 hb2
    go_wp2_with fail
    go_ret
    refine ⟨q, rfl, Hq2.out.trans ?_, HB2.out⟩
    have hi := Hq.out.1 (by simp)
    simp only [Lf.mk.injEq, MayLf, NoReg, noDot]
    constructor
    · rintro ⟨_, rfl, rfl, h1, rfl, _, rfl⟩
      exact .inr (.inr (.inr ⟨(by trivial), (by trivial), ⟨(by trivial), h1, rfl⟩, hi, (by trivial)⟩))
    · rintro (⟨h, _⟩ | ⟨h, _⟩ | ⟨h, _⟩ | ⟨_, rfl, ⟨rfl, h1, h2⟩, _, rfl⟩)
      · simp at h
      · simp at h
      · simp at h
      · exact ⟨(by trivial), (by trivial), (by trivial), h1, empty_bytes h2, (by trivial), (by trivial)⟩
set_option maxRecDepth 100000 in
set_option maxHeartbeats 4000000 in
theorem mayL3 (l : Lf) (ia ta : Option Addr) (ic tc : Nat) (w : World) (hl : LfAt w l ia ic ta tc) (hok : okV (dotsOf l.items)) (hk : l.k = 3) :
    Calls Try.prog 24 #[lval l ia ic ta tc] w fun e w' => ∃ q : Bool, e = .returned (.bool q) ∧ (q = true ↔ MayLf l) ∧ Below w.heap.size w w' := by
  obtain ⟨lk, ln, lt, ⟨⟨lr, li⟩, ls⟩, lx, is, ts⟩ := l
  dsimp only at hk hok
  subst hk
  have Hl := Lib.hid hl
  clear hl
  simp only [lval]
  go_enter Try.func24, Try.ntmps24
  go_wp2_with fail
  refine region_tree_at (fun q => q = w.heap.size) (sgOf [([0, 1, 2, 3, 4], false), ([5], true), ([6, 7], false)]) mixed (by kernel_rfl) ?_
  simp only [sgOf, wpSgB, List.map_cons, List.map_nil, List.getD_cons_succ, List.getD_cons_zero]
  go_wp2_with fail
  refine And.intro (held_alloc _ _ _ _ _ _) ?_
  go_wp2_with fail
  refine And.intro (And.intro (by kernel_rfl) (reads_of ?rds)) ?_
  case rds => exact ⟨trivial, rfl, trivial, rfl, trivial, trivial, trivial, trivial, trivial⟩
  go_wp2_with fail
  refine (items_any ia ic is false _ (Hl.out.its.below ?hb) hok Hl.out.li).mono ?_
  case hb => exact (((Below.refl _ _).alloc (Nat.le_refl _) _).alloc (by simp) _).drew
  rintro e w1 ⟨q, rfl, hq, hb⟩
  obtain ⟨hx0, hx1, hz, hB⟩ := new2 (((Below.refl _ _).drew).trans hb)
  have d0 := cells_at hx0
  have d1 := cells_at hx1
  have Hx0 := Lib.hid hx0
  have Hx1 := Lib.hid hx1
  have HB := Lib.hid hB
  have Hq := Lib.hid hq
  clear hq hb hx0 hx1 hB
  cases q with
  | false =>
    have He := Lib.hid (show ¬ MayLf ⟨3, ln, lt, ((lr, li), ls), lx, is, ts⟩ by
      rintro (⟨h, _⟩ | ⟨h, _⟩ | ⟨_, _, _, h, _⟩ | ⟨h, _⟩)
      · simp at h
      · simp at h
      · have := Hq.out.2 h; simp at this
      · simp at h)
    go_wp2_with fail
    go_ret
    exact ⟨false, rfl, false_iff' He.out, HB.out⟩
  | true =>
    go_wp2_with fail
    refine (tombs_any ⟨3, ln, lt, ((lr, li), ls), lx, is, ts⟩ ia ta ic tc _ (Hl.out.below HB.out)).mono ?_
    rintro e w2 ⟨q, rfl, hq2, hb2⟩
    have hx0 := (hb2.block _ (heap_lt Hx0.out)).trans Hx0.out
    have hx1 := (hb2.block _ (heap_lt Hx1.out)).trans Hx1.out
    have HB2 := Lib.hid (below2 HB.out hb2 HB.out.size)
    have Hq2 := Lib.hid hq2
    clear hq2 hb2 d0 d1 Hx0 Hx1
    have d0 := cells_at hx0
    have d1 := cells_at hx1
    clear hx0 hx1
    cases q with
    | false =>
      have He := Lib.hid (show ¬ MayLf ⟨3, ln, lt, ((lr, li), ls), lx, is, ts⟩ by
        rintro (⟨h, _⟩ | ⟨h, _⟩ | ⟨_, _, _, _, h⟩ | ⟨h, _⟩)
        · simp at h
        · simp at h
        · have := Hq2.out.2 h; simp at this
        · simp at h)
      go_wp2_with fail
      go_ret
      exact ⟨false, rfl, false_iff' He.out, HB2.out⟩
    | true =>
      go_wp2_with fail
      refine (sameL_any ⟨3, ln, lt, ((lr, li), ls), lx, is, ts⟩ ⟨3, 0, 0, noDot, ByteArray.empty, is, ts⟩ ia ta ia ta ic tc ic tc _ (Hl.out.below HB2.out) ⟨Hl.out.its.below HB2.out, Hl.out.tms.below HB2.out, Hl.out.li, Hl.out.lt⟩).mono ?_
      rintro e w3 ⟨q, rfl, hq3, hb3⟩
      have HB3 := Lib.hid (below2 HB2.out hb3 HB2.out.size)
      have Hq3 := Lib.hid hq3
      clear hq3 hb3
      go_wp2_with fail
      go_ret
      refine ⟨q, rfl, Hq3.out.trans ?_, HB3.out⟩
      have hi := Hq.out.1 (by simp)
      have ht := Hq2.out.1 (by simp)
      simp only [Lf.mk.injEq, MayLf, NoReg, noDot]
      constructor
      · rintro ⟨_, rfl, rfl, h1, rfl, _, _⟩
        exact .inr (.inr (.inl ⟨(by trivial), (by trivial), ⟨(by trivial), h1, rfl⟩, hi, ht⟩))
      · rintro (⟨h, _⟩ | ⟨h, _⟩ | ⟨_, rfl, ⟨rfl, h1, h2⟩, _, _⟩ | ⟨h, _⟩)
        · simp at h
        · simp at h
        · exact ⟨(by trivial), (by trivial), (by trivial), h1, empty_bytes h2, (by trivial), (by trivial)⟩
        · simp at h
set_option maxRecDepth 100000 in
set_option maxHeartbeats 4000000 in
theorem mayL2 (l : Lf) (ia ta : Option Addr) (ic tc : Nat) (w : World) (hl : LfAt w l ia ic ta tc) (h0 : 0 ≤ l.t) (hk : l.k = 2) :
    Calls Try.prog 24 #[lval l ia ic ta tc] w fun e w' => ∃ q : Bool, e = .returned (.bool q) ∧ (q = true ↔ MayLf l) ∧ Below w.heap.size w w' := by
  obtain ⟨lk, ln, lt, ⟨⟨lr, li⟩, ls⟩, lx, is, ts⟩ := l
  dsimp only at hk h0
  subst hk
  have H0 := Lib.hid h0
  have Hl := Lib.hid hl
  clear hl h0
  simp only [lval]
  go_enter Try.func24, Try.ntmps24
  go_wp2_with fail
  refine region_tree_at (fun q => q = w.heap.size) (sgOf [([0, 1, 2, 3, 4, 5, 6], false), ([7], true), ([8], false), ([9], true), ([10, 11], false)]) mixed (by kernel_rfl) ?_
  simp only [sgOf, wpSgB, List.map_cons, List.map_nil, List.getD_cons_succ, List.getD_cons_zero]
  go_wp2_with fail
  refine And.intro (held_alloc _ _ _ _ _ _) ?_
  go_wp2_with fail
  refine And.intro (held_alloc _ _ _ _ _ _) ?_
  go_wp2_with fail
  refine And.intro (And.intro (by kernel_rfl) (reads_of ?rds)) ?_
  case rds => exact ⟨trivial, rfl, trivial, rfl, trivial, rfl, trivial, trivial, trivial, trivial, trivial, trivial, trivial⟩
  have HA : Hid (Below w.heap.size w ((w.alloc (.cells #[.int .u8 2, .int .i64 ln, .int .u64 lt, .int .u8 lr, .int .u32 li, .int .u64 ls, .string lx, .slice ia is.length ic, .slice ta ts.length tc] 40)).alloc (.cells #[.int .u8 2, .int .i64 0, .int .u64 lt, .int .u8 lr, .int .u32 li, .int .u64 ls, .string lx, .slice none 0 0, .slice none 0 0] 40)).drew) := Lib.hid (((Below.refl _ _).alloc (Nat.le_refl _) _).alloc (by simp) _).drew
  by_cases ht : lt = 0
  · subst ht
    cases hd : eqD ((lr, li), ls) ((0, 0), 0) with
    | false =>
      have He := Lib.hid (show ¬ MayLf ⟨2, ln, 0, ((lr, li), ls), lx, is, ts⟩ by
        rintro (⟨h, _⟩ | ⟨_, _, h, _⟩ | ⟨h, _⟩ | ⟨h, _⟩)
        · simp at h
        · rcases h with ⟨_, h, _⟩ | ⟨h, _⟩
          · have := (eqD_iff _ _).2 (show ((lr, li), ls) = ((0, 0), 0) from h)
            rw [hd] at this; cases this
          · exact h rfl
        · simp at h
        · simp at h)
      go_wp2_with fail
      go_ret
      exact ⟨false, rfl, false_iff' He.out, HA.out⟩
    | true =>
      by_cases hx : lx.toList = []
      · go_wp2_with fail
        refine (sameL_any ⟨2, ln, 0, ((lr, li), ls), lx, is, ts⟩ ⟨2, 0, 0, ((lr, li), ls), lx, [], []⟩ ia ta none none ic tc 0 0 _ (Hl.out.below HA.out) (LfAt.none rfl rfl)).mono ?_
        rintro e w1 ⟨q, rfl, hq, hb⟩
        have HS := Lib.hid (below2 HA.out hb HA.out.size)
        have Hq := Lib.hid hq
        clear hq hb
        go_wp2_with fail
        go_ret
        refine ⟨q, rfl, Hq.out.trans ?_, HS.out⟩
        simp only [Lf.mk.injEq, MayLf]
        constructor
        · rintro ⟨_, rfl, _, _, _, rfl, rfl⟩
          exact .inr (.inl ⟨(by trivial), (by trivial), .inl ⟨rfl, (eqD_iff _ _).1 hd, by rw [← toList_nil]; exact hx⟩, (by trivial), (by trivial)⟩)
        · rintro (⟨h, _⟩ | ⟨_, rfl, _, rfl, rfl⟩ | ⟨h, _⟩ | ⟨h, _⟩)
          · simp at h
          · exact ⟨(by trivial), (by trivial), (by trivial), (by trivial), (by trivial), (by trivial), (by trivial)⟩
          · simp at h
          · simp at h
      · have hx' : (lx.toList == []) = false := by simpa using hx
        have He := Lib.hid (show ¬ MayLf ⟨2, ln, 0, ((lr, li), ls), lx, is, ts⟩ by
          rintro (⟨h, _⟩ | ⟨_, _, h, _⟩ | ⟨h, _⟩ | ⟨h, _⟩)
          · simp at h
          · rcases h with ⟨_, _, h⟩ | ⟨h, _⟩
            · exact hx (toList_nil.2 h)
            · exact h rfl
          · simp at h
          · simp at h)
        go_wp2_with fail
        go_ret
        exact ⟨false, rfl, false_iff' He.out, HA.out⟩
  · have ht' : (lt == 0) = false := by simpa using ht
    go_wp2_with fail
    refine (isTime_any lt _).mono ?_
    rintro e w1 ⟨rfl, hb1⟩
    obtain ⟨hx0, hx1, hz, hB⟩ := new2 (((Below.refl _ _).drew).trans hb1)
    have d0 := cells_at hx0
    have d1 := cells_at hx1
    have Hx0 := Lib.hid hx0
    have Hx1 := Lib.hid hx1
    have HB := Lib.hid hB
    clear hb1 hx0 hx1 hB HA
    cases hT : isT lt with
    | false =>
      have He := Lib.hid (show ¬ MayLf ⟨2, ln, lt, ((lr, li), ls), lx, is, ts⟩ by
        rintro (⟨h, _⟩ | ⟨_, _, h, _⟩ | ⟨h, _⟩ | ⟨h, _⟩)
        · simp at h
        · rcases h with ⟨h, _⟩ | ⟨h, h2, _⟩
          · exact ht h
          · have := (isT_iff lt).2 ⟨by have := H0.out; dsimp only at h; omega, h2⟩; rw [hT] at this; cases this
        · simp at h
        · simp at h)
      go_wp2_with fail
      go_ret
      exact ⟨false, rfl, false_iff' He.out, HB.out⟩
    | true =>
      go_wp2_with fail
      refine (may_any lr li ls _).mono ?_
      rintro e w2 ⟨rfl, hb2⟩
      have hx0 := (hb2.block _ (heap_lt Hx0.out)).trans Hx0.out
      have hx1 := (hb2.block _ (heap_lt Hx1.out)).trans Hx1.out
      have HB2 := Lib.hid (below2 HB.out hb2 HB.out.size)
      clear hb2 d0 d1 Hx0 Hx1 HB
      have d0 := cells_at hx0
      have d1 := cells_at hx1
      have Hx0 := Lib.hid hx0
      have Hx1 := Lib.hid hx1
      clear hx0 hx1
      cases hm : may ((lr, li), ls) with
      | false =>
        have He := Lib.hid (show ¬ MayLf ⟨2, ln, lt, ((lr, li), ls), lx, is, ts⟩ by
          rintro (⟨h, _⟩ | ⟨_, _, h, _⟩ | ⟨h, _⟩ | ⟨h, _⟩)
          · simp at h
          · rcases h with ⟨h, _⟩ | ⟨_, _, h, _⟩
            · exact ht h
            · rw [hm] at h; cases h
          · simp at h
          · simp at h)
        go_wp2_with fail
        go_ret
        exact ⟨false, rfl, false_iff' He.out, HB2.out⟩
      | true =>
        go_wp2_with fail
        refine (isText_any lx _).mono ?_
        rintro e w3 ⟨rfl, hb3⟩
        have hx0 := (hb3.block _ (heap_lt Hx0.out)).trans Hx0.out
        have hx1 := (hb3.block _ (heap_lt Hx1.out)).trans Hx1.out
        have HB3 := Lib.hid (below2 HB2.out hb3 HB2.out.size)
        clear hb3 d0 d1 Hx0 Hx1 HB2
        have d0 := cells_at hx0
        have d1 := cells_at hx1
        clear hx0 hx1
        by_cases hsz : lx.size ≤ 40
        · have Hsz := Lib.hid hsz
          have HT := Lib.hid hT
          have Hm := Lib.hid hm
          rw [show decide (lx.size ≤ 40) = true by simpa using hsz]
          clear hsz
          go_wp2_with fail
          refine (sameL_any ⟨2, ln, lt, ((lr, li), ls), lx, is, ts⟩ ⟨2, 0, lt, ((lr, li), ls), lx, [], []⟩ ia ta none none ic tc 0 0 _ (Hl.out.below HB3.out) (LfAt.none rfl rfl)).mono ?_
          rintro e w4 ⟨q, rfl, hq, hb⟩
          have HS := Lib.hid (below2 HB3.out hb HB3.out.size)
          have Hq := Lib.hid hq
          clear hq hb
          go_wp2_with fail
          go_ret
          refine ⟨q, rfl, Hq.out.trans ?_, HS.out⟩
          simp only [Lf.mk.injEq, MayLf]
          constructor
          · rintro ⟨_, rfl, _, _, _, rfl, rfl⟩
            exact .inr (.inl ⟨(by trivial), (by trivial), .inr ⟨ht, ((isT_iff lt).1 HT.out).2, Hm.out, Hsz.out⟩, (by trivial), (by trivial)⟩)
          · rintro (⟨h, _⟩ | ⟨_, rfl, _, rfl, rfl⟩ | ⟨h, _⟩ | ⟨h, _⟩)
            · simp at h
            · exact ⟨(by trivial), (by trivial), (by trivial), (by trivial), (by trivial), (by trivial), (by trivial)⟩
            · simp at h
            · simp at h
        · rw [show decide (lx.size ≤ 40) = false by simpa using hsz]
          have He := Lib.hid (show ¬ MayLf ⟨2, ln, lt, ((lr, li), ls), lx, is, ts⟩ by
            rintro (⟨h, _⟩ | ⟨_, _, h, _⟩ | ⟨h, _⟩ | ⟨h, _⟩)
            · simp at h
            · rcases h with ⟨h, _⟩ | ⟨_, _, _, h⟩
              · exact ht h
              · exact hsz h
            · simp at h
            · simp at h)
          clear hsz
          go_wp2_with fail
          go_ret
          exact ⟨false, rfl, false_iff' He.out, HB3.out⟩
theorem mayL5 (l : Lf) (ia ta : Option Addr) (ic tc : Nat) (w : World) (hk : l.k ≠ 1 ∧ l.k ≠ 2 ∧ l.k ≠ 3 ∧ l.k ≠ 4) :
    Calls Try.prog 24 #[lval l ia ic ta tc] w fun e w' => ∃ q : Bool, e = .returned (.bool q) ∧ (q = true ↔ MayLf l) ∧ Below w.heap.size w w' := by
  have He := Lib.hid (show ¬ MayLf l by intro h; rcases h.kind with h | h | h | h <;> simp [h] at hk)
  obtain ⟨lk, ln, lt, ⟨⟨lr, li⟩, ls⟩, lx, is, ts⟩ := l
  dsimp only at hk
  have k1 : (lk == 1) = false := by simpa using hk.1
  have k2 : (lk == 2) = false := by simpa using hk.2.1
  have k3 : (lk == 3) = false := by simpa using hk.2.2.1
  have k4 : (lk == 4) = false := by simpa using hk.2.2.2
  clear hk
  simp only [lval]
  go_enter Try.func24, Try.ntmps24
  go_wp2_with fail
  go_ret
  exact ⟨false, rfl, false_iff' He.out, ((Below.refl _ _).alloc (Nat.le_refl _) _).alloc (by simp) _⟩
/-- numbers as they lie in memory -/
def okL (l : Lf) : Prop := (0 ≤ l.k ∧ l.k ≤ 255) ∧ isU l.t ∧ okD l.d ∧ (∀ x ∈ l.items, isU x.t ∧ okD x.d) ∧ okV l.tombs
theorem okL.dots {l : Lf} (h : okL l) : okV (dotsOf l.items) := fun d hd => by
  obtain ⟨x, hx, rfl⟩ := mem_dotsOf.1 hd
  exact (h.2.2.2.1 x hx).2
theorem mayL_any (l : Lf) (ia ta : Option Addr) (ic tc : Nat) (w : World) (hl : LfAt w l ia ic ta tc) (hok : okL l) :
    Calls Try.prog 24 #[lval l ia ic ta tc] w fun e w' => ∃ q : Bool, e = .returned (.bool q) ∧ (q = true ↔ MayLf l) ∧ Below w.heap.size w w' := by
  by_cases h1 : l.k = 1
  · exact mayL1 l ia ta ic tc w hl h1
  by_cases h2 : l.k = 2
  · exact mayL2 l ia ta ic tc w hl hok.2.1.1 h2
  by_cases h3 : l.k = 3
  · exact mayL3 l ia ta ic tc w hl hok.dots h3
  by_cases h4 : l.k = 4
  · exact mayL4 l ia ta ic tc w hl hok.dots h4
  exact mayL5 l ia ta ic tc w ⟨h1, h2, h3, h4⟩
end Go.Proofs.Ytmabjghjkgicgaa
