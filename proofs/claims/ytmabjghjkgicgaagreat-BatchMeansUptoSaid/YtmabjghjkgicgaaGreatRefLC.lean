/- The reference's May on leaves (varveref05), whole: contract. -/
import Derived.Test.YtmabjghjkgicgaaGreatRefLB
namespace Go.Proofs.YtmabjghjkgicgaaGreat
open Go.RowKit
set_option linter.unusedVariables false
set_option linter.unusedSimpArgs false

theorem notMay {l : Lf} (h1 : l.k = 1 → ¬ (NoReg l ∧ l.items = [] ∧ l.tombs = [])) (h2 : l.k = 2 → ¬ (l.n = 0 ∧ MayReg l.t l.d l.x ∧ l.items = [] ∧ l.tombs = [])) (h3 : l.k = 3 → ¬ (l.n = 0 ∧ NoReg l)) (h4 : l.k = 4 → ¬ (l.n = 0 ∧ NoReg l ∧ l.tombs = [])) : ¬ MayLf l := by
  rintro (h | h | h | h)
  · exact h1 h.1 h.2
  · exact h2 h.1 h.2
  · exact h3 h.1 ⟨h.2.1, h.2.2.1⟩
  · exact h4 h.1 ⟨h.2.1, h.2.2.1, h.2.2.2.2⟩
theorem len_pos {α : Type} {l : List α} (h : l ≠ []) : 0 < l.length := List.length_pos_iff.2 h

set_option maxRecDepth 100000 in
set_option maxHeartbeats 8000000 in
theorem rmayK3 (l : Lf) (ia ta : Option Addr) (ic tc : Nat) (w : World) (hl : LfAt w l ia ic ta tc) (h0 : 0 ≤ l.t) (hk : l.k = 3) :
    Calls Tryz.prog 33 #[lval l ia ic ta tc] w fun e w' => ∃ q : Bool, e = .returned (.bool q) ∧ (q = true ↔ MayLf l) ∧ Below w.heap.size w w' := by
  obtain ⟨lk, ln, lt, ⟨⟨lr, li⟩, ls⟩, lx, is, ts⟩ := l
  dsimp only at hk h0
  subst hk
  have H0 := Lib.hid h0
  have Hl := Lib.hid hl
  clear hl h0
  by_cases hn : ln = 0
  · subst hn
    by_cases ht : lt = 0
    · subst ht
      cases hd : eqD ((lr, li), ls) ((0, 0), 0) with
      | false =>
        have He := Lib.hid (show ¬ MayLf ⟨3, 0, 0, ((lr, li), ls), lx, is, ts⟩ from notMay (fun h => by simp at h) (fun h => by simp at h) (fun _ hh => by have := (eqD_iff _ _).2 (show ((lr, li), ls) = ((0, 0), 0) from hh.2.2.1); rw [hd] at this; cases this) (fun h => by simp at h))
        simp only [lval]
        go_enter Tryz.func33, Tryz.ntmps33
        go_wp2_with fail
        go_ret
        first
          | exact ⟨false, rfl, false_iff' He.out, ((Below.refl _ _).alloc (Nat.le_refl _) _).alloc (by simp) _⟩
          | exact .inl ⟨rfl, He.out, ((Below.refl _ _).alloc (Nat.le_refl _) _).alloc (by simp) _⟩
      | true =>
        by_cases hx : lx.toList = []
        · have Hd := Lib.hid ((eqD_iff _ _).1 hd)
          have Hx := Lib.hid (toList_nil.1 hx)
          refine (rmayL3 lr li ls lx is ts ia ta ic tc w Hl.out hd hx).mono ?_
          rintro e w1 ⟨q, rfl, hq, hb⟩
          refine ⟨q, rfl, hq.trans ?_, hb⟩
          constructor
          · intro h
            have h2 := allIT h.1 h.2
            exact .inr (.inr (.inl ⟨rfl, rfl, ⟨rfl, Hd.out, Hx.out⟩, h2.1, h2.2⟩))
          · rintro (⟨h, _⟩ | ⟨h, _⟩ | ⟨_, _, _, h1, h2⟩ | ⟨h, _⟩)
            · simp at h
            · simp at h
            · exact allIT' h1 h2
            · simp at h
        · have hx' : lx.toList.isEmpty = false := by simpa using hx
          have He := Lib.hid (show ¬ MayLf ⟨3, 0, 0, ((lr, li), ls), lx, is, ts⟩ from notMay (fun h => by simp at h) (fun h => by simp at h) (fun _ hh => hx (toList_nil.2 hh.2.2.2)) (fun h => by simp at h))
          simp only [lval]
          go_enter Tryz.func33, Tryz.ntmps33
          go_wp2_with fail
          go_ret
          first
            | exact ⟨false, rfl, false_iff' He.out, ((Below.refl _ _).alloc (Nat.le_refl _) _).alloc (by simp) _⟩
            | exact .inl ⟨rfl, He.out, ((Below.refl _ _).alloc (Nat.le_refl _) _).alloc (by simp) _⟩
    · have ht' : (lt == 0) = false := by simpa using ht
      have He := Lib.hid (show ¬ MayLf ⟨3, 0, lt, ((lr, li), ls), lx, is, ts⟩ from notMay (fun h => by simp at h) (fun h => by simp at h) (fun _ hh => ht hh.2.1) (fun h => by simp at h))
      simp only [lval]
      go_enter Tryz.func33, Tryz.ntmps33
      go_wp2_with fail
      go_ret
      first
        | exact ⟨false, rfl, false_iff' He.out, ((Below.refl _ _).alloc (Nat.le_refl _) _).alloc (by simp) _⟩
        | exact .inl ⟨rfl, He.out, ((Below.refl _ _).alloc (Nat.le_refl _) _).alloc (by simp) _⟩
  · have hn' : (ln != 0) = true := by simpa using hn
    have He := Lib.hid (show ¬ MayLf ⟨3, ln, lt, ((lr, li), ls), lx, is, ts⟩ from notMay (fun h => by simp at h) (fun h => by simp at h) (fun _ hh => hn hh.1) (fun h => by simp at h))
    clear hn
    simp only [lval]
    go_enter Tryz.func33, Tryz.ntmps33
    go_wp2_with fail
    go_ret
    first
      | exact ⟨false, rfl, false_iff' He.out, (Below.refl _ _).alloc (Nat.le_refl _) _⟩
      | exact .inl ⟨rfl, He.out, (Below.refl _ _).alloc (Nat.le_refl _) _⟩

set_option maxRecDepth 100000 in
set_option maxHeartbeats 8000000 in
theorem rmayK4 (l : Lf) (ia ta : Option Addr) (ic tc : Nat) (w : World) (hl : LfAt w l ia ic ta tc) (h0 : 0 ≤ l.t) (hk : l.k = 4) :
    Calls Tryz.prog 33 #[lval l ia ic ta tc] w fun e w' => ∃ q : Bool, e = .returned (.bool q) ∧ (q = true ↔ MayLf l) ∧ Below w.heap.size w w' := by
  obtain ⟨lk, ln, lt, ⟨⟨lr, li⟩, ls⟩, lx, is, ts⟩ := l
  dsimp only at hk h0
  subst hk
  have H0 := Lib.hid h0
  have Hl := Lib.hid hl
  clear hl h0
  by_cases hn : ln = 0
  · subst hn
    by_cases hts : ts = []
    · subst hts
      by_cases ht : lt = 0
      · subst ht
        cases hd : eqD ((lr, li), ls) ((0, 0), 0) with
        | false =>
          have He := Lib.hid (show ¬ MayLf ⟨4, 0, 0, ((lr, li), ls), lx, is, []⟩ from notMay (fun h => by simp at h) (fun h => by simp at h) (fun h => by simp at h) (fun _ hh => by have := (eqD_iff _ _).2 (show ((lr, li), ls) = ((0, 0), 0) from hh.2.1.2.1); rw [hd] at this; cases this))
          simp only [lval]
          go_enter Tryz.func33, Tryz.ntmps33
          go_wp2_with fail
          go_ret
          first
            | exact ⟨false, rfl, false_iff' He.out, ((Below.refl _ _).alloc (Nat.le_refl _) _).alloc (by simp) _⟩
            | exact .inl ⟨rfl, He.out, ((Below.refl _ _).alloc (Nat.le_refl _) _).alloc (by simp) _⟩
        | true =>
          by_cases hx : lx.toList = []
          · have Hd := Lib.hid ((eqD_iff _ _).1 hd)
            have Hx := Lib.hid (toList_nil.1 hx)
            refine (rmayL4 lr li ls lx is [] ia ta ic tc w Hl.out hd hx rfl).mono ?_
            rintro e w1 ⟨q, rfl, hq, hb⟩
            refine ⟨q, rfl, hq.trans ?_, hb⟩
            constructor
            · intro h
              exact .inr (.inr (.inr ⟨rfl, rfl, ⟨rfl, Hd.out, Hx.out⟩, h.1.1, rfl⟩))
            · rintro (⟨h, _⟩ | ⟨h, _⟩ | ⟨h, _⟩ | ⟨_, _, _, h1, _⟩)
              · simp at h
              · simp at h
              · simp at h
              · exact ⟨⟨h1, by simp⟩, by simp, by simp⟩
          · have hx' : lx.toList.isEmpty = false := by simpa using hx
            have He := Lib.hid (show ¬ MayLf ⟨4, 0, 0, ((lr, li), ls), lx, is, []⟩ from notMay (fun h => by simp at h) (fun h => by simp at h) (fun h => by simp at h) (fun _ hh => hx (toList_nil.2 hh.2.1.2.2)))
            simp only [lval]
            go_enter Tryz.func33, Tryz.ntmps33
            go_wp2_with fail
            go_ret
            first
              | exact ⟨false, rfl, false_iff' He.out, ((Below.refl _ _).alloc (Nat.le_refl _) _).alloc (by simp) _⟩
              | exact .inl ⟨rfl, He.out, ((Below.refl _ _).alloc (Nat.le_refl _) _).alloc (by simp) _⟩
      · have ht' : (lt == 0) = false := by simpa using ht
        have He := Lib.hid (show ¬ MayLf ⟨4, 0, lt, ((lr, li), ls), lx, is, []⟩ from notMay (fun h => by simp at h) (fun h => by simp at h) (fun h => by simp at h) (fun _ hh => ht hh.2.1.1))
        simp only [lval]
        go_enter Tryz.func33, Tryz.ntmps33
        go_wp2_with fail
        go_ret
        first
          | exact ⟨false, rfl, false_iff' He.out, ((Below.refl _ _).alloc (Nat.le_refl _) _).alloc (by simp) _⟩
          | exact .inl ⟨rfl, He.out, ((Below.refl _ _).alloc (Nat.le_refl _) _).alloc (by simp) _⟩
    · have hlen := len_pos hts
      have He := Lib.hid (show ¬ MayLf ⟨4, 0, lt, ((lr, li), ls), lx, is, ts⟩ from notMay (fun h => by simp at h) (fun h => by simp at h) (fun h => by simp at h) (fun _ hh => hts hh.2.2))
      clear hts
      simp only [lval]
      go_enter Tryz.func33, Tryz.ntmps33
      go_wp2_with fail
      go_ret
      first
        | exact ⟨false, rfl, false_iff' He.out, (Below.refl _ _).alloc (Nat.le_refl _) _⟩
        | exact .inl ⟨rfl, He.out, (Below.refl _ _).alloc (Nat.le_refl _) _⟩
  · have hn' : (ln != 0) = true := by simpa using hn
    have He := Lib.hid (show ¬ MayLf ⟨4, ln, lt, ((lr, li), ls), lx, is, ts⟩ from notMay (fun h => by simp at h) (fun h => by simp at h) (fun h => by simp at h) (fun _ hh => hn hh.1))
    clear hn
    simp only [lval]
    go_enter Tryz.func33, Tryz.ntmps33
    go_wp2_with fail
    go_ret
    first
      | exact ⟨false, rfl, false_iff' He.out, (Below.refl _ _).alloc (Nat.le_refl _) _⟩
      | exact .inl ⟨rfl, He.out, (Below.refl _ _).alloc (Nat.le_refl _) _⟩

set_option maxRecDepth 100000 in
set_option maxHeartbeats 8000000 in
theorem rmayK1 (l : Lf) (ia ta : Option Addr) (ic tc : Nat) (w : World) (hl : LfAt w l ia ic ta tc) (h0 : 0 ≤ l.t) (hk : l.k = 1) :
    Calls Tryz.prog 33 #[lval l ia ic ta tc] w fun e w' => ∃ q : Bool, e = .returned (.bool q) ∧ (q = true ↔ MayLf l) ∧ Below w.heap.size w w' := by
  obtain ⟨lk, ln, lt, ⟨⟨lr, li⟩, ls⟩, lx, is, ts⟩ := l
  dsimp only at hk h0
  subst hk
  have H0 := Lib.hid h0
  have Hl := Lib.hid hl
  clear hl h0
  by_cases his : is = []
  · subst his
    by_cases hts : ts = []
    · subst hts
      by_cases ht : lt = 0
      · subst ht
        cases hd : eqD ((lr, li), ls) ((0, 0), 0) with
        | false =>
          have He := Lib.hid (show ¬ MayLf ⟨1, ln, 0, ((lr, li), ls), lx, [], []⟩ from notMay (fun _ hh => by have := (eqD_iff _ _).2 (show ((lr, li), ls) = ((0, 0), 0) from hh.1.2.1); rw [hd] at this; cases this) (fun h => by simp at h) (fun h => by simp at h) (fun h => by simp at h))
          simp only [lval]
          go_enter Tryz.func33, Tryz.ntmps33
          go_wp2_with fail
          go_ret
          first
            | exact ⟨false, rfl, false_iff' He.out, ((Below.refl _ _).alloc (Nat.le_refl _) _).alloc (by simp) _⟩
            | exact .inl ⟨rfl, He.out, ((Below.refl _ _).alloc (Nat.le_refl _) _).alloc (by simp) _⟩
        | true =>
          by_cases hx : lx.toList = []
          · have Hd := Lib.hid ((eqD_iff _ _).1 hd)
            have Hx := Lib.hid (toList_nil.1 hx)
            simp only [lval]
            have E : Hid (RM w (lcells ⟨1, ln, 0, ((lr, li), ls), lx, [], []⟩ ia ic ta tc) #[.int .u8 0, .int .u32 0, .int .u64 0] (two w (lcells ⟨1, ln, 0, ((lr, li), ls), lx, [], []⟩ ia ic ta tc) #[.int .u8 0, .int .u32 0, .int .u64 0] 48 44)) := Lib.hid (RM.of (Below.refl _ _))
            go_enter Tryz.func33, Tryz.ntmps33
            go_wp2_with fail
            go_loopw [4] (fun j wr => j = .int .i64 0 ∧ Hid (RM w (lcells ⟨1, ln, 0, ((lr, li), ls), lx, [], []⟩ ia ic ta tc) #[.int .u8 0, .int .u32 0, .int .u64 0] wr)) (fun j _ => 0)
            case atStart => exact ⟨rfl, E⟩
            case round =>
              obtain ⟨rfl, hE⟩ := hrel
              have E := Lib.hid hE.out
              have g0 := cells_at E.out.g
              simp only [lcells] at g0
              clear hE
              go_wp2_with fail
              go_loopw [6] (fun j wr => j = .int .i64 0 ∧ Hid (RM w (lcells ⟨1, ln, 0, ((lr, li), ls), lx, [], []⟩ ia ic ta tc) #[.int .u8 0, .int .u32 0, .int .u64 0] wr)) (fun j _ => 0)
              case atStart => exact ⟨rfl, E⟩
              case round =>
                clear E g0
                obtain ⟨rfl, hE⟩ := hrel
                have E := Lib.hid hE.out
                have g0 := cells_at E.out.g
                simp only [lcells] at g0
                clear hE
                go_wp2_with fail
                go_ret
                exact ⟨true, rfl, true_iff' (.inl ⟨rfl, ⟨rfl, Hd.out, Hx.out⟩, rfl, rfl⟩), E.out.bel⟩
          · have hx' : lx.toList.isEmpty = false := by simpa using hx
            have He := Lib.hid (show ¬ MayLf ⟨1, ln, 0, ((lr, li), ls), lx, [], []⟩ from notMay (fun _ hh => hx (toList_nil.2 hh.1.2.2)) (fun h => by simp at h) (fun h => by simp at h) (fun h => by simp at h))
            simp only [lval]
            go_enter Tryz.func33, Tryz.ntmps33
            go_wp2_with fail
            go_ret
            first
              | exact ⟨false, rfl, false_iff' He.out, ((Below.refl _ _).alloc (Nat.le_refl _) _).alloc (by simp) _⟩
              | exact .inl ⟨rfl, He.out, ((Below.refl _ _).alloc (Nat.le_refl _) _).alloc (by simp) _⟩
      · have ht' : (lt == 0) = false := by simpa using ht
        have He := Lib.hid (show ¬ MayLf ⟨1, ln, lt, ((lr, li), ls), lx, [], []⟩ from notMay (fun _ hh => ht hh.1.1) (fun h => by simp at h) (fun h => by simp at h) (fun h => by simp at h))
        simp only [lval]
        go_enter Tryz.func33, Tryz.ntmps33
        go_wp2_with fail
        go_ret
        first
          | exact ⟨false, rfl, false_iff' He.out, ((Below.refl _ _).alloc (Nat.le_refl _) _).alloc (by simp) _⟩
          | exact .inl ⟨rfl, He.out, ((Below.refl _ _).alloc (Nat.le_refl _) _).alloc (by simp) _⟩
    · have hlen := len_pos hts
      have He := Lib.hid (show ¬ MayLf ⟨1, ln, lt, ((lr, li), ls), lx, [], ts⟩ from notMay (fun _ hh => hts hh.2.2) (fun h => by simp at h) (fun h => by simp at h) (fun h => by simp at h))
      clear hts
      simp only [lval]
      go_enter Tryz.func33, Tryz.ntmps33
      go_wp2_with fail
      go_ret
      first
        | exact ⟨false, rfl, false_iff' He.out, (Below.refl _ _).alloc (Nat.le_refl _) _⟩
        | exact .inl ⟨rfl, He.out, (Below.refl _ _).alloc (Nat.le_refl _) _⟩
  · have hlen := len_pos his
    have He := Lib.hid (show ¬ MayLf ⟨1, ln, lt, ((lr, li), ls), lx, is, ts⟩ from notMay (fun _ hh => his hh.2.1) (fun h => by simp at h) (fun h => by simp at h) (fun h => by simp at h))
    clear his
    simp only [lval]
    go_enter Tryz.func33, Tryz.ntmps33
    go_wp2_with fail
    go_ret
    first
      | exact ⟨false, rfl, false_iff' He.out, (Below.refl _ _).alloc (Nat.le_refl _) _⟩
      | exact .inl ⟨rfl, He.out, (Below.refl _ _).alloc (Nat.le_refl _) _⟩

set_option maxRecDepth 100000 in
set_option maxHeartbeats 8000000 in
theorem rmayK2 (l : Lf) (ia ta : Option Addr) (ic tc : Nat) (w : World) (hl : LfAt w l ia ic ta tc) (h0 : 0 ≤ l.t) (hk : l.k = 2) :
    Calls Tryz.prog 33 #[lval l ia ic ta tc] w fun e w' => ∃ q : Bool, e = .returned (.bool q) ∧ (q = true ↔ MayLf l) ∧ Below w.heap.size w w' := by
  obtain ⟨lk, ln, lt, ⟨⟨lr, li⟩, ls⟩, lx, is, ts⟩ := l
  dsimp only at hk h0
  subst hk
  have H0 := Lib.hid h0
  have Hl := Lib.hid hl
  clear hl h0
  by_cases hn : ln = 0
  · subst hn
    by_cases his : is = []
    · subst his
      by_cases hts : ts = []
      · subst hts
        by_cases ht : lt = 0
        · subst ht
          cases hd : eqD ((lr, li), ls) ((0, 0), 0) with
          | false =>
            have He := Lib.hid (show ¬ MayLf ⟨2, 0, 0, ((lr, li), ls), lx, [], []⟩ from notMay (fun h => by simp at h) (fun _ hh => by
              rcases hh.2.1 with ⟨_, h, _⟩ | ⟨h, _⟩
              · have := (eqD_iff _ _).2 (show ((lr, li), ls) = ((0, 0), 0) from h); rw [hd] at this; cases this
              · exact h rfl) (fun h => by simp at h) (fun h => by simp at h))
            simp only [lval]
            go_enter Tryz.func33, Tryz.ntmps33
            go_wp2_with fail
            go_ret
            first
              | exact ⟨false, rfl, false_iff' He.out, ((Below.refl _ _).alloc (Nat.le_refl _) _).alloc (by simp) _⟩
              | exact .inl ⟨rfl, He.out, ((Below.refl _ _).alloc (Nat.le_refl _) _).alloc (by simp) _⟩
          | true =>
            by_cases hx : lx.toList = []
            · have Hd := Lib.hid ((eqD_iff _ _).1 hd)
              have Hx := Lib.hid (toList_nil.1 hx)
              simp only [lval]
              have E : Hid (RM w (lcells ⟨2, 0, 0, ((lr, li), ls), lx, [], []⟩ ia ic ta tc) #[.int .u8 0, .int .u32 0, .int .u64 0] (two w (lcells ⟨2, 0, 0, ((lr, li), ls), lx, [], []⟩ ia ic ta tc) #[.int .u8 0, .int .u32 0, .int .u64 0] 48 44)) := Lib.hid (RM.of (Below.refl _ _))
              go_enter Tryz.func33, Tryz.ntmps33
              go_wp2_with fail
              go_loopw [4] (fun j wr => j = .int .i64 0 ∧ Hid (RM w (lcells ⟨2, 0, 0, ((lr, li), ls), lx, [], []⟩ ia ic ta tc) #[.int .u8 0, .int .u32 0, .int .u64 0] wr)) (fun j _ => 0)
              case atStart => exact ⟨rfl, E⟩
              case round =>
                obtain ⟨rfl, hE⟩ := hrel
                have E := Lib.hid hE.out
                have g0 := cells_at E.out.g
                simp only [lcells] at g0
                clear hE
                go_wp2_with fail
                go_loopw [6] (fun j wr => j = .int .i64 0 ∧ Hid (RM w (lcells ⟨2, 0, 0, ((lr, li), ls), lx, [], []⟩ ia ic ta tc) #[.int .u8 0, .int .u32 0, .int .u64 0] wr)) (fun j _ => 0)
                case atStart => exact ⟨rfl, E⟩
                case round =>
                  clear E g0
                  obtain ⟨rfl, hE⟩ := hrel
                  have E := Lib.hid hE.out
                  have g0 := cells_at E.out.g
                  simp only [lcells] at g0
                  clear hE
                  go_wp2_with fail
                  go_ret
                  exact ⟨true, rfl, true_iff' (.inr (.inl ⟨rfl, rfl, .inl ⟨rfl, Hd.out, Hx.out⟩, rfl, rfl⟩)), E.out.bel⟩
            · have hx' : lx.toList.isEmpty = false := by simpa using hx
              have He := Lib.hid (show ¬ MayLf ⟨2, 0, 0, ((lr, li), ls), lx, [], []⟩ from notMay (fun h => by simp at h) (fun _ hh => by
                rcases hh.2.1 with ⟨_, _, h⟩ | ⟨h, _⟩
                · exact hx (toList_nil.2 h)
                · exact h rfl) (fun h => by simp at h) (fun h => by simp at h))
              simp only [lval]
              go_enter Tryz.func33, Tryz.ntmps33
              go_wp2_with fail
              go_ret
              first
                | exact ⟨false, rfl, false_iff' He.out, ((Below.refl _ _).alloc (Nat.le_refl _) _).alloc (by simp) _⟩
                | exact .inl ⟨rfl, He.out, ((Below.refl _ _).alloc (Nat.le_refl _) _).alloc (by simp) _⟩
        · have ht' : (lt == 0) = false := by simpa using ht
          by_cases htm : lt ≤ 1099511627776
          · have Ht := Lib.hid ht
            simp only [lval]
            go_enter Tryz.func33, Tryz.ntmps33
            go_wp2_with fail
            refine (rmay_any lr li ls _).mono ?_
            rintro e w1 ⟨rfl, hb1⟩
            have E : Hid (RM w (lcells ⟨2, 0, lt, ((lr, li), ls), lx, [], []⟩ ia ic ta tc) #[.int .u8 0, .int .u32 0, .int .u64 0] w1) := Lib.hid (RM.of hb1)
            have g0 := cells_at E.out.g
            simp only [lcells] at g0
            clear hb1
            cases hm : may ((lr, li), ls) with
            | false =>
              have He := Lib.hid (show ¬ MayLf ⟨2, 0, lt, ((lr, li), ls), lx, [], []⟩ from notMay (fun h => by simp at h) (fun _ hh => by
                rcases hh.2.1 with ⟨h, _⟩ | ⟨_, _, h, _⟩
                · exact Ht.out h
                · rw [hm] at h; cases h) (fun h => by simp at h) (fun h => by simp at h))
              clear hm
              go_wp2_with fail
              go_ret
              exact ⟨false, rfl, false_iff' He.out, E.out.bel⟩
            | true =>
              have Hm := Lib.hid hm
              clear hm
              by_cases hsz : lx.size ≤ 40
              · have Hsz := Lib.hid hsz
                have Htm := Lib.hid htm
                go_wp2_with fail
                go_loopw [4] (fun j wr => j = .int .i64 0 ∧ Hid (RM w (lcells ⟨2, 0, lt, ((lr, li), ls), lx, [], []⟩ ia ic ta tc) #[.int .u8 0, .int .u32 0, .int .u64 0] wr)) (fun j _ => 0)
                case atStart => exact ⟨rfl, E⟩
                case round =>
                  obtain ⟨rfl, hE⟩ := hrel
                  have E := Lib.hid hE.out
                  have g0 := cells_at E.out.g
                  simp only [lcells] at g0
                  clear hE
                  go_wp2_with fail
                  go_loopw [6] (fun j wr => j = .int .i64 0 ∧ Hid (RM w (lcells ⟨2, 0, lt, ((lr, li), ls), lx, [], []⟩ ia ic ta tc) #[.int .u8 0, .int .u32 0, .int .u64 0] wr)) (fun j _ => 0)
                  case atStart => exact ⟨rfl, E⟩
                  case round =>
                    clear E g0
                    obtain ⟨rfl, hE⟩ := hrel
                    have E := Lib.hid hE.out
                    have g0 := cells_at E.out.g
                    simp only [lcells] at g0
                    clear hE
                    go_wp2_with fail
                    go_ret
                    exact ⟨true, rfl, true_iff' (.inr (.inl ⟨rfl, rfl, .inr ⟨Ht.out, Htm.out, Hm.out, Hsz.out⟩, rfl, rfl⟩)), E.out.bel⟩
              · have hsz' : decide (40 < (lx.size : Int)) = true := by simp; omega
                have He := Lib.hid (show ¬ MayLf ⟨2, 0, lt, ((lr, li), ls), lx, [], []⟩ from notMay (fun h => by simp at h) (fun _ hh => by
                  rcases hh.2.1 with ⟨h, _⟩ | ⟨_, _, _, h⟩
                  · exact Ht.out h
                  · exact hsz h) (fun h => by simp at h) (fun h => by simp at h))
                clear hsz
                go_wp2_with fail
                go_ret
                exact ⟨false, rfl, false_iff' He.out, E.out.bel⟩
          · have htm' : decide (1099511627776 < lt) = true := by simp; omega
            have He := Lib.hid (show ¬ MayLf ⟨2, 0, lt, ((lr, li), ls), lx, [], []⟩ from notMay (fun h => by simp at h) (fun _ hh => by
              rcases hh.2.1 with ⟨h, _⟩ | ⟨_, h, _⟩
              · exact ht h
              · exact htm h) (fun h => by simp at h) (fun h => by simp at h))
            simp only [lval]
            go_enter Tryz.func33, Tryz.ntmps33
            go_wp2_with fail
            go_ret
            first
              | exact ⟨false, rfl, false_iff' He.out, ((Below.refl _ _).alloc (Nat.le_refl _) _).alloc (by simp) _⟩
              | exact .inl ⟨rfl, He.out, ((Below.refl _ _).alloc (Nat.le_refl _) _).alloc (by simp) _⟩
      · have hlen := len_pos hts
        have He := Lib.hid (show ¬ MayLf ⟨2, 0, lt, ((lr, li), ls), lx, [], ts⟩ from notMay (fun h => by simp at h) (fun _ hh => hts hh.2.2.2) (fun h => by simp at h) (fun h => by simp at h))
        clear hts
        simp only [lval]
        go_enter Tryz.func33, Tryz.ntmps33
        go_wp2_with fail
        go_ret
        first
          | exact ⟨false, rfl, false_iff' He.out, (Below.refl _ _).alloc (Nat.le_refl _) _⟩
          | exact .inl ⟨rfl, He.out, (Below.refl _ _).alloc (Nat.le_refl _) _⟩
    · have hlen := len_pos his
      have He := Lib.hid (show ¬ MayLf ⟨2, 0, lt, ((lr, li), ls), lx, is, ts⟩ from notMay (fun h => by simp at h) (fun _ hh => his hh.2.2.1) (fun h => by simp at h) (fun h => by simp at h))
      clear his
      simp only [lval]
      go_enter Tryz.func33, Tryz.ntmps33
      go_wp2_with fail
      go_ret
      first
        | exact ⟨false, rfl, false_iff' He.out, (Below.refl _ _).alloc (Nat.le_refl _) _⟩
        | exact .inl ⟨rfl, He.out, (Below.refl _ _).alloc (Nat.le_refl _) _⟩
  · have hn' : (ln != 0) = true := by simpa using hn
    have He := Lib.hid (show ¬ MayLf ⟨2, ln, lt, ((lr, li), ls), lx, is, ts⟩ from notMay (fun h => by simp at h) (fun _ hh => hn hh.1) (fun h => by simp at h) (fun h => by simp at h))
    clear hn
    simp only [lval]
    go_enter Tryz.func33, Tryz.ntmps33
    go_wp2_with fail
    go_ret
    first
      | exact ⟨false, rfl, false_iff' He.out, (Below.refl _ _).alloc (Nat.le_refl _) _⟩
      | exact .inl ⟨rfl, He.out, (Below.refl _ _).alloc (Nat.le_refl _) _⟩

set_option maxRecDepth 100000 in
set_option maxHeartbeats 4000000 in
theorem rmayK5 (l : Lf) (ia ta : Option Addr) (ic tc : Nat) (w : World) (hk : l.k ≠ 1 ∧ l.k ≠ 2 ∧ l.k ≠ 3 ∧ l.k ≠ 4) :
    Calls Tryz.prog 33 #[lval l ia ic ta tc] w fun e w' => ∃ q : Bool, e = .returned (.bool q) ∧ (q = true ↔ MayLf l) ∧ Below w.heap.size w w' := by
  have He := Lib.hid (show ¬ MayLf l by intro h; rcases h.kind with h | h | h | h <;> simp [h] at hk)
  obtain ⟨lk, ln, lt, ⟨⟨lr, li⟩, ls⟩, lx, is, ts⟩ := l
  dsimp only at hk
  simp only [lval]
  by_cases h1 : lk < 1
  · clear hk
    go_enter Tryz.func33, Tryz.ntmps33
    go_wp2_with fail
    go_ret
    exact ⟨false, rfl, false_iff' He.out, (Below.refl _ _).alloc (Nat.le_refl _) _⟩
  · have h1' : decide (lk < 1) = false := by simpa using h1
    have h2 : decide (4 < lk) = true := by simp; omega
    clear hk h1
    go_enter Tryz.func33, Tryz.ntmps33
    go_wp2_with fail
    go_ret
    exact ⟨false, rfl, false_iff' He.out, (Below.refl _ _).alloc (Nat.le_refl _) _⟩
theorem rmayLf_any (l : Lf) (ia ta : Option Addr) (ic tc : Nat) (w : World) (hl : LfAt w l ia ic ta tc) (hok : okL l) :
    Calls Tryz.prog 33 #[lval l ia ic ta tc] w fun e w' => ∃ q : Bool, e = .returned (.bool q) ∧ (q = true ↔ MayLf l) ∧ Below w.heap.size w w' := by
  by_cases h1 : l.k = 1
  · exact rmayK1 l ia ta ic tc w hl hok.2.1.1 h1
  by_cases h2 : l.k = 2
  · exact rmayK2 l ia ta ic tc w hl hok.2.1.1 h2
  by_cases h3 : l.k = 3
  · exact rmayK3 l ia ta ic tc w hl hok.2.1.1 h3
  by_cases h4 : l.k = 4
  · exact rmayK4 l ia ta ic tc w hl hok.2.1.1 h4
  exact rmayK5 l ia ta ic tc w ⟨h1, h2, h3, h4⟩
end Go.Proofs.YtmabjghjkgicgaaGreat
