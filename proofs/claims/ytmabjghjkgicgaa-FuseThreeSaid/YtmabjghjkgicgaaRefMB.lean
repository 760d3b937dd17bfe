/- varveref06.Merge: refused. -/
import Derived.Test.YtmabjghjkgicgaaFuseJ
import Derived.Test.YtmabjghjkgicgaaRefLC
import Derived.Test.YtmabjghjkgicgaaRefLD
import Derived.Test.YtmabjghjkgicgaaRefMA
namespace Go.Proofs.Ytmabjghjkgicgaa
open Go.RowKit
set_option linter.unusedVariables false
set_option linter.unusedSimpArgs false


/-- what the reference's merge tells, where it can be read -/
def RMergeTo (w : World) (l a b : Lf) (e : Ending) (w' : World) : Prop :=
  ∃ ia ic ta tc m code, e = .returned (.tuple #[lval m ia ic ta tc, .int .i64 code]) ∧ MergeR l a b code m ∧ LfAt w' m ia ic ta tc ∧ Below w.heap.size w w'

/-- the reference's 'out': items and tombs so far -/
structure OutE (w3 W : World) (k : Int) (ta : Option Addr) (tc : Nat) (ts : List Dt) : Prop where
  blk : W.heap[w3.heap.size]? = some (.cells #[.int .u8 k, .int .i64 0, .int .u64 0, .int .u8 0, .int .u32 0, .int .u64 0, .string ⟨#[]⟩, .slice none 0 0, .slice ta ts.length tc] 40 (0, 0))
  tms : Vec W ta tc ts
  away : ∀ q ∈ ob ta, w3.heap.size < q
  bel : Below w3.heap.size w3 W
theorem OutE.step {w3 W W' : World} {k : Int} {ta : Option Addr} {tc : Nat} {ts : List Dt} (h : OutE w3 W k ta tc ts) (hb : Below W.heap.size W W') : OutE w3 W' k ta tc ts :=
  ⟨(hb.block _ (heap_lt h.blk)).trans h.blk, h.tms.below hb, h.away, below2 h.bel hb h.bel.size⟩
theorem OutE.put {w3 W : World} {k : Int} {ta ta' : Option Addr} {tc tc' : Nat} {ts ts' : List Dt} (h : OutE w3 W k ta tc ts) (hv : Vec W ta' tc' ts') (ha : ∀ q ∈ ob ta', w3.heap.size < q) : OutE w3 (W.setCell ⟨w3.heap.size, 8, none⟩ (.slice ta' ts'.length tc')) k ta' tc' ts' := by
  refine ⟨?_, Sl.chg hv (Chg.setCell W ⟨w3.heap.size, 8, none⟩ _) (fun q hq hm => by have := ha q hq; simp at hm; omega), ha, h.bel.setCell (by simp) _⟩
  have := Go.heap_setCell_same W w3.heap.size 8 _ _ (.slice ta' ts'.length tc') h.blk
  simpa using this
theorem MgE.set {w W : World} {A B C D : Array Value} (h : MgE w W A B C D) {p : Addr} (hp : w.heap.size + 4 ≤ p.block) (x : Value) : MgE w (W.setCell p x) A B C D :=
  have hc := Chg.setCell W p x
  ⟨heap_chg h.b0 hc (by simp; omega), heap_chg h.b1 hc (by simp; omega), heap_chg h.b2 hc (by simp; omega), heap_chg h.b3 hc (by simp; omega), by simpa using h.sz, h.bel.setCell (by omega) x⟩

theorem chg_nine (s : Nat) (W : World) (x0 x1 x2 x3 x4 x5 x6 x7 x8 : Value) : Chg [s] W (((((((((W.setCell ⟨s, 0, none⟩ x0).setCell ⟨s, 1, none⟩ x1).setCell ⟨s, 2, none⟩ x2).setCell ⟨s, 3, none⟩ x3).setCell ⟨s, 4, none⟩ x4).setCell ⟨s, 5, none⟩ x5).setCell ⟨s, 6, none⟩ x6).setCell ⟨s, 7, none⟩ x7).setCell ⟨s, 8, none⟩ x8) := by
  have st : ∀ {A B : World} (j : Nat) (x : Value), Chg [s] A B → Chg [s] A (B.setCell ⟨s, j, none⟩ x) := fun {A B} j x h => h.trans (Chg.setCell B ⟨s, j, none⟩ x) (by simp)
  exact st _ _ (st _ _ (st _ _ (st _ _ (st _ _ (st _ _ (st _ _ (st _ _ (st _ _ (Chg.refl _ _)))))))))
theorem nine_over {w : World} {p : Nat} {a0 a1 a2 a3 a4 a5 a6 a7 a8 : Value} {t : TypeId} (h : w.heap[p]? = some (.cells #[a0, a1, a2, a3, a4, a5, a6, a7, a8] t (0, 0))) (x0 x1 x2 x3 x4 x5 x6 x7 x8 : Value) :
    (((((((((w.setCell ⟨p, 0, none⟩ x0).setCell ⟨p, 1, none⟩ x1).setCell ⟨p, 2, none⟩ x2).setCell ⟨p, 3, none⟩ x3).setCell ⟨p, 4, none⟩ x4).setCell ⟨p, 5, none⟩ x5).setCell ⟨p, 6, none⟩ x6).setCell ⟨p, 7, none⟩ x7).setCell ⟨p, 8, none⟩ x8).heap[p]? = some (.cells #[x0, x1, x2, x3, x4, x5, x6, x7, x8] t (0, 0)) := by
  have st : ∀ {W : World} {C : Array Value} (j : Nat) (x : Value), W.heap[p]? = some (.cells C t (0, 0)) → (W.setCell ⟨p, j, none⟩ x).heap[p]? = some (.cells (C.setIfInBounds j x) t (0, 0)) := fun {W C} j x h => Go.heap_setCell_same W p j _ _ x h
  have h0 := st 2 x2 (st 1 x1 (st 0 x0 h))
  simp only [List.setIfInBounds_toArray, List.set_cons_zero, List.set_cons_succ] at h0
  have h1 := st 5 x5 (st 4 x4 (st 3 x3 h0))
  simp only [List.setIfInBounds_toArray, List.set_cons_zero, List.set_cons_succ] at h1
  have h2 := st 8 x8 (st 7 x7 (st 6 x6 h1))
  simp only [List.setIfInBounds_toArray, List.set_cons_zero, List.set_cons_succ] at h2
  exact h2
theorem held_new (w : World) (C C' D : Array Value) (t t' : TypeId) : Held (fun q => q = w.heap.size + 1) ((w.alloc (.cells C t)).alloc (.cells D t')).drew ((w.alloc (.cells C' t)).alloc (.cells D t')).drew := by
  refine .inr fun k o hk ho => ?_
  have hk' : k = w.heap.size + 1 := hk
  subst hk'
  have h1 : ∀ C : Array Value, ((w.alloc (.cells C t)).alloc (.cells D t')).drew.heap[w.heap.size + 1]? = some (.cells D t' (0, 0)) := fun C => by
    have := heap_new (w.alloc (.cells C t)) (.cells D t')
    rw [World.size_alloc] at this
    exact this
  rw [h1] at ho
  have ho' := Option.some.inj ho
  subst ho'
  exact ⟨fun _ _ h => (by cases h), h1 _⟩
def IsCells (w : World) (q : Nat) : Prop := ∃ C t, w.heap[q]? = some (.cells C t (0, 0))
theorem IsCells.set {w : World} {q : Nat} (h : IsCells w q) (b j : Nat) (x : Value) : IsCells (w.setCell ⟨b, j, none⟩ x) q := by
  obtain ⟨C, t, h⟩ := h
  by_cases hp : b = q
  · subst hp
    exact ⟨_, _, Go.heap_setCell_same w b j _ _ x h⟩
  · exact ⟨C, t, heap_chg h (Chg.setCell w ⟨b, j, none⟩ x) (by simp; omega)⟩
theorem held_set {W : World} {q : Nat} (hq : IsCells W q) (p : Addr) (x : Value) (hp : p.block ≠ q) : Held (fun k => k = q) W.drew (W.setCell p x).drew := by
  obtain ⟨C, t, h⟩ := hq
  have h2 := heap_chg h (Chg.setCell W p x) (by simp; omega)
  refine .inr fun k o hk ho => ?_
  have hk' : k = q := hk
  subst hk'
  have h' : W.drew.heap[k]? = some (.cells C t (0, 0)) := h
  rw [h'] at ho
  have ho' := Option.some.inj ho
  subst ho'
  exact ⟨fun _ _ h => (by cases h), h2⟩
theorem held_set3 {W : World} {q : Nat} (hq : IsCells W q) (s : Nat) (hs : s ≠ q) (i j k : Nat) (x y z : Value) : Held (fun k => k = q) W.drew (((W.setCell ⟨s, i, none⟩ x).setCell ⟨s, j, none⟩ y).setCell ⟨s, k, none⟩ z).drew :=
  (held_set hq ⟨s, i, none⟩ x hs).trans ((held_set (hq.set s i x) ⟨s, j, none⟩ y hs).trans (held_set ((hq.set s i x).set s j y) ⟨s, k, none⟩ z hs))
theorem log_bare {a : Lf} (h : MayLf a) (hk : a.k = 4) : a.tombs = [] := by
  rcases h with h | h | h | h
  · rw [hk] at h; simp at h
  · rw [hk] at h; simp at h
  · rw [hk] at h; simp at h
  · exact h.2.2.2.2
theorem up_of {a : Lf} (h : MayLf a) : a.items.Pairwise ltI := by
  rcases h with ⟨_, _, h, _⟩ | ⟨_, _, _, h, _⟩ | ⟨_, _, _, h, _⟩ | ⟨_, _, _, h, _⟩
  · rw [h]; exact .nil
  · rw [h]; exact .nil
  · exact h.2.1
  · exact h.2.1

set_option maxRecDepth 100000 in
set_option maxHeartbeats 8000000 in
theorem rmerge_bad (l a b : Lf) (la lt ia ta ja ua : Option Addr) (lc ld ic tc jc uc : Nat) (w : World) (hl : LfAt w l la lc lt ld) (ha : LfAt w a ia ic ta tc) (hb : LfAt w b ja jc ua uc) (hol : okL l) (hoa : okL a) (hob : okL b)
    (hbad : ¬ AllMay l a b ∨ ¬ (l.k = a.k ∧ l.k = b.k)) :
    Calls Try.prog 18 #[lval l la lc lt ld, lval a ia ic ta tc, lval b ja jc ua uc] w (RMergeTo w l a b) := by
  obtain ⟨k'', n'', t'', ⟨⟨r'', i''⟩, s''⟩, x'', is'', ts''⟩ := l
  obtain ⟨k, n, t, ⟨⟨r, i⟩, s⟩, x, is, ts⟩ := a
  obtain ⟨k', n', t', ⟨⟨r', i'⟩, s'⟩, x', is', ts'⟩ := b
  have Hl := Lib.hid hl
  have Ha := Lib.hid ha
  have Hb := Lib.hid hb
  have Hol := Lib.hid hol
  have Hoa := Lib.hid hoa
  have Hob := Lib.hid hob
  have Hbad := Lib.hid hbad
  clear hl ha hb hol hoa hob hbad
  simp only [lval]
  go_enter Try.func18, Try.ntmps18
  go_wp2_with fail
  refine (rmayLf_any ⟨k'', n'', t'', ((r'', i''), s''), x'', is'', ts''⟩ la lt lc ld _ (Hl.out.below ?h1) Hol.out).mono ?_
  case h1 => exact ((((Below.refl _ _).alloc (Nat.le_refl _) _).alloc (by simp) _).alloc (by simp <;> omega) _).alloc (by simp <;> omega) _
  rintro e w1 ⟨q, rfl, hq, hb1⟩
  have E : Hid (MgE w w1 (lcells ⟨k'', n'', t'', ((r'', i''), s''), x'', is'', ts''⟩ la lc lt ld) (lcells ⟨k, n, t, ((r, i), s), x, is, ts⟩ ia ic ta tc) (lcells ⟨k', n', t', ((r', i'), s'), x', is', ts'⟩ ja jc ua uc) zcells) := Lib.hid (MgE.of hb1)
  clear hb1
  have Hql := Lib.hid hq
  clear hq
  have d0 := cells_at E.out.b0
  have d1 := cells_at E.out.b1
  have d2 := cells_at E.out.b2
  have d3 := cells_at E.out.b3
  have g3 := free_at E.out.b3
  simp only [lcells, zcells] at d0 d1 d2 d3
  cases q with
  | false =>
    go_wp2_with fail
    refine bodyPost_ret (v := .tuple #[lval (bare 0) none 0 none 0, .int .i64 2]) (by simp [results, Try.results18, go_sem, lval, d3, bare, noDot]; rfl) rfl ⟨none, 0, none, 0, bare 0, 2, rfl, .inl ⟨fun h => (by have := Hql.out.2 h.1; simp at this), rfl, rfl⟩, zero_at _, below_nine E.out.bel _ _ _ _ _ _ _ _ _⟩
  | true =>
    go_wp2_with fail
    refine (rmayLf_any ⟨k, n, t, ((r, i), s), x, is, ts⟩ ia ta ic tc _ (Ha.out.below E.out.bel) Hoa.out).mono ?_
    rintro e w2 ⟨q, rfl, hq, hb1⟩
    replace E := Lib.hid (E.out.step hb1)
    clear hb1 d0 d1 d2 d3 g3
    have Hqa := Lib.hid hq
    clear hq
    have d0 := cells_at E.out.b0
    have d1 := cells_at E.out.b1
    have d2 := cells_at E.out.b2
    have d3 := cells_at E.out.b3
    have g3 := free_at E.out.b3
    simp only [lcells, zcells] at d0 d1 d2 d3
    cases q with
    | false =>
      go_wp2_with fail
      refine bodyPost_ret (v := .tuple #[lval (bare 0) none 0 none 0, .int .i64 2]) (by simp [results, Try.results18, go_sem, lval, d3, bare, noDot]; rfl) rfl ⟨none, 0, none, 0, bare 0, 2, rfl, .inl ⟨fun h => (by have := Hqa.out.2 h.2.1; simp at this), rfl, rfl⟩, zero_at _, below_nine E.out.bel _ _ _ _ _ _ _ _ _⟩
    | true =>
      go_wp2_with fail
      refine (rmayLf_any ⟨k', n', t', ((r', i'), s'), x', is', ts'⟩ ja ua jc uc _ (Hb.out.below E.out.bel) Hob.out).mono ?_
      rintro e w3 ⟨q, rfl, hq, hb1⟩
      replace E := Lib.hid (E.out.step hb1)
      clear hb1 d0 d1 d2 d3 g3
      have Hqb := Lib.hid hq
      clear hq
      have d0 := cells_at E.out.b0
      have d1 := cells_at E.out.b1
      have d2 := cells_at E.out.b2
      have d3 := cells_at E.out.b3
      have g3 := free_at E.out.b3
      simp only [lcells, zcells] at d0 d1 d2 d3
      cases q with
      | false =>
        go_wp2_with fail
        refine bodyPost_ret (v := .tuple #[lval (bare 0) none 0 none 0, .int .i64 2]) (by simp [results, Try.results18, go_sem, lval, d3, bare, noDot]; rfl) rfl ⟨none, 0, none, 0, bare 0, 2, rfl, .inl ⟨fun h => (by have := Hqb.out.2 h.2.2; simp at this), rfl, rfl⟩, zero_at _, below_nine E.out.bel _ _ _ _ _ _ _ _ _⟩
      | true =>
        have Hall := Lib.hid (show AllMay ⟨k'', n'', t'', ((r'', i''), s''), x'', is'', ts''⟩ ⟨k, n, t, ((r, i), s), x, is, ts⟩ ⟨k', n', t', ((r', i'), s'), x', is', ts'⟩ from ⟨Hql.out.1 (by simp), Hqa.out.1 (by simp), Hqb.out.1 (by simp)⟩)
        have hne : ¬ (k'' = k ∧ k'' = k') := Hbad.out.elim (fun h => absurd Hall.out h) id
        have Hne := Lib.hid hne
        clear Hbad Hql Hqa Hqb
        by_cases hk1 : k'' = k
        · have hk2 : ¬ k'' = k' := fun e => hne ⟨hk1, e⟩
          clear hne
          subst hk1
          go_wp2_with fail
          refine bodyPost_ret (v := .tuple #[lval (bare 0) none 0 none 0, .int .i64 15]) (by simp [results, Try.results18, go_sem, lval, d3, bare, noDot]; rfl) rfl ⟨none, 0, none, 0, bare 0, 15, rfl, .inr (.inl ⟨Hall.out, fun h => Hne.out ⟨trivial, h.2⟩, rfl, rfl⟩), zero_at _, below_nine E.out.bel _ _ _ _ _ _ _ _ _⟩
        · clear hne
          go_wp2_with fail
          refine bodyPost_ret (v := .tuple #[lval (bare 0) none 0 none 0, .int .i64 15]) (by simp [results, Try.results18, go_sem, lval, d3, bare, noDot]; rfl) rfl ⟨none, 0, none, 0, bare 0, 15, rfl, .inr (.inl ⟨Hall.out, Hne.out, rfl, rfl⟩), zero_at _, below_nine E.out.bel _ _ _ _ _ _ _ _ _⟩
end Go.Proofs.Ytmabjghjkgicgaa
