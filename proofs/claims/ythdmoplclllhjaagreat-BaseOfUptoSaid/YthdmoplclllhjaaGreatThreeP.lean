/- The reference's merge in plain words: tombs buried one by one, items laid one by one. No program in sight. | The law FuseThree in plain words: what is behind events, one by one; the merge of two such leaves over a third. No program in sight. | Events behind a leaf: which leaves stay such that may be; numbers in range; lengths. No program in sight. -/
import Derived.Test.YthdmoplclllhjaaGreatLeafP
import Derived.Test.YthdmoplclllhjaaGreatLeafA
/- RefMA -/
namespace Go.Proofs.YthdmoplclllhjaaGreat
set_option linter.unusedVariables false
set_option linter.unusedSimpArgs false

def buryAll (l m : List Dt) : List Dt := m.foldl buryP l
theorem buryAll_snoc (l m : List Dt) (d : Dt) : buryAll l (m ++ [d]) = buryP (buryAll l m) d := by simp [buryAll, List.foldl_append]
theorem buryAll_up {l m : List Dt} (h : l.Pairwise ltD) : (buryAll l m).Pairwise ltD := by
  induction m using snoc_rec with
  | h0 => exact h
  | h1 m a ih => rw [buryAll_snoc]; exact buryP_pairwise ih
theorem mem_buryAll {l m : List Dt} {d : Dt} : d ∈ buryAll l m ↔ d ∈ l ∨ d ∈ m := by
  induction m using snoc_rec with
  | h0 => simp [buryAll]
  | h1 m a ih => rw [buryAll_snoc, mem_buryP, ih, List.mem_append, List.mem_singleton, or_assoc]
end Go.Proofs.YthdmoplclllhjaaGreat

/- ThreeP -/
/- ThreeP -/
namespace Go.Proofs.YthdmoplclllhjaaGreat
set_option linter.unusedVariables false
set_option linter.unusedSimpArgs false

/-- an event: its dot and time, its operation's kind, number, text and dots -/
structure Ev where
  d : Dt
  t : Int
  k : Int
  n : Int
  x : ByteArray
  ds : List Dt
def typeOf (k : Int) : Int := if k = 1 then 1 else if k = 2 then 2 else if k = 3 then 3 else if k = 4 then 3 else if k = 5 then 4 else 0
/-- what is asked of an event here -/
structure MayEv (e : Ev) : Prop where
  d : may e.d = true
  lo : 1 ≤ e.t
  hi : e.t ≤ 1099511627776
  k : typeOf e.k ≠ 0
  x : e.x.size ≤ 40
  ds : ∀ d ∈ e.ds, may d = true
def putI (e : Ev) : It := ⟨0, e.d, e.x⟩
def sayI (e : Ev) : It := ⟨e.t, e.d, e.x⟩
def applyP (l : Lf) (e : Ev) : Lf :=
  if e.k = 1 then { l with n := IntKind.wrap .i64 (l.n + e.n) }
  else if e.k = 2 then (if l.t = 0 ∨ aheadT l.t l.d e.t e.d = true then { l with t := e.t, d := e.d, x := e.x } else l)
  else if e.k = 3 then (if e.d ∈ l.tombs then l else { l with items := layP l.items (putI e) })
  else if e.k = 4 then { l with tombs := buryAll l.tombs e.ds, items := leftP l.items (buryAll l.tombs e.ds) }
  else { l with items := layP l.items (sayI e) }
def runP (k : Int) (E : List Ev) : Lf := E.foldl applyP (bare k)
theorem runP_snoc (k : Int) (E : List Ev) (e : Ev) : runP k (E ++ [e]) = applyP (runP k E) e := by simp [runP, List.foldl_append]
/-- events of a leaf's type -/
def Fits (k : Int) (E : List Ev) : Prop := ∀ e ∈ E, MayEv e ∧ typeOf e.k = k
theorem Fits.snoc {k : Int} {E : List Ev} {e : Ev} (h : Fits k (E ++ [e])) : Fits k E ∧ MayEv e ∧ typeOf e.k = k := ⟨fun x hx => h x (by simp [hx]), h e (by simp)⟩
theorem Fits.sub {k : Int} {E F : List Ev} (h : Fits k F) (hs : ∀ e ∈ E, e ∈ F) : Fits k E := fun e he => h e (hs e he)
def Dots (E : List Ev) : Prop := (E.map (·.d)).Nodup
theorem Dots.snoc {E : List Ev} {e : Ev} (h : Dots (E ++ [e])) : Dots E ∧ ∀ f ∈ E, f.d ≠ e.d := by
  unfold Dots at h
  rw [List.map_append, List.nodup_append] at h
  exact ⟨h.1, fun f hf he => h.2.2 f.d (List.mem_map_of_mem hf) e.d (by simp) he⟩
theorem Dots.inj {E : List Ev} (h : Dots E) {e f : Ev} (he : e ∈ E) (hf : f ∈ E) (hd : e.d = f.d) : e = f := by
  induction E with
  | nil => cases he
  | cons a E ih =>
    unfold Dots at h
    rw [List.map_cons, List.nodup_cons] at h
    rcases List.mem_cons.1 he with h1 | h1 <;> rcases List.mem_cons.1 hf with h2 | h2
    · rw [h1, h2]
    · exact absurd (by rw [← h1, hd]; exact List.mem_map_of_mem h2) h.1
    · exact absurd (by rw [← h2, ← hd]; exact List.mem_map_of_mem h1) h.1
    · exact ih h.2 h1 h2
theorem type1 {k : Int} (h : typeOf k = 1) : k = 1 := by unfold typeOf at h; repeat' split at h <;> omega
theorem type2 {k : Int} (h : typeOf k = 2) : k = 2 := by unfold typeOf at h; repeat' split at h <;> omega
theorem type3 {k : Int} (h : typeOf k = 3) : k = 3 ∨ k = 4 := by unfold typeOf at h; repeat' split at h <;> omega
theorem type4 {k : Int} (h : typeOf k = 4) : k = 5 := by unfold typeOf at h; repeat' split at h <;> omega

/-! counters -/
def sumN (E : List Ev) : Int := (E.map (·.n)).sum
theorem sumN_append (E F : List Ev) : sumN (E ++ F) = sumN E + sumN F := by simp [sumN]
theorem wrapped (n : Int) : ∃ q : Int, IntKind.wrap .i64 n = n + q * 18446744073709551616 := by
  unfold IntKind.wrap
  simp [IntKind.bits, IntKind.signed]
  split
  · exact ⟨-(n / 18446744073709551616) - 1, by omega⟩
  · exact ⟨-(n / 18446744073709551616), by omega⟩
theorem wrap_shift (n q : Int) : IntKind.wrap .i64 (n + q * 18446744073709551616) = IntKind.wrap .i64 n := by
  unfold IntKind.wrap
  simp [IntKind.bits, IntKind.signed, Int.add_mul_emod_self_right]
theorem run1 (E : List Ev) (h : Fits 1 E) : runP 1 E = { bare 1 with n := IntKind.wrap .i64 (sumN E) } := by
  induction E using snoc_rec with
  | h0 => rfl
  | h1 E e ih =>
    obtain ⟨h1, h2, h3⟩ := h.snoc
    rw [runP_snoc, ih h1, sumN_append]
    have hk := type1 h3
    simp only [applyP, hk, if_true]
    obtain ⟨q, hq⟩ := wrapped (sumN E)
    have : IntKind.wrap .i64 (IntKind.wrap .i64 (sumN E) + e.n) = IntKind.wrap .i64 (sumN E + sumN [e]) := by
      rw [hq, show sumN E + q * 18446744073709551616 + e.n = (sumN E + e.n) + q * 18446744073709551616 by omega, wrap_shift]
      simp [sumN]
    rw [this]
theorem merged1 (L A B : List Ev) (h : Fits 1 (L ++ A ++ B)) (M : List Ev) (hM : Fits 1 M) (hs : sumN M = sumN L + sumN A + sumN B) : Merged (runP 1 L) (runP 1 (L ++ A)) (runP 1 (L ++ B)) (runP 1 M) := by
  refine .inl ⟨?_, ?_⟩
  · rw [run1 L (h.sub (fun e he => by simp only [List.mem_append] at *; grind))]; rfl
  · rw [run1 M hM, run1 L (h.sub (fun e he => by simp only [List.mem_append] at *; grind)), run1 (L ++ A) (h.sub (fun e he => by simp only [List.mem_append] at *; grind)), run1 (L ++ B) (h.sub (fun e he => by simp only [List.mem_append] at *; grind))]
    simp only
    rw [sumN_append, sumN_append, hs]
    obtain ⟨q1, e1⟩ := wrapped (sumN L + sumN A)
    obtain ⟨q2, e2⟩ := wrapped (sumN L)
    obtain ⟨q3, e3⟩ := wrapped (sumN L + sumN B)
    rw [e1, e2, e3, show sumN L + sumN A + q1 * 18446744073709551616 - (sumN L + q2 * 18446744073709551616) + (sumN L + sumN B + q3 * 18446744073709551616) = sumN L + sumN A + sumN B + (q1 - q2 + q3) * 18446744073709551616 by omega, wrap_shift]

/-! registers -/
def Top (E : List Ev) (r : Lf) : Prop := r = { bare 2 with t := r.t, d := r.d, x := r.x } ∧ ((E = [] ∧ r.t = 0 ∧ r.d = noDot ∧ r.x = ByteArray.empty) ∨ ∃ e ∈ E, r.t = e.t ∧ r.d = e.d ∧ r.x = e.x ∧ ∀ f ∈ E, f = e ∨ aheadT f.t f.d e.t e.d = true)
theorem run2 (E : List Ev) (h : Fits 2 E) (hd : Dots E) : Top E (runP 2 E) := by
  induction E using snoc_rec with
  | h0 => exact ⟨rfl, .inl ⟨rfl, rfl, rfl, rfl⟩⟩
  | h1 E e ih =>
    obtain ⟨h1, h2, h3⟩ := h.snoc
    obtain ⟨d1, d2⟩ := hd.snoc
    obtain ⟨ih0, ih⟩ := ih h1 d1
    rw [runP_snoc]
    generalize runP 2 E = r at *
    have hk := type2 h3
    simp only [applyP, hk, show ¬ (2 : Int) = 1 by omega, if_false, if_true]
    by_cases hc : r.t = 0 ∨ aheadT r.t r.d e.t e.d = true
    · rw [if_pos hc]
      refine ⟨by rw [ih0], .inr ⟨e, by simp, rfl, rfl, rfl, fun f hf => ?_⟩⟩
      rcases List.mem_append.1 hf with hf | hf
      · rcases ih with ⟨rfl, _⟩ | ⟨g, hg, e1, e2, e3, hall⟩
        · cases hf
        · have hge : aheadT g.t g.d e.t e.d = true := by
            rcases hc with hc | hc
            · have := (h1 g hg).1.lo; omega
            · rw [e1, e2] at hc; exact hc
          rcases hall f hf with rfl | hfg
          · exact .inr hge
          · exact .inr (aheadT_trans hfg hge)
      · exact .inl (by simpa using hf)
    · rw [if_neg hc]
      refine ⟨ih0, .inr ?_⟩
      rcases ih with ⟨_, ht, _⟩ | ⟨g, hg, e1, e2, e3, hall⟩
      · exact absurd (.inl ht) hc
      · refine ⟨g, by simp [hg], e1, e2, e3, fun f hf => ?_⟩
        rcases List.mem_append.1 hf with hf | hf
        · exact hall f hf
        · obtain rfl : f = e := by simpa using hf
          refine .inr ((aheadT_total (d2 g hg)).resolve_left fun hh => hc (.inr ?_))
          rw [e1, e2]
          exact hh
theorem Top.uniq {E : List Ev} {r s : Lf} (h : Top E r) (k : Top E s) : r = s := by
  obtain ⟨h0, h⟩ := h
  obtain ⟨k0, k⟩ := k
  have key : r.t = s.t ∧ r.d = s.d ∧ r.x = s.x := by
    rcases h with ⟨rfl, a1, a2, a3⟩ | ⟨e, he, a1, a2, a3, ha⟩ <;> rcases k with ⟨k1, b1, b2, b3⟩ | ⟨f, hf, b1, b2, b3, hb⟩
    · rw [a1, a2, a3, b1, b2, b3]; exact ⟨rfl, rfl, rfl⟩
    · cases hf
    · subst k1; cases he
    · have : e = f := by
        rcases ha f hf with h | h
        · exact h.symm
        · rcases hb e he with h' | h'
          · exact h'
          · rw [aheadT_asymm h] at h'; cases h'
      subst this
      rw [a1, a2, a3, b1, b2, b3]; exact ⟨rfl, rfl, rfl⟩
  rw [h0, k0, key.1, key.2.1, key.2.2]
theorem top_merge {L A B M : List Ev} (hM : ∀ e, e ∈ M ↔ e ∈ L ++ A ∨ e ∈ L ++ B) (hd : Dots M) (hpos : ∀ e ∈ M, 1 ≤ e.t) {x u : Lf} (hx : Top (L ++ A) x) (hu : Top (L ++ B) u) : Top M (regP x u) := by
  obtain ⟨x0, hx⟩ := hx
  obtain ⟨u0, hu⟩ := hu
  have top : ∀ {e : Ev} {r : Lf}, r = { bare 2 with t := r.t, d := r.d, x := r.x } → e ∈ M → r.t = e.t → r.d = e.d → r.x = e.x → (∀ f ∈ M, f = e ∨ aheadT f.t f.d e.t e.d = true) → Top M r := fun h0 he a b c h => ⟨h0, .inr ⟨_, he, a, b, c, h⟩⟩
  rcases hx with ⟨hx1, hx2, hx3, hx4⟩ | ⟨e, he, a1, a2, a3, ha⟩
  · have hr : regP x u = u := by unfold regP; rw [if_pos (.inl hx2)]
    rw [hr]
    rcases hu with ⟨hu1, hu2, hu3, hu4⟩ | ⟨f, hf, b1, b2, b3, hb⟩
    · refine ⟨u0, .inl ⟨?_, hu2, hu3, hu4⟩⟩
      refine List.eq_nil_iff_forall_not_mem.2 fun e he => ?_
      rcases (hM e).1 he with h | h
      · rw [hx1] at h; cases h
      · rw [hu1] at h; cases h
    · refine top u0 ((hM f).2 (.inr hf)) b1 b2 b3 fun g hg => ?_
      rcases (hM g).1 hg with h | h
      · rw [hx1] at h; cases h
      · exact hb g h
  · have heM := (hM e).2 (.inl he)
    have hxt : x.t ≠ 0 := by have := hpos e heM; omega
    rcases hu with ⟨hu1, hu2, hu3, hu4⟩ | ⟨f, hf, b1, b2, b3, hb⟩
    · have hr : regP x u = x := by unfold regP; rw [if_neg (fun h => h.elim hxt (fun h => h.1 hu2))]
      rw [hr]
      refine top x0 heM a1 a2 a3 fun g hg => ?_
      rcases (hM g).1 hg with h | h
      · exact ha g h
      · rw [hu1] at h; cases h
    · have hfM := (hM f).2 (.inr hf)
      have hut : u.t ≠ 0 := by have := hpos f hfM; omega
      cases hah : aheadT u.t u.d x.t x.d with
      | false =>
        have hr : regP x u = u := by unfold regP; rw [if_pos (.inr ⟨hut, hah⟩)]
        rw [hr]
        have hef : e = f ∨ aheadT e.t e.d f.t f.d = true := by
          by_cases hdd : e.d = f.d
          · exact .inl (hd.inj heM hfM hdd)
          · rcases aheadT_total (t := e.t) (u := f.t) hdd with h | h
            · exact .inr h
            · rw [a1, a2, b1, b2, h] at hah; cases hah
        refine top u0 hfM b1 b2 b3 fun g hg => ?_
        rcases (hM g).1 hg with h | h
        · rcases ha g h with rfl | h'
          · exact hef
          · rcases hef with rfl | h2
            · exact .inr h'
            · exact .inr (aheadT_trans h' h2)
        · exact hb g h
      | true =>
        have hr : regP x u = x := by unfold regP; rw [if_neg (fun h => h.elim hxt (fun h => by rw [hah] at h; cases h.2))]
        rw [hr]
        rw [a1, a2, b1, b2] at hah
        refine top x0 heM a1 a2 a3 fun g hg => ?_
        rcases (hM g).1 hg with h | h
        · exact ha g h
        · rcases hb g h with rfl | h'
          · exact .inr hah
          · exact .inr (aheadT_trans h' hah)

/-! sets -/
structure SetOf (E : List Ev) (r : Lf) : Prop where
  form : r = { bare 3 with items := r.items, tombs := r.tombs }
  up : r.tombs.Pairwise ltD
  tm : ∀ d, d ∈ r.tombs ↔ ∃ e ∈ E, e.k = 4 ∧ d ∈ e.ds
  ui : r.items.Pairwise ltI
  im : ∀ i, i ∈ r.items ↔ (∃ e ∈ E, e.k = 3 ∧ i = putI e) ∧ i.d ∉ r.tombs
theorem run3 (E : List Ev) (h : Fits 3 E) (hd : Dots E) : SetOf E (runP 3 E) := by
  induction E using snoc_rec with
  | h0 => exact ⟨rfl, .nil, fun d => by simp [runP, bare], .nil, fun i => by simp [runP, bare]⟩
  | h1 E e ih =>
    obtain ⟨h1, h2, h3⟩ := h.snoc
    obtain ⟨d1, d2⟩ := hd.snoc
    have ih := ih h1 d1
    rw [runP_snoc]
    generalize runP 3 E = r at *
    rcases type3 h3 with hk | hk
    · simp only [applyP, hk, show ¬ (3 : Int) = 1 by omega, show ¬ (3 : Int) = 2 by omega, if_false, if_true]
      have hn4 : ∀ d, (∃ f ∈ E ++ [e], f.k = 4 ∧ d ∈ f.ds) ↔ ∃ f ∈ E, f.k = 4 ∧ d ∈ f.ds := fun d => by
        constructor
        · rintro ⟨f, hf, hf4, hfd⟩
          rcases List.mem_append.1 hf with hf | hf
          · exact ⟨f, hf, hf4, hfd⟩
          · obtain rfl : f = e := by simpa using hf
            omega
        · rintro ⟨f, hf, h⟩; exact ⟨f, by simp [hf], h⟩
      by_cases hin : e.d ∈ r.tombs
      · rw [if_pos hin]
        refine ⟨ih.form, ih.up, fun d => by rw [hn4]; exact ih.tm d, ih.ui, fun i => ?_⟩
        rw [ih.im]
        constructor
        · rintro ⟨⟨f, hf, h⟩, hi⟩; exact ⟨⟨f, by simp [hf], h⟩, hi⟩
        · rintro ⟨⟨f, hf, hf3, rfl⟩, hi⟩
          rcases List.mem_append.1 hf with hf | hf
          · exact ⟨⟨f, hf, hf3, rfl⟩, hi⟩
          · obtain rfl : f = e := by simpa using hf
            exact absurd hin hi
      · rw [if_neg hin]
        have hnd : (putI e).d ∉ dotsOf r.items := fun hm => by
          obtain ⟨y, hy, hyd⟩ := mem_dotsOf.1 hm
          obtain ⟨⟨f, hf, _, rfl⟩, _⟩ := (ih.im y).1 hy
          exact d2 f hf hyd
        refine ⟨by rw [ih.form], ih.up, fun d => by rw [hn4]; exact ih.tm d, layP_pairwise ih.ui, fun i => ?_⟩
        simp only
        rw [mem_layP, ih.im]
        constructor
        · rintro (⟨⟨f, hf, h⟩, hi⟩ | ⟨rfl, _⟩)
          · exact ⟨⟨f, by simp [hf], h⟩, hi⟩
          · exact ⟨⟨e, by simp, hk, rfl⟩, hin⟩
        · rintro ⟨⟨f, hf, hf3, rfl⟩, hi⟩
          rcases List.mem_append.1 hf with hf | hf
          · exact .inl ⟨⟨f, hf, hf3, rfl⟩, hi⟩
          · obtain rfl : f = e := by simpa using hf
            exact .inr ⟨rfl, hnd⟩
    · simp only [applyP, hk, show ¬ (4 : Int) = 1 by omega, show ¬ (4 : Int) = 2 by omega, show ¬ (4 : Int) = 3 by omega, if_false, if_true]
      refine ⟨by rw [ih.form], buryAll_up ih.up, fun d => ?_, ih.ui.sublist (List.filter_sublist ..), fun i => ?_⟩
      · simp only
        rw [mem_buryAll, ih.tm]
        constructor
        · rintro (⟨f, hf, h⟩ | h)
          · exact ⟨f, by simp [hf], h⟩
          · exact ⟨e, by simp, hk, h⟩
        · rintro ⟨f, hf, hf4, hfd⟩
          rcases List.mem_append.1 hf with hf | hf
          · exact .inl ⟨f, hf, hf4, hfd⟩
          · obtain rfl : f = e := by simpa using hf
            exact .inr hfd
      · simp only
        rw [mem_leftP, ih.im]
        constructor
        · rintro ⟨⟨⟨f, hf, h⟩, _⟩, hi⟩; exact ⟨⟨f, by simp [hf], h⟩, hi⟩
        · rintro ⟨⟨f, hf, hf3, rfl⟩, hi⟩
          rcases List.mem_append.1 hf with hf | hf
          · exact ⟨⟨⟨f, hf, hf3, rfl⟩, fun hm => hi (mem_buryAll.2 (.inl hm))⟩, hi⟩
          · obtain rfl : f = e := by simpa using hf
            omega
theorem merged3 {L A B M : List Ev} (hM : ∀ e, e ∈ M ↔ e ∈ L ++ A ∨ e ∈ L ++ B) (hd : Dots M) {l x u m : Lf} (hl : l.k = 3) (hx : SetOf (L ++ A) x) (hu : SetOf (L ++ B) u) (hm : SetOf M m) : Merged l x u m := by
  refine .inr (.inr (.inl ⟨hl, m.tombs, m.items, ⟨hm.up, fun d => ?_⟩, ⟨hm.ui, fun i => ?_⟩, hm.form⟩))
  · rw [hm.tm, hx.tm, hu.tm]
    constructor
    · rintro ⟨e, he, h⟩
      exact ((hM e).1 he).elim (fun h' => .inl ⟨e, h', h⟩) (fun h' => .inr ⟨e, h', h⟩)
    · rintro (⟨e, he, h⟩ | ⟨e, he, h⟩)
      · exact ⟨e, (hM e).2 (.inl he), h⟩
      · exact ⟨e, (hM e).2 (.inr he), h⟩
  · have tx : ∀ d, d ∈ x.tombs → d ∈ m.tombs := fun d h => by
      obtain ⟨e, he, h⟩ := (hx.tm d).1 h
      exact (hm.tm d).2 ⟨e, (hM e).2 (.inl he), h⟩
    have tu : ∀ d, d ∈ u.tombs → d ∈ m.tombs := fun d h => by
      obtain ⟨e, he, h⟩ := (hu.tm d).1 h
      exact (hm.tm d).2 ⟨e, (hM e).2 (.inr he), h⟩
    rw [hm.im, hx.im, hu.im]
    constructor
    · rintro ⟨⟨e, he, hk, rfl⟩, hi⟩
      refine ⟨?_, hi⟩
      by_cases hea : e ∈ L ++ A
      · exact .inl ⟨⟨e, hea, hk, rfl⟩, fun h => hi (tx _ h)⟩
      · refine .inr ⟨⟨⟨e, ((hM e).1 he).resolve_left hea, hk, rfl⟩, fun h => hi (tu _ h)⟩, fun hdd => ?_⟩
        obtain ⟨y, hy, hyd⟩ := mem_dotsOf.1 hdd
        obtain ⟨⟨f, hf, _, rfl⟩, _⟩ := (hx.im y).1 hy
        exact hea (hd.inj ((hM f).2 (.inl hf)) he hyd ▸ hf)
    · rintro ⟨⟨⟨e, he, hk, rfl⟩, _⟩ | ⟨⟨⟨e, he, hk, rfl⟩, _⟩, _⟩, hi⟩
      · exact ⟨⟨e, (hM e).2 (.inl he), hk, rfl⟩, hi⟩
      · exact ⟨⟨e, (hM e).2 (.inr he), hk, rfl⟩, hi⟩

/-! logs -/
structure LogOf (E : List Ev) (r : Lf) : Prop where
  form : r = { bare 4 with items := r.items }
  ui : r.items.Pairwise ltI
  im : ∀ i, i ∈ r.items ↔ ∃ e ∈ E, i = sayI e
theorem run4 (E : List Ev) (h : Fits 4 E) (hd : Dots E) : LogOf E (runP 4 E) := by
  induction E using snoc_rec with
  | h0 => exact ⟨rfl, .nil, fun i => by simp [runP, bare]⟩
  | h1 E e ih =>
    obtain ⟨h1, h2, h3⟩ := h.snoc
    obtain ⟨d1, d2⟩ := hd.snoc
    have ih := ih h1 d1
    rw [runP_snoc]
    generalize runP 4 E = r at *
    have hk := type4 h3
    simp only [applyP, hk, show ¬ (5 : Int) = 1 by omega, show ¬ (5 : Int) = 2 by omega, show ¬ (5 : Int) = 3 by omega, show ¬ (5 : Int) = 4 by omega, if_false]
    have hnd : (sayI e).d ∉ dotsOf r.items := fun hm => by
      obtain ⟨y, hy, hyd⟩ := mem_dotsOf.1 hm
      obtain ⟨f, hf, rfl⟩ := (ih.im y).1 hy
      exact d2 f hf hyd
    refine ⟨by rw [ih.form], layP_pairwise ih.ui, fun i => ?_⟩
    simp only
    rw [mem_layP, ih.im]
    constructor
    · rintro (⟨f, hf, h⟩ | ⟨rfl, _⟩)
      · exact ⟨f, by simp [hf], h⟩
      · exact ⟨e, by simp, rfl⟩
    · rintro ⟨f, hf, rfl⟩
      rcases List.mem_append.1 hf with hf | hf
      · exact .inl ⟨f, hf, rfl⟩
      · obtain rfl : f = e := by simpa using hf
        exact .inr ⟨rfl, hnd⟩
theorem merged4 {L A B M : List Ev} (hM : ∀ e, e ∈ M ↔ e ∈ L ++ A ∨ e ∈ L ++ B) (hd : Dots M) {l x u m : Lf} (hl : l.k = 4) (hx : LogOf (L ++ A) x) (hu : LogOf (L ++ B) u) (hm : LogOf M m) : Merged l x u m := by
  refine .inr (.inr (.inr ⟨hl, m.items, ⟨hm.ui, fun i => ?_⟩, hm.form⟩))
  rw [hm.im, hx.im, hu.im]
  constructor
  · rintro ⟨e, he, rfl⟩
    refine ⟨?_, by simp⟩
    by_cases hea : e ∈ L ++ A
    · exact .inl ⟨e, hea, rfl⟩
    · refine .inr ⟨⟨e, ((hM e).1 he).resolve_left hea, rfl⟩, fun hdd => ?_⟩
      obtain ⟨y, hy, hyd⟩ := mem_dotsOf.1 hdd
      obtain ⟨f, hf, rfl⟩ := (hx.im y).1 hy
      exact hea (hd.inj ((hM f).2 (.inl hf)) he hyd ▸ hf)
  · rintro ⟨⟨e, he, rfl⟩ | ⟨⟨e, he, rfl⟩, _⟩, _⟩
    · exact ⟨e, (hM e).2 (.inl he), rfl⟩
    · exact ⟨e, (hM e).2 (.inr he), rfl⟩
theorem apply_k (l : Lf) (e : Ev) : (applyP l e).k = l.k := by
  unfold applyP
  repeat' split
  all_goals rfl
theorem run_k (k : Int) (E : List Ev) : (runP k E).k = k := by
  induction E using snoc_rec with
  | h0 => rfl
  | h1 E e ih => rw [runP_snoc, apply_k, ih]
theorem merged_reg' {l a b m : Lf} (hk : l.k = 2) (h : regP a b = m) (he : m = { bare 2 with t := m.t, d := m.d, x := m.x }) : Merged l a b m := .inr (.inl ⟨hk, by rw [h]; exact he⟩)
/-- THE PLAIN LAW -/
theorem three (k : Int) (hk : 1 ≤ k ∧ k ≤ 4) (L A B : List Ev) (h : Fits k (L ++ A ++ B)) (hd : Dots (L ++ A ++ B)) :
    Merged (runP k L) (runP k (L ++ A)) (runP k (L ++ B)) (runP k (L ++ A ++ B)) ∧ Merged (runP k L) (runP k (L ++ B)) (runP k (L ++ A)) (runP k (L ++ A ++ B)) := by
  have sub : ∀ {E : List Ev}, List.Sublist E (L ++ A ++ B) → Dots E := fun {E} hs => List.Nodup.sublist (hs.map _) hd
  have sA : List.Sublist (L ++ A) (L ++ A ++ B) := List.sublist_append_left _ _
  have sB : List.Sublist (L ++ B) (L ++ A ++ B) := by rw [List.append_assoc]; exact (List.Sublist.refl L).append (List.sublist_append_right _ _)
  have fA : Fits k (L ++ A) := h.sub fun e he => sA.subset he
  have fB : Fits k (L ++ B) := h.sub fun e he => sB.subset he
  have hM : ∀ e, e ∈ L ++ A ++ B ↔ e ∈ L ++ A ∨ e ∈ L ++ B := fun e => by simp only [List.mem_append]; grind
  have hM' : ∀ e, e ∈ L ++ A ++ B ↔ e ∈ L ++ B ∨ e ∈ L ++ A := fun e => by simp only [List.mem_append]; grind
  obtain rfl | rfl | rfl | rfl : k = 1 ∨ k = 2 ∨ k = 3 ∨ k = 4 := by omega
  · exact ⟨merged1 L A B h _ h (by rw [sumN_append, sumN_append]), merged1 L B A (h.sub (fun e he => by simp only [List.mem_append] at *; grind)) _ h (by rw [sumN_append, sumN_append]; omega)⟩
  · have pos : ∀ e ∈ L ++ A ++ B, 1 ≤ e.t := fun e he => (h e he).1.lo
    have t1 := (top_merge hM hd pos (run2 _ fA (sub sA)) (run2 _ fB (sub sB))).uniq (run2 _ h hd)
    have t2 := (top_merge hM' hd pos (run2 _ fB (sub sB)) (run2 _ fA (sub sA))).uniq (run2 _ h hd)
    exact ⟨merged_reg' (run_k 2 L) t1 (run2 _ h hd).1, merged_reg' (run_k 2 L) t2 (run2 _ h hd).1⟩
  · exact ⟨merged3 hM hd (run_k 3 L) (run3 _ fA (sub sA)) (run3 _ fB (sub sB)) (run3 _ h hd), merged3 hM' hd (run_k 3 L) (run3 _ fB (sub sB)) (run3 _ fA (sub sA)) (run3 _ h hd)⟩
  · exact ⟨merged4 hM hd (run_k 4 L) (run4 _ fA (sub sA)) (run4 _ fB (sub sB)) (run4 _ h hd), merged4 hM' hd (run_k 4 L) (run4 _ fB (sub sB)) (run4 _ fA (sub sA)) (run4 _ h hd)⟩
end Go.Proofs.YthdmoplclllhjaaGreat

/- ThreeQ -/
namespace Go.Proofs.YthdmoplclllhjaaGreat
set_option linter.unusedVariables false
set_option linter.unusedSimpArgs false

/-- an event's numbers in range -/
def okE (e : Ev) : Prop := okD e.d ∧ isU e.t ∧ okV e.ds
end Go.Proofs.YthdmoplclllhjaaGreat
