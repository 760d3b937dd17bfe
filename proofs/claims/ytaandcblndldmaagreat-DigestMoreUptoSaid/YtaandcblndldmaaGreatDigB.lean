/- Digests of commits, plainly: of two histories, of which one has the other's, what is unlike, and what is apart. No program in sight. | Digests in memory; digests and blocks held against each other. | digest.of, order; sorting digests, and commits by their dots: the contracts. -/
import Derived.Test.YtaandcblndldmaaGreatHistP
import Derived.Test.YtaandcblndldmaaGreatLeafA
import Derived.Test.YtaandcblndldmaaGreatGraC
import Derived.Test.YtaandcblndldmaaGreatGraV
/- DigP -/
namespace Go.Proofs.YtaandcblndldmaaGreat
open Go.RowKit
set_option linter.unusedVariables false
set_option linter.unusedSimpArgs false

/-- a digest -/
structure Dg where
  a : Ac
  fr : Int
  up : Int
  sm : Int
def keyC (c : Cm) : Dt := (c.d.1, (c.d.2 - 1) / 8)
def keyG (g : Dg) : Dt := (g.a, (g.fr - 1) / 8)
/-- one commit more -/
def addDg (mo : Int → Cm → Int) (D : List Dg) (c : Cm) : List Dg :=
  match D.getLast? with
  | some g => if keyG g = keyC c then D.dropLast ++ [⟨g.a, g.fr, c.d.2, mo g.sm c⟩] else D ++ [⟨c.d.1, c.d.2, c.d.2, mo 0 c⟩]
  | none => D ++ [⟨c.d.1, c.d.2, c.d.2, mo 0 c⟩]
def digs (mo : Int → Cm → Int) (S : List Cm) : List Dg := S.foldl (addDg mo) []
theorem digs_snoc (mo : Int → Cm → Int) (S : List Cm) (c : Cm) : digs mo (S ++ [c]) = addDg mo (digs mo S) c := by simp [digs, List.foldl_append]
theorem digs_take (mo : Int → Cm → Int) {S : List Cm} {k : Nat} {c : Cm} (h : S[k]? = some c) : digs mo (S.take (k + 1)) = addDg mo (digs mo (S.take k)) c := by
  rw [List.take_add_one, h]
  exact digs_snoc mo _ c
theorem addDg_new (mo : Int → Cm → Int) {D : List Dg} {c : Cm} (h : ∀ g, D.getLast? = some g → keyG g ≠ keyC c) : addDg mo D c = D ++ [⟨c.d.1, c.d.2, c.d.2, mo 0 c⟩] := by
  unfold addDg
  cases hl : D.getLast? with
  | none => rfl
  | some g => dsimp only; rw [if_neg (h g hl)]
theorem addDg_old (mo : Int → Cm → Int) {D : List Dg} {g : Dg} {c : Cm} (h : keyG g = keyC c) : addDg mo (D ++ [g]) c = D ++ [⟨g.a, g.fr, c.d.2, mo g.sm c⟩] := by
  unfold addDg
  simp [h]
theorem addDg_len (mo : Int → Cm → Int) (D : List Dg) (c : Cm) : (addDg mo D c).length ≤ D.length + 1 := by
  unfold addDg
  split
  · split
    · rw [List.length_append, List.length_dropLast]; simp only [List.length_cons, List.length_nil]; omega
    · rw [List.length_append]; exact Nat.le_refl _
  · rw [List.length_append]; exact Nat.le_refl _
theorem digs_len (mo : Int → Cm → Int) (S : List Cm) : (digs mo S).length ≤ S.length := by
  induction S using snoc_rec with
  | h0 => exact Nat.le_refl _
  | h1 S c ih => rw [digs_snoc]; have := addDg_len mo (digs mo S) c; simp; omega
/-- commits by their dots -/
def ltK (a b : Cm) : Prop := ltD a.d b.d
theorem ltK_irrefl (a : Cm) : ¬ ltK a a := ltD_irrefl _
theorem ltK_trans {a b c : Cm} (h : ltK a b) (k : ltK b c) : ltK a c := ltD_trans h k
theorem ltD_iff {d e : Dt} : ltD d e ↔ d.1.1 < e.1.1 ∨ d.1.1 = e.1.1 ∧ (d.1.2 < e.1.2 ∨ d.1.2 = e.1.2 ∧ d.2 < e.2) := by unfold ltD lessD; simp
theorem ltD_seq {d e : Dt} (h : ltD d e) (ha : d.1 = e.1) : d.2 < e.2 := by
  rw [ltD_iff, ha] at h
  omega
theorem key_mono {b c : Cm} (h : ltK b c) : keyC b = keyC c ∨ ltD (keyC b) (keyC c) := by
  unfold ltK at h
  rw [ltD_iff] at h
  by_cases e : keyC b = keyC c
  · exact .inl e
  right
  rw [ltD_iff]
  unfold keyC at e ⊢
  dsimp only
  rcases h with h | ⟨h1, h | ⟨h2, h3⟩⟩
  · exact .inl h
  · exact .inr ⟨h1, .inl h⟩
  · refine .inr ⟨h1, .inr ⟨h2, ?_⟩⟩
    have h4 : (b.d.2 - 1) / 8 ≠ (c.d.2 - 1) / 8 := fun h5 => e (by rw [h5, show b.d.1 = c.d.1 from Prod.ext h1 h2])
    omega
/-- the digest of a block's commits -/
def digB (mo : Int → Cm → Int) (B : List Cm) : Dg :=
  ⟨((B.head?).map (·.d.1)).getD (0, 0), ((B.head?).map (·.d.2)).getD 0, ((B.getLast?).map (·.d.2)).getD 0, B.foldl (fun s x => mo s x) 0⟩
theorem digB_of {mo : Int → Cm → Int} {B : List Cm} {b l : Cm} (hb : B.head? = some b) (hl : B.getLast? = some l) : digB mo B = ⟨b.d.1, b.d.2, l.d.2, B.foldl (fun s x => mo s x) 0⟩ := by
  unfold digB; rw [hb, hl]; rfl
def blkC (S : List Cm) (k : Dt) : List Cm := S.filter fun c => decide (keyC c = k)
theorem mem_blk {S : List Cm} {k : Dt} {c : Cm} : c ∈ blkC S k ↔ c ∈ S ∧ keyC c = k := by simp [blkC]
theorem blk_snoc (S : List Cm) (c : Cm) (k : Dt) : blkC (S ++ [c]) k = blkC S k ++ if keyC c = k then [c] else [] := by
  unfold blkC
  rw [List.filter_append]
  congr 1
  by_cases h : keyC c = k <;> simp [h]
structure InvD (mo : Int → Cm → Int) (S : List Cm) (D : List Dg) : Prop where
  each : ∀ g ∈ D, blkC S (keyG g) ≠ [] ∧ g = digB mo (blkC S (keyG g))
  cover : ∀ c ∈ S, ∃ g ∈ D, keyG g = keyC c
  rise : D.Pairwise fun g h => ltD (keyG g) (keyG h)
  last : D.getLast?.map keyG = S.getLast?.map keyC
theorem rise_snoc {D : List Dg} {g : Dg} (h : (D ++ [g]).Pairwise fun g h => ltD (keyG g) (keyG h)) : (D.Pairwise fun g h => ltD (keyG g) (keyG h)) ∧ ∀ x ∈ D, ltD (keyG x) (keyG g) := by
  rw [List.pairwise_append] at h
  exact ⟨h.1, fun x hx => h.2.2 x hx g (by simp)⟩
theorem digs_inv (mo : Int → Cm → Int) {S : List Cm} (hs : S.Pairwise ltK) : InvD mo S (digs mo S) := by
  induction S using snoc_rec with
  | h0 => exact ⟨fun g hg => (by cases hg), fun c hc => (by cases hc), List.Pairwise.nil, rfl⟩
  | h1 S c ih =>
    rw [List.pairwise_append] at hs
    have hc : ∀ x ∈ S, ltK x c := fun x hx => hs.2.2 x hx c (by simp)
    have I := ih hs.1
    rw [digs_snoc]
    generalize digs mo S = D at I ⊢
    by_cases hk : ∃ g, D.getLast? = some g ∧ keyG g = keyC c
    · obtain ⟨g, hg, hk⟩ := hk
      obtain ⟨D', rfl⟩ := List.getLast?_eq_some_iff.1 hg
      rw [addDg_old mo hk]
      obtain ⟨r1, r2⟩ := rise_snoc I.rise
      have hkg : keyG ⟨g.a, g.fr, c.d.2, mo g.sm c⟩ = keyC c := hk
      refine ⟨fun x hx => ?_, fun x hx => ?_, ?_, ?_⟩
      · rcases List.mem_append.1 hx with hx | hx
        · have hne : keyC c ≠ keyG x := fun e => ltD_irrefl (keyG g) (by have := r2 x hx; rwa [← e, ← hk] at this)
          rw [blk_snoc, if_neg hne, List.append_nil]
          exact I.each x (List.mem_append_left _ hx)
        · rw [List.mem_singleton] at hx
          subst hx
          rw [hkg, blk_snoc, if_pos rfl]
          refine ⟨by simp, ?_⟩
          obtain ⟨h1, h2⟩ := I.each g (by simp)
          rw [hk] at h1 h2
          generalize blkC S (keyC c) = B at h1 h2
          cases B with
          | nil => exact absurd rfl h1
          | cons b r =>
            rw [digB_of (mo := mo) (B := b :: r ++ [c]) (b := b) (l := c) rfl List.getLast?_concat, h2]
            simp [digB]
      · rcases List.mem_append.1 hx with hx | hx
        · obtain ⟨y, hy, e⟩ := I.cover x hx
          rcases List.mem_append.1 hy with hy | hy
          · exact ⟨y, List.mem_append_left _ hy, e⟩
          · rw [List.mem_singleton] at hy
            subst hy
            exact ⟨_, List.mem_append_right _ (List.mem_singleton.2 rfl), by rw [hkg, ← e, hk]⟩
        · rw [List.mem_singleton] at hx
          subst hx
          exact ⟨_, List.mem_append_right _ (List.mem_singleton.2 rfl), hkg⟩
      · rw [List.pairwise_append]
        refine ⟨r1, List.pairwise_singleton _ _, fun x hx y hy => ?_⟩
        rw [List.mem_singleton] at hy
        subst hy
        rw [hkg, ← hk]
        exact r2 x hx
      · simp [hkg]
    · have hn : ∀ g, D.getLast? = some g → keyG g ≠ keyC c := fun g hg e => hk ⟨g, hg, e⟩
      rw [addDg_new mo hn]
      have hlt : ∀ g ∈ D, ltD (keyG g) (keyC c) := fun g hg => by
        obtain ⟨l, hl⟩ : ∃ l, D.getLast? = some l := by
          cases h : D.getLast? with
          | none => rw [List.getLast?_eq_none_iff] at h; subst h; cases hg
          | some l => exact ⟨l, rfl⟩
        have h1 : ltD (keyG l) (keyC c) := by
          have h2 := I.last
          rw [hl] at h2
          cases h3 : S.getLast? with
          | none => rw [h3] at h2; cases h2
          | some y =>
            rw [h3] at h2
            have h4 : keyG l = keyC y := Option.some.inj h2
            rcases key_mono (hc y (List.mem_of_getLast? h3)) with h5 | h5
            · exact absurd (h4.trans h5) (hn l hl)
            · rw [h4]; exact h5
        obtain ⟨D', rfl⟩ := List.getLast?_eq_some_iff.1 hl
        rcases List.mem_append.1 hg with hg | hg
        · exact ltD_trans ((rise_snoc I.rise).2 g hg) h1
        · rw [List.mem_singleton] at hg; subst hg; exact h1
      have hkg : keyG ⟨c.d.1, c.d.2, c.d.2, mo 0 c⟩ = keyC c := rfl
      have hempty : blkC S (keyC c) = [] := by
        rw [List.eq_nil_iff_forall_not_mem]
        intro x hx
        obtain ⟨h1, h2⟩ := mem_blk.1 hx
        obtain ⟨g, hg, e⟩ := I.cover x h1
        have h3 := hlt g hg
        rw [e, h2] at h3
        exact ltD_irrefl _ h3
      refine ⟨fun x hx => ?_, fun x hx => ?_, ?_, ?_⟩
      · rcases List.mem_append.1 hx with hx | hx
        · have hne : keyC c ≠ keyG x := fun e => by
            have h1 := hlt x hx
            rw [e] at h1
            exact ltD_irrefl _ h1
          rw [blk_snoc, if_neg hne, List.append_nil]
          exact I.each x hx
        · rw [List.mem_singleton] at hx
          subst hx
          rw [hkg, blk_snoc, if_pos rfl, hempty]
          exact ⟨by simp, rfl⟩
      · rcases List.mem_append.1 hx with hx | hx
        · obtain ⟨y, hy, e⟩ := I.cover x hx
          exact ⟨y, List.mem_append_left _ hy, e⟩
        · rw [List.mem_singleton] at hx
          subst hx
          exact ⟨_, List.mem_append_right _ (List.mem_singleton.2 rfl), hkg⟩
      · rw [List.pairwise_append]
        refine ⟨I.rise, List.pairwise_singleton _ _, fun x hx y hy => ?_⟩
        rw [List.mem_singleton] at hy
        subst hy
        exact hlt x hx
      · simp [hkg]
/-- which digests may be -/
structure MayG (g : Dg) : Prop where
  pos : 0 ≤ g.a.1
  act : mayA g.a = true
  low : 1 ≤ g.fr
  ord : g.fr ≤ g.up
  top : g.up ≤ 1048576
  blk : (g.fr - 1) / 8 = (g.up - 1) / 8
structure MayDs (D : List Dg) : Prop where
  each : ∀ g ∈ D, MayG g
  rise : D.Pairwise fun g h => ltD (keyG g) (keyG h)
theorem head_last {B : List Cm} (h : B ≠ []) : ∃ b l, B.head? = some b ∧ B.getLast? = some l ∧ b ∈ B ∧ l ∈ B := by
  cases B with
  | nil => exact absurd rfl h
  | cons b r => exact ⟨b, (b :: r).getLast h, rfl, List.getLast?_eq_some_getLast h, by simp, List.getLast_mem h⟩
theorem low_head {B : List Cm} (hs : B.Pairwise ltK) {b x : Cm} (hb : B.head? = some b) (hx : x ∈ B) : x = b ∨ ltK b x := by
  cases B with
  | nil => cases hb
  | cons y r =>
    cases hb
    rcases List.mem_cons.1 hx with h | h
    · exact .inl h
    · exact .inr ((List.pairwise_cons.1 hs).1 x h)
theorem high_last {B : List Cm} (hs : B.Pairwise ltK) {l x : Cm} (hl : B.getLast? = some l) (hx : x ∈ B) : x = l ∨ ltK x l := by
  obtain ⟨r, rfl⟩ := List.getLast?_eq_some_iff.1 hl
  rcases List.mem_append.1 hx with h | h
  · rw [List.pairwise_append] at hs
    exact .inr (hs.2.2 x h l (by simp))
  · exact .inl (List.mem_singleton.1 h)
theorem blk_sorted {S : List Cm} (hs : S.Pairwise ltK) (k : Dt) : (blkC S k).Pairwise ltK := hs.sublist List.filter_sublist
theorem digs_may (mo : Int → Cm → Int) {S : List Cm} (hs : S.Pairwise ltK) (hm : ∀ c ∈ S, may c.d = true) (hp : ∀ c ∈ S, 0 ≤ c.d.1.1) : MayDs (digs mo S) := by
  have I := digs_inv mo hs
  refine ⟨fun g hg => ?_, I.rise⟩
  obtain ⟨h1, h2⟩ := I.each g hg
  have hb := blk_sorted hs (keyG g)
  obtain ⟨b, l, e1, e2, m1, m2⟩ := head_last h1
  rw [digB_of e1 e2] at h2
  obtain ⟨bs, bk⟩ := mem_blk.1 m1
  obtain ⟨ls, lk⟩ := mem_blk.1 m2
  have hba := (may_iff _).1 (hm b bs)
  have hla := (may_iff _).1 (hm l ls)
  have k1 : keyC b = keyC l := bk.trans lk.symm
  have k2 : b.d.1 = l.d.1 := by
    have h := congrArg Prod.fst k1
    exact h
  have k3 : (b.d.2 - 1) / 8 = (l.d.2 - 1) / 8 := by
    have h := congrArg Prod.snd k1
    exact h
  have ha : g.a = b.d.1 := by rw [h2]
  have hf : g.fr = b.d.2 := by rw [h2]
  have ht : g.up = l.d.2 := by rw [h2]
  refine ⟨by rw [ha]; exact hp b bs, by rw [ha]; exact hba.1, by rw [hf]; exact hba.2.1, ?_, by rw [ht]; exact hla.2.2, by rw [hf, ht]; exact k3⟩
  rw [hf, ht]
  rcases low_head hb e1 m2 with h | h
  · rw [h]; exact Int.le_refl _
  · exact Int.le_of_lt (ltD_seq h k2)
/-- of two histories one has the other's; what it has besides, stands behind by actors -/
structure SubC (T S : List Cm) : Prop where
  ss : S.Pairwise ltK
  st : T.Pairwise ltK
  sub : ∀ c ∈ T, c ∈ S
  late : ∀ c ∈ S, c ∉ T → ∀ e ∈ T, e.d.1 = c.d.1 → e.d.2 < c.d.2
theorem SubC.blk {T S : List Cm} (h : SubC T S) {mo : Int → Cm → Int} {g e : Dg} (hg : g ∈ digs mo S) (he : e ∈ digs mo T) (hk : keyG g = keyG e) : e.fr = g.fr ∧ e.a = g.a ∧ ((e = g ∧ ∀ c ∈ S, keyC c = keyG g → c ∈ T) ∨ (e.up < g.up ∧ ∃ c ∈ S, keyC c = keyG g ∧ c ∉ T)) := by
  obtain ⟨g1, g2⟩ := (digs_inv mo h.ss).each g hg
  obtain ⟨e1, e2⟩ := (digs_inv mo h.st).each e he
  rw [← hk] at e1 e2
  have hB := blk_sorted h.ss (keyG g)
  have hC := blk_sorted h.st (keyG g)
  have hsub : ∀ c ∈ blkC T (keyG g), c ∈ blkC S (keyG g) := fun c hc => mem_blk.2 ⟨h.sub c (mem_blk.1 hc).1, (mem_blk.1 hc).2⟩
  have hact : ∀ x ∈ blkC S (keyG g), ∀ y ∈ blkC S (keyG g), x.d.1 = y.d.1 := fun x hx y hy => by
    have h1 := congrArg Prod.fst ((mem_blk.1 hx).2.trans (mem_blk.1 hy).2.symm)
    exact h1
  have hT : ∀ c ∈ blkC S (keyG g), c ∈ T → c ∈ blkC T (keyG g) := fun c hc h1 => mem_blk.2 ⟨h1, (mem_blk.1 hc).2⟩
  have hBS : ∀ x ∈ blkC S (keyG g), x ∉ T → ∀ y ∈ blkC T (keyG g), y.d.2 < x.d.2 := fun x hx hn y hy => h.late x (mem_blk.1 hx).1 hn y (mem_blk.1 hy).1 (hact y (hsub y hy) x hx)
  obtain ⟨b, l, b1, b2, b3, b4⟩ := head_last g1
  obtain ⟨b', l', c1, c2, c3, c4⟩ := head_last e1
  have hbT : b ∈ T := by
    by_cases hh : b ∈ T
    · exact hh
    · have h1 := hBS b b3 hh b' c3
      rcases low_head hB b1 (hsub b' c3) with h2 | h2
      · rw [h2] at h1; omega
      · have := ltD_seq h2 (hact b b3 b' (hsub b' c3)); omega
  have hbb : b' = b := by
    rcases low_head hC c1 (hT b b3 hbT) with h2 | h2
    · exact h2.symm
    · rcases low_head hB b1 (hsub b' c3) with h3 | h3
      · exact h3
      · exact absurd (ltK_trans h2 h3) (ltK_irrefl _)
  have hg2 := digB_of (mo := mo) b1 b2
  have he2 := digB_of (mo := mo) c1 c2
  have g2o := g2
  have e2o := e2
  rw [hg2] at g2
  rw [he2] at e2
  refine ⟨by rw [e2, g2, hbb], by rw [e2, g2, hbb], ?_⟩
  by_cases hl : l ∈ T
  · left
    have hall : ∀ x ∈ blkC S (keyG g), x ∈ T := fun x hx => by
      by_cases hh : x ∈ T
      · exact hh
      · have h1 := hBS x hx hh l (hT l b4 hl)
        rcases high_last hB b2 hx with h2 | h2
        · rw [h2] at h1; omega
        · have := ltD_seq h2 (hact x hx l b4); omega
    have hBC : blkC T (keyG g) = blkC S (keyG g) := rising_ext (lt := ltK) ltK_irrefl (fun h k => ltK_trans h k) hC hB fun x => ⟨hsub x, fun hx => hT x hx (hall x hx)⟩
    refine ⟨?_, fun c hc hkc => hall c (mem_blk.2 ⟨hc, hkc⟩)⟩
    exact (e2o.trans (by rw [hBC])).trans g2o.symm
  · right
    refine ⟨?_, l, (mem_blk.1 b4).1, (mem_blk.1 b4).2, hl⟩
    rw [e2, g2]
    exact hBS l b4 hl l' c4
theorem SubC.key {T S : List Cm} (h : SubC T S) {mo : Int → Cm → Int} {e : Dg} (he : e ∈ digs mo T) : ∃ g ∈ digs mo S, keyG g = keyG e := by
  obtain ⟨e1, _⟩ := (digs_inv mo h.st).each e he
  obtain ⟨b, _, _, _, b3, _⟩ := head_last e1
  obtain ⟨g, hg, hk⟩ := (digs_inv mo h.ss).cover b (h.sub b (mem_blk.1 b3).1)
  exact ⟨g, hg, hk.trans (mem_blk.1 b3).2⟩
theorem rise_inj {D : List Dg} (h : D.Pairwise fun g h => ltD (keyG g) (keyG h)) {x y : Dg} (hx : x ∈ D) (hy : y ∈ D) (e : keyG x = keyG y) : x = y := by
  induction D with
  | nil => cases hx
  | cons a D ih =>
    obtain ⟨h1, h2⟩ := List.pairwise_cons.1 h
    rcases List.mem_cons.1 hx with ex | hx'
    · rcases List.mem_cons.1 hy with ey | hy'
      · rw [ex, ey]
      · have := h1 y hy'; rw [← ex, e] at this; exact absurd this (ltD_irrefl _)
    · rcases List.mem_cons.1 hy with ey | hy'
      · have := h1 x hx'; rw [← ey, e] at this; exact absurd this (ltD_irrefl _)
      · exact ih h2 hx' hy'
/-- a block of the same numbers is there -/
def sameIn (B : List Dg) (g : Dg) : Bool := B.any fun e => decide (keyG e = keyG g) && (decide (e.fr = g.fr) && decide (e.up = g.up))
def hasK (B : List Dg) (k : Dt) : Bool := B.any fun e => decide (keyG e = k)
/-- what is apart, in some order -/
def apartL (A B : List Dg) : List Dg := (A.filter fun g => !sameIn B g) ++ B.filter fun e => !hasK A (keyG e)
theorem sameIn_iff {B : List Dg} {g : Dg} : sameIn B g = true ↔ ∃ e ∈ B, keyG e = keyG g ∧ e.fr = g.fr ∧ e.up = g.up := by simp [sameIn]
theorem hasK_iff {B : List Dg} {k : Dt} : hasK B k = true ↔ ∃ e ∈ B, keyG e = k := by simp [hasK]
/-- no two blocks of the same numbers are unlike -/
def noUn (A B : List Dg) : Prop := ∀ g ∈ A, ∀ e ∈ B, keyG e = keyG g → e.fr = g.fr → e.up = g.up → e.sm = g.sm
theorem SubC.noUn {T S : List Cm} (h : SubC T S) (mo : Int → Cm → Int) : noUn (digs mo S) (digs mo T) := fun g hg e he hk _ ht => by
  obtain ⟨_, _, ⟨h1, _⟩ | ⟨h1, _⟩⟩ := h.blk hg he hk.symm
  · rw [h1]
  · omega
theorem noUn.symm {A B : List Dg} (h : noUn A B) : noUn B A := fun g hg e he h1 h2 h3 => (h e he g hg h1.symm h2.symm h3.symm).symm
theorem SubC.apart1 {T S : List Cm} (h : SubC T S) (mo : Int → Cm → Int) : apartL (digs mo S) (digs mo T) = (digs mo S).filter fun g => !sameIn (digs mo T) g := by
  unfold apartL
  rw [show ((digs mo T).filter fun e => !hasK (digs mo S) (keyG e)) = [] from ?_, List.append_nil]
  rw [List.filter_eq_nil_iff]
  intro e he
  have := hasK_iff.2 (h.key he)
  simp [this]
/-- a block of the whole's is of the same numbers in the other's just if nothing of it lacks there -/
theorem SubC.same_iff {T S : List Cm} (h : SubC T S) (mo : Int → Cm → Int) {g : Dg} (hg : g ∈ digs mo S) : sameIn (digs mo T) g = true ↔ ∀ c ∈ S, keyC c = keyG g → c ∈ T := by
  rw [sameIn_iff]
  constructor
  · rintro ⟨e, he, hk, _, ht⟩
    obtain ⟨_, _, ⟨_, h1⟩ | ⟨h1, _⟩⟩ := h.blk hg he hk.symm
    · exact h1
    · omega
  · intro hall
    obtain ⟨g1, _⟩ := (digs_inv mo h.ss).each g hg
    obtain ⟨b, _, _, _, b3, _⟩ := head_last g1
    obtain ⟨bS, bk⟩ := mem_blk.1 b3
    obtain ⟨e, he, hk⟩ := (digs_inv mo h.st).cover b (hall b bS bk)
    have hk2 : keyG g = keyG e := (hk.trans bk).symm
    obtain ⟨h1, h2, ⟨h3, _⟩ | ⟨_, c, hc, hck, hn⟩⟩ := h.blk hg he hk2
    · exact ⟨e, he, hk2.symm, h1, by rw [h3]⟩
    · exact absurd (hall c hc hck) hn
open Classical in
/-- nothing is apart just if nothing lacks -/
theorem SubC.none_iff {T S : List Cm} (h : SubC T S) (mo : Int → Cm → Int) : apartL (digs mo S) (digs mo T) = [] ↔ S.length = T.length := by
  rw [h.apart1, List.filter_eq_nil_iff]
  constructor
  · intro hall
    have hST : ∀ c ∈ S, c ∈ T := fun c hc => by
      obtain ⟨g, hg, hk⟩ := (digs_inv mo h.ss).cover c hc
      have h1 := hall g hg
      have h2 : sameIn (digs mo T) g = true := by simpa using h1
      exact (h.same_iff mo hg).1 h2 c hc hk.symm
    have : S = T := rising_ext (lt := ltK) ltK_irrefl (fun h k => ltK_trans h k) h.ss h.st fun c => ⟨hST c, h.sub c⟩
    rw [this]
  · intro hl g hg
    have hST : ∀ c ∈ S, c ∈ T := by
      have h1 : T = S.filter fun c => decide (c ∈ T) := rising_ext (lt := ltK) ltK_irrefl (fun h k => ltK_trans h k) h.st (h.ss.sublist List.filter_sublist) fun c => by
        rw [List.mem_filter, decide_eq_true_iff]
        exact ⟨fun hc => ⟨h.sub c hc, hc⟩, fun hc => hc.2⟩
      have h2 : (S.filter fun c => decide (c ∈ T)).length = S.length := by rw [← h1]; exact hl.symm
      rw [List.length_filter_eq_length_iff] at h2
      exact fun c hc => by simpa using h2 c hc
    have := (h.same_iff mo hg).2 fun c hc _ => hST c hc
    simp [this]
theorem keys_rise {D : List Dg} (h : D.Pairwise fun g h => ltD (keyG g) (keyG h)) (p : Dg → Bool) : ((D.filter p).map keyG).Pairwise ltD := by
  rw [List.pairwise_map]
  exact h.sublist List.filter_sublist
theorem filter_two {α : Type} (l : List α) (p q : α → Bool) : (l.filter p).length = (l.filter fun x => p x && q x).length + (l.filter fun x => p x && !q x).length := by
  induction l with
  | nil => rfl
  | cons a l ih =>
    simp only [List.filter_cons]
    cases p a <;> cases q a <;> simp_all <;> omega
/-- the other way round as many are apart -/
theorem SubC.apart_len {T S : List Cm} (h : SubC T S) (mo : Int → Cm → Int) : (apartL (digs mo S) (digs mo T)).length = (apartL (digs mo T) (digs mo S)).length := by
  rw [h.apart1]
  unfold apartL
  rw [List.length_append, filter_two _ _ fun g => hasK (digs mo T) (keyG g)]
  have rS := (digs_inv mo h.ss).rise
  have rT := (digs_inv mo h.st).rise
  have hsame : ∀ g ∈ digs mo S, ∀ e ∈ digs mo T, keyG e = keyG g → (sameIn (digs mo T) g = sameIn (digs mo S) e) := fun g hg e he hk => by
    rw [Bool.eq_iff_iff, sameIn_iff, sameIn_iff]
    constructor
    · rintro ⟨e', he', k1, k2, k3⟩
      have : e' = e := rise_inj rT he' he (k1.trans hk.symm)
      subst this
      exact ⟨g, hg, hk.symm, k2.symm, k3.symm⟩
    · rintro ⟨g', hg', k1, k2, k3⟩
      have : g' = g := rise_inj rS hg' hg (k1.trans hk)
      subst this
      exact ⟨e, he, hk, k2.symm, k3.symm⟩
  congr 1
  · have h1 : (((digs mo S).filter fun g => !sameIn (digs mo T) g && hasK (digs mo T) (keyG g)).map keyG) = (((digs mo T).filter fun e => !sameIn (digs mo S) e).map keyG) := by
      refine rising_ext (lt := ltD) ltD_irrefl (fun h k => ltD_trans h k) (keys_rise rS _) (keys_rise rT _) fun k => ?_
      rw [List.mem_map, List.mem_map]
      constructor
      · rintro ⟨g, hg, rfl⟩
        obtain ⟨hg1, hg2⟩ := List.mem_filter.1 hg
        rw [Bool.and_eq_true] at hg2
        obtain ⟨e, he, hk⟩ := hasK_iff.1 hg2.2
        exact ⟨e, List.mem_filter.2 ⟨he, by rw [← hsame g hg1 e he hk]; exact hg2.1⟩, hk⟩
      · rintro ⟨e, he, rfl⟩
        obtain ⟨he1, he2⟩ := List.mem_filter.1 he
        obtain ⟨g, hg, hk⟩ := h.key he1
        refine ⟨g, List.mem_filter.2 ⟨hg, ?_⟩, hk⟩
        rw [Bool.and_eq_true]
        exact ⟨by rw [hsame g hg e he1 hk.symm]; exact he2, hasK_iff.2 ⟨e, he1, hk.symm⟩⟩
    have h2 := congrArg List.length h1
    simpa using h2
  · congr 1
    refine List.filter_congr fun g hg => ?_
    cases hh : hasK (digs mo T) (keyG g) with
    | true => simp
    | false =>
      cases hs : sameIn (digs mo T) g with
      | false => rfl
      | true =>
        obtain ⟨e, he, k1, _⟩ := sameIn_iff.1 hs
        rw [hasK_iff.2 ⟨e, he, k1⟩] at hh
        cases hh
/-- two histories over one baseline, one within the other -/
theorem SubC.of {F vT vS : List Dt} {T S T' S' : List Cm} (hT : HistP F T vT) (hS : HistP F S vS) (hsub : ∀ c ∈ T, c ∈ S) (pT : T'.Perm T) (pS : S'.Perm S) (sT : T'.Pairwise ltK) (sS : S'.Pairwise ltK) : SubC T' S' := by
  refine ⟨sS, sT, fun c hc => pS.mem_iff.2 (hsub c (pT.mem_iff.1 hc)), fun c hc hn e he ha => ?_⟩
  have hcS := pS.mem_iff.1 hc
  have heT := pT.mem_iff.1 he
  have hcn : c ∉ T := fun h => hn (pT.mem_iff.2 h)
  refine Classical.byContradiction fun hlt => hcn ?_
  have h1 := (hT.may e heT).own
  have h2 := hT.up e heT e.d.1
  have h3 := (may_iff _).1 (hS.may c hcS).dot
  have h4 := hT.low c.d.1 c.d.2 h3.2.1 (by rw [← ha]; omega)
  rcases hasG_cases h4 with ⟨y, hy, e1, _⟩ | h5
  · rw [← hS.eq_of (hsub y hy) hcS e1]
    exact hy
  · have h6 := hS.out c hcS
    rw [show (c.d.1, c.d.2) = c.d from rfl, h6] at h5
    cases h5
end Go.Proofs.YtaandcblndldmaaGreat

/- DigA -/
namespace Go.Proofs.YtaandcblndldmaaGreat
open Go.RowKit
set_option linter.unusedVariables false
set_option linter.unusedSimpArgs false

def dgcell (g : Dg) : List Value := [.int .u8 g.a.1, .int .u32 g.a.2, .int .u64 g.fr, .int .u64 g.up, .int .u32 g.sm]
abbrev dgcells (r i f u s : Int) : Array Value := #[.int .u8 r, .int .u32 i, .int .u64 f, .int .u64 u, .int .u32 s]
def gsC (v : List Dg) : List Value := v.flatMap dgcell
theorem dgcell_len (g : Dg) : (dgcell g).length = 5 := rfl
theorem gsC_len (v : List Dg) : (gsC v).length = v.length * 5 := flatMap_len dgcell_len v
theorem gsC_append (v u : List Dg) : gsC (v ++ u) = gsC v ++ gsC u := List.flatMap_append
theorem gsC_one (v : List Dg) : ∀ u ∈ gsC v, u.oneCell' = true := by
  intro u hu
  obtain ⟨x, _, hx⟩ := List.mem_flatMap.1 hu
  simp [dgcell] at hx
  rcases hx with rfl | rfl | rfl | rfl | rfl <;> rfl
/-- a slice that reads as the digests v -/
def GV (w : World) (a : Option Addr) (c : Nat) (v : List Dg) : Prop := Sl w 5 a v.length c (gsC v)
theorem GV.below {w w' : World} {a : Option Addr} {c : Nat} {v : List Dg} (h : GV w a c v) (hb : Below w.heap.size w w') : GV w' a c v := Sl.below h hb
structure GAt (w : World) (b : Addr) (x : Dg) : Prop where
  c0 : w.cell? b = some (.int .u8 x.a.1)
  c1 : w.cell? ⟨b.block, b.off + 1, none⟩ = some (.int .u32 x.a.2)
  c2 : w.cell? ⟨b.block, b.off + 2, none⟩ = some (.int .u64 x.fr)
  c3 : w.cell? ⟨b.block, b.off + 3, none⟩ = some (.int .u64 x.up)
  c4 : w.cell? ⟨b.block, b.off + 4, none⟩ = some (.int .u32 x.sm)
theorem GV.at_ {w : World} {a : Option Addr} {c : Nat} {v : List Dg} (h : GV w a c v) {k : Nat} {x : Dg} (hx : v[k]? = some x) :
    ∃ ad, a = some ad ∧ GAt w (ad.add (k * 5)) x ∧ ad.block < w.heap.size := by
  have hk : k < v.length := (List.getElem?_eq_some_iff.1 hx).1
  obtain ⟨_, _, _, ⟨_, h0, _⟩ | ⟨ad, rfl, hc⟩⟩ := h
  · omega
  · have hj := fun j hj => flatMap_at dgcell_len v k j x hx hj
    have g0 := hc (k * 5) _ (hj 0 (by omega))
    have g1 := hc (k * 5 + 1) _ (hj 1 (by omega))
    have g2 := hc (k * 5 + 2) _ (hj 2 (by omega))
    have g3 := hc (k * 5 + 3) _ (hj 3 (by omega))
    have g4 := hc (k * 5 + 4) _ (hj 4 (by omega))
    rw [← Go.Deep.add_add] at g1 g2 g3 g4
    refine ⟨ad, rfl, ⟨g0, g1, g2, g3, g4⟩, ?_⟩
    have := World.block_lt_of_cell? w _ g0
    have hb : (ad.add (k * 5)).block = ad.block := by unfold Addr.add; split <;> rfl
    rwa [hb] at this
theorem Tryz.info_digest : (Tryz.prog.info? 66).map (fun i => (i.zero, i.size, i.bytes)) = some (some (.agg #[.int .u8 0, .int .u32 0, .int .u64 0, .int .u64 0, .int .u32 0]), 5, 32) := by kernel_rfl
def OwnG (w : World) (base : Nat) (a : Option Addr) (c : Nat) (v : List Dg) : Prop := w.ownsRow base 66 5 (.slice a v.length c) v.length (gsC v)
theorem OwnG.gv {w : World} {base : Nat} {a : Option Addr} {c : Nat} {v : List Dg} (h : OwnG w base a c v) : GV w a c v := Sl.of_owns h
theorem OwnG.nil (w : World) (base : Nat) : OwnG w base none 0 [] := World.ownsRow_nil _ _ _ _
theorem OwnG.base {w : World} {base base' : Nat} {a : Option Addr} {c : Nat} {v : List Dg} (h : OwnG w base a c v) (hb : base' ≤ base) : OwnG w base' a c v := owns_base h hb
theorem OwnG.below {w w' : World} {base : Nat} {a : Option Addr} {c : Nat} {v : List Dg} (h : OwnG w base a c v) (hb : Below w.heap.size w w') : OwnG w' base a c v := owns_chg (F := []) h (Chg.of_below hb) (by simp)
theorem gv_one {w : World} {b : Nat} {r i f u s : Int} (h : w.heap[b]? = some (.cells (dgcells r i f u s) 66 (0, 0))) : GV w (some ⟨b, 0, none⟩) 1 [⟨(r, i), f, u, s⟩] :=
  Sl.blk (C := dgcells r i f u s) h rfl (by simp [maxLen])
section
variable {w : World} {ops : Array Oper} {rest : List Oper} {o : Oper} {a : Act} {Q : Exit → Act → World → Prop}
theorem wpList_appG (hgd : o.guard = none) (s x : Operand) (ho : o.op = .call { callee := .builtin .append, args := #[s, x], argTypes := #[62, 62] })
    (base : Nat) (va : Option Addr) (vc : Nat) (v : List Dg) (hs : a.eval s = .slice va v.length vc) (hown : OwnG w base va vc v)
    (sa : Option Addr) (c : Nat) (u : List Dg) (hx : a.eval x = .slice sa u.length c) (hsl : GV w sa c u) (hn : v.length + u.length ≤ 3000000) (hbase : base ≤ w.heap.size)
    (h : ∀ v' a' c' w', v' = v ++ u → OwnG w' base a' c' v' → Below base w w' → Chg (ob va) w w' → (∀ k ∈ ob a', k ∈ ob va ∨ w.heap.size ≤ k) → wpList Tryz.prog ops Q rest (a.put o.dst (.slice a' v'.length c')) w') : wpList Tryz.prog ops Q (o :: rest) a w := by
  obtain ⟨i0, hi0, hz0, hz1, hz2⟩ := info_parts Tryz.info_digest
  refine wpList_append_sl hgd s x 62 ho base 66 i0 (.agg #[.int .u8 0, .int .u32 0, .int .u64 0, .int .u64 0, .int .u32 0]) 5 32 Tryz.underlying62 hi0 hz0 hz1 hz2 rfl (by decide) va v.length vc (gsC v) hs hown sa u.length c (gsC u) hx hsl (gsC_one u) (by unfold maxLen; omega) (by omega) hbase fun a' c' w' h1 h2 h3 => ?_
  have := h (v ++ u) a' c' w' rfl (by unfold OwnG; rw [gsC_append, List.length_append]; exact h1) (h2.below hbase fun k hk => (owns_lt hown k hk).1) h2 h3
  rwa [List.length_append] at this
end
/-! digests, blocks held against each other -/
def eqG (a b : Dg) : Bool := decide (a.a = b.a) && (decide (a.fr = b.fr) && (decide (a.up = b.up) && decide (a.sm = b.sm)))
theorem eqG_iff (a b : Dg) : eqG a b = true ↔ a = b := by
  obtain ⟨a0, a1, a2, a3⟩ := a
  obtain ⟨b0, b1, b2, b3⟩ := b
  simp [eqG]
@[go_sem high] theorem guardG (op : BinOp) (X Y : Operand) (xs ys : Array Value) (w : World) : (eqGuard op 66 X Y (.agg xs) (.agg ys)).run Tryz.prog w = .ok () w := run_eqGuard_agg w op 66 X Y xs ys (by kernel_rfl)
@[go_sem high] theorem guardK (op : BinOp) (X Y : Operand) (xs ys : Array Value) (w : World) : (eqGuard op 104 X Y (.agg xs) (.agg ys)).run Tryz.prog w = .ok () w := run_eqGuard_agg w op 104 X Y xs ys (by kernel_rfl)
section
variable {P : Program}
theorem eq_four (w : World) {d : Nat} {k : TypeId} {f0 f1 f2 f3 : Field} {xs ys : Array Value} {v0 u0 v1 u1 v2 u2 v3 u3 : Value} {b0 b1 b2 b3 : Bool} (hu : P.underlying k = some (.struct #[f0, f1, f2, f3])) (hp : P.stoodInHeld k = false) (n0 : f0.name ≠ "_") (n1 : f1.name ≠ "_") (n2 : f2.name ≠ "_") (n3 : f3.name ≠ "_")
    (x0 : (part f0.type xs f0.offset).run P w = .ok v0 w) (y0 : (part f0.type ys f0.offset).run P w = .ok u0 w) (e0 : (Op.equalIn d f0.type v0 u0).run P w = .ok b0 w)
    (x1 : (part f1.type xs f1.offset).run P w = .ok v1 w) (y1 : (part f1.type ys f1.offset).run P w = .ok u1 w) (e1 : (Op.equalIn d f1.type v1 u1).run P w = .ok b1 w)
    (x2 : (part f2.type xs f2.offset).run P w = .ok v2 w) (y2 : (part f2.type ys f2.offset).run P w = .ok u2 w) (e2 : (Op.equalIn d f2.type v2 u2).run P w = .ok b2 w)
    (x3 : (part f3.type xs f3.offset).run P w = .ok v3 w) (y3 : (part f3.type ys f3.offset).run P w = .ok u3 w) (e3 : (Op.equalIn d f3.type v3 u3).run P w = .ok b3 w) :
    (Op.equalIn (d + 1) k (.agg xs) (.agg ys)).run P w = .ok (b0 && (b1 && (b2 && b3))) w := by
  have hf : P.fieldsOf k = #[f0, f1, f2, f3] := by simp [Program.fieldsOf, hu]
  rw [run_equalIn_agg w d k _ _ (by rw [hf, hu]) hp, hf]
  cases b0 <;> cases b1 <;> cases b2 <;> cases b3 <;> simp [Op.eqFields, n0, n1, n2, n3, x0, y0, e0, x1, y1, e1, x2, y2, e2, x3, y3, e3]
end
theorem eqK_at (d : Nat) (r i s r' i' s' : Int) (w : World) : (Op.equalIn (d + 3) 104 (.agg #[.int .u8 r, .int .u32 i, .int .u64 s]) (.agg #[.int .u8 r', .int .u32 i', .int .u64 s'])).run Tryz.prog w = .ok (eqD ((r, i), s) ((r', i'), s')) w := by
  have h := eq_two w (d := d + 2) (b1 := s == s') (xs := #[.int .u8 r, .int .u32 i, .int .u64 s]) (ys := #[.int .u8 r', .int .u32 i', .int .u64 s']) Tryz.underlying104 (by kernel_rfl) (by decide) (by decide) (part_agg w (Tryz.isAgg24 w) (Tryz.sizeOf24 w)) (part_agg w (Tryz.isAgg24 w) (Tryz.sizeOf24 w)) (eqA_at d r i r' i' w)
    (part_one w (Tryz.isAgg26 w) rfl) (part_one w (Tryz.isAgg26 w) rfl) (run_equalIn_int w (d + 1) _ _ _ _ _ Tryz.underlying26)
  rw [h, show ((r == r') && (i == i') && (s == s')) = eqD ((r, i), s) ((r', i'), s') from by rw [Bool.eq_iff_iff, eqD_iff]; simp [and_assoc]]
theorem eqG_at (d : Nat) (r i f u s r' i' f' u' s' : Int) (w : World) : (Op.equalIn (d + 3) 66 (.agg (dgcells r i f u s)) (.agg (dgcells r' i' f' u' s'))).run Tryz.prog w = .ok (eqG ⟨(r, i), f, u, s⟩ ⟨(r', i'), f', u', s'⟩) w := by
  have h := eq_four w (d := d + 2) (b1 := f == f') (b2 := u == u') (b3 := s == s') (xs := dgcells r i f u s) (ys := dgcells r' i' f' u' s') Tryz.underlying66 (by kernel_rfl) (by decide) (by decide) (by decide) (by decide) (part_agg w (Tryz.isAgg24 w) (Tryz.sizeOf24 w)) (part_agg w (Tryz.isAgg24 w) (Tryz.sizeOf24 w)) (eqA_at d r i r' i' w)
    (part_one w (Tryz.isAgg26 w) rfl) (part_one w (Tryz.isAgg26 w) rfl) (run_equalIn_int w (d + 1) _ _ _ _ _ Tryz.underlying26)
    (part_one w (Tryz.isAgg26 w) rfl) (part_one w (Tryz.isAgg26 w) rfl) (run_equalIn_int w (d + 1) _ _ _ _ _ Tryz.underlying26)
    (part_one w (Tryz.isAgg22 w) rfl) (part_one w (Tryz.isAgg22 w) rfl) (run_equalIn_int w (d + 1) _ _ _ _ _ Tryz.underlying22)
  rw [h]
  refine congrArg (fun b => Result.ok b w) ?_
  rw [Bool.eq_iff_iff, eqG_iff]
  simp [and_assoc]
@[go_sem high] theorem run_eqK (r i s r' i' s' : Int) (w : World) : (binOp .eql 104 (.agg #[.int .u8 r, .int .u32 i, .int .u64 s]) (.agg #[.int .u8 r', .int .u32 i', .int .u64 s'])).run Tryz.prog w = .ok (.bool (eqD ((r, i), s) ((r', i'), s'))) w := by
  rw [run_eql_struct, show (10000 : Nat) = 9997 + 3 from rfl, eqK_at]
  rfl
@[go_sem high] theorem run_neK (r i s r' i' s' : Int) (w : World) : (binOp .neq 104 (.agg #[.int .u8 r, .int .u32 i, .int .u64 s]) (.agg #[.int .u8 r', .int .u32 i', .int .u64 s'])).run Tryz.prog w = .ok (.bool (!eqD ((r, i), s) ((r', i'), s'))) w := by
  rw [run_neq_struct, show (10000 : Nat) = 9997 + 3 from rfl, eqK_at]
  rfl
@[go_sem high] theorem run_eqG (r i f u s r' i' f' u' s' : Int) (w : World) : (binOp .eql 66 (.agg #[.int .u8 r, .int .u32 i, .int .u64 f, .int .u64 u, .int .u32 s]) (.agg #[.int .u8 r', .int .u32 i', .int .u64 f', .int .u64 u', .int .u32 s'])).run Tryz.prog w = .ok (.bool (eqG ⟨(r, i), f, u, s⟩ ⟨(r', i'), f', u', s'⟩)) w := by
  rw [run_eql_struct, show (10000 : Nat) = 9997 + 3 from rfl, eqG_at]
  rfl
end Go.Proofs.YtaandcblndldmaaGreat

/- DigB -/
namespace Go.Proofs.YtaandcblndldmaaGreat
open Go.RowKit
set_option linter.unusedVariables false
set_option linter.unusedSimpArgs false

set_option maxHeartbeats 1000000 in
theorem of37_any (r i s : Int) (w : World) (h1 : 1 ≤ s) (h2 : s ≤ 18446744073709551615) : Calls Tryz.prog 60 #[.agg #[.int .u8 r, .int .u32 i], .int .u64 s] w fun e w' => e = .returned (.agg #[.int .u8 r, .int .u32 i, .int .u64 ((s - 1) / 8)]) ∧ Below w.heap.size w w' := by
  go_enter Tryz.func60, Tryz.ntmps60
  go_wp2_with fail
  have hi : (Tryz.prog.info? 104).map (·.size) = some (#[Value.int .u8 r, Value.int .u32 i, Value.int .u64 ((s - 1) / 8)]).size := by
    have h : (Tryz.prog.info? 104).map (·.size) = some 3 := by kernel_rfl
    exact h
  exact bodyPost_ret (v := .agg #[.int .u8 r, .int .u32 i, .int .u64 ((s - 1) / 8)]) (results_cell_row rfl _ _ (w.heap.size + 1) _ _ _ _ rfl (heap_new2 _ _ _) Tryz.underlying104 rfl hi) rfl ⟨rfl, ((Below.refl _ _).alloc (Nat.le_refl _) _).alloc (by simp) _⟩
def cmpG (g h : Dg) : Int := orI [cmpI g.a.1 h.a.1, cmpI g.a.2 h.a.2, cmpI g.fr h.fr]
theorem three_at37 {W : World} {g : Nat} {x y z : Int} {t : TypeId} (h : W.heap[g]? = some (.cells #[.int .i64 x, .int .i64 y, .int .i64 z] t (0, 0))) : ∀ j u, [x, y, z][j]? = some u → W.cell? ⟨g, j, none⟩ = some (.int .i64 u) := by
  intro j u hj
  rw [cells_at h]
  match j with
  | 0 => simp at hj; subst hj; rfl
  | 1 => simp at hj; subst hj; rfl
  | 2 => simp at hj; subst hj; rfl
  | j + 3 => simp at hj
theorem cmpG_eq (g h : Dg) : cmpG g h = cmpDD (g.a, g.fr) (h.a, h.fr) := by
  simp only [cmpG, cmpDD, cmpA, orI]
  by_cases h1 : cmpI g.a.1 h.a.1 = 0 <;> by_cases h2 : cmpI g.a.2 h.a.2 = 0 <;> simp [h1, h2]
set_option maxRecDepth 10000 in
set_option maxHeartbeats 1000000 in
theorem order_any (g h : Dg) (w : World) :
    Calls Tryz.prog 67 #[.agg (dgcell g).toArray, .agg (dgcell h).toArray] w fun e w' => e = .returned (.int .i64 (cmpG g h)) ∧ Grown w w' := by
  obtain ⟨⟨r, i⟩, f, u, s⟩ := g
  obtain ⟨⟨r', i'⟩, f', u', s'⟩ := h
  simp only [dgcell]
  go_enter Tryz.func67, Tryz.ntmps67
  go_wp2_with fail
  refine region_text [([0, 1, 2, 3, 4, 5, 7, 8, 9, 10, 11, 12, 14, 15, 16, 17], false), ([6], true), ([13], true), ([18, 19, 20, 21], false)] mixed (by kernel_rfl) ?_
  simp only [wpSegs, List.map_cons, List.map_nil, List.getD_cons_succ, List.getD_cons_zero]
  go_wp2_with fail
  refine (cmpu8 _ _ _).mono ?_
  rintro e w' ⟨rfl, rfl⟩
  go_wp2_with fail
  refine And.intro (Agree.refl _) ?_
  go_wp2_with fail
  refine (cmpu32 _ _ _).mono ?_
  rintro e w' ⟨rfl, rfl⟩
  go_wp2_with fail
  refine And.intro (Agree.refl _) ?_
  go_wp2_with fail
  refine (cmpu64 _ _ _).mono ?_
  rintro e w' ⟨rfl, rfl⟩
  go_wp2_with fail
  refine (or_any _ [cmpI r r', cmpI i i', cmpI f f'] _ (three_at37 (t := 3) ?hx) (by simp)).mono ?_
  case hx => first | exact heap_new _ _ | exact at_new3 _ _ _ _
  rintro e w' ⟨rfl, rfl⟩
  go_wp2_with fail
  refine And.intro (by kernel_rfl) ?_
  go_wp2_with fail
  go_ret
  exact ⟨rfl, ((((Grown.refl w).alloc _).alloc _).drew).alloc _⟩
/-! sorting digests -/
theorem insertionG_none (p : Option Addr) (cap : Nat) (fv : Value) (w : World) :
    Calls Tryz.prog 168 #[.slice p 0 cap, .int .i64 0, .int .i64 0, fv] w fun e w' => e = .returned (.tuple #[]) ∧ w' = w := by
  go_enter Tryz.func168, Tryz.ntmps168
  go_wp2
  refine wp_loop_rounds 1 ?_
  rw [rounds_succ]
  go_wp2
  go_end0
  exact ⟨rfl, rfl⟩
theorem pdqG_none (p : Option Addr) (cap : Nat) (lim : Int) (fv : Value) (w : World) :
    Calls Tryz.prog 126 #[.slice p 0 cap, .int .i64 0, .int .i64 0, .int .i64 lim, fv] w fun e w' => e = .returned (.tuple #[]) ∧ w' = w := by
  go_enter Tryz.func126, Tryz.ntmps126
  go_wp2
  refine wp_loop_rounds 1 ?_
  rw [rounds_succ]
  go_wp2_with (go_at_call 168; refine (insertionG_none _ _ _ _).mono ?_; rintro e w' ⟨rfl, rfl⟩)
  (try simp only [Exit.inBlock, Exit.then]); refine bodyPost_ret (results_none rfl _ _ _) rfl ?_
  exact ⟨rfl, rfl⟩
theorem sortG_none (p : Option Addr) (cap : Nat) (fv : Value) (w : World) :
    Calls Tryz.prog 66 #[.slice p 0 cap, fv] w fun e w' => e = .returned (.tuple #[]) ∧ w' = w := by
  go_enter Tryz.func66, Tryz.ntmps66
  go_wp2_with (first | (go_at_call 121; refine (bitsLen_zero _).mono ?_; rintro e w' ⟨rfl, rfl⟩) | (go_at_call 126; refine (pdqG_none _ _ _ _ _).mono ?_; rintro e w' ⟨rfl, rfl⟩))
  go_end0
  exact ⟨rfl, rfl⟩
instance : Inhabited Dg := ⟨⟨(0, 0), 0, 0, 0⟩⟩
theorem ltG_of (g h : Dg) : ltOf cmpG g h = lessD (g.a, g.fr) (h.a, h.fr) := by
  have := ltD_of (g.a, g.fr) (h.a, h.fr)
  unfold ltOf at *
  rw [cmpG_eq]
  exact this
theorem swoG : Sort.SWO (ltOf cmpG) where
  irrefl x := by rw [ltG_of]; exact lessD_irrefl _
  trans x y z h1 h2 := by rw [ltG_of] at *; exact lessD_trans h1 h2
  ntrans x y z h1 h2 := by
    rw [ltG_of] at *
    rw [← Bool.not_eq_true, lessD_iff] at *
    omega
theorem dgcell_one (x : Dg) : ∀ v ∈ dgcell x, v.oneCell' = true := by
  intro v hv
  simp [dgcell] at hv
  rcases hv with rfl | rfl | rfl | rfl | rfl <;> rfl
theorem cmpLaysG (blk off size : Nat) (w : World) : CmpLays Tryz.prog 67 #[] dgcell 5 cmpG blk off size w :=
  fun _ _ _ _ x y => order_any x y _
theorem sortG_any (a : Option Addr) (c base : Nat) (l : List Dg) (w : World) (h : OwnG w base a c l) (hl : l.length ≤ 1100000) :
    Calls Tryz.prog 66 #[.slice a l.length c, .func (.func 67) #[] #[]] w fun e w' => e = .returned (.tuple #[]) ∧
      ∃ l', l'.length = l.length ∧ l'.Perm l ∧ OwnG w' base a c l' ∧ Chg (ob a) w w' := by
  by_cases h0 : l = []
  · subst h0
    exact (sortG_none a c _ w).mono fun e w' ⟨he, hw⟩ => ⟨he, [], rfl, .refl _, hw ▸ h, hw ▸ Chg.refl _ _⟩
  obtain ⟨blk, rfl⟩ : ∃ blk, a = some ⟨blk, 0, none⟩ := by
    rcases h.2 with ⟨h1, h2⟩ | ⟨g, cap, cur, h1, _⟩
    · simp at h1; exact absurd h1.2.1 h0
    · simp at h1; exact ⟨g, h1.1⟩
  obtain ⟨hH, hlt⟩ := holdsK_of dgcell_len (by omega) h
  have hcon := AnyQ.slices_SortFunc Tryz.sortG 5 Tryz.isAgg66 Tryz.sizeOf66 dgcell dgcell_len (fun x v hv => dgcell_one x v hv) cmpG swoG 67 #[] blk 0 c l.toArray w (enters_of Tryz.func67 (by kernel_rfl) rfl) (cmpLaysG blk 0 _ w) hH hlt (by simp; omega)
  change Calls Tryz.prog 66 _ _ _ at hcon
  have e1 : l.toArray.size = l.length := by simp
  rw [e1] at hcon
  refine hcon.mono ?_
  rintro e w' ⟨rfl, d', n, os, hp, hs, rfl⟩
  have hperm : d'.toList.Perm l := by have := permIn_list (d := l.toArray) (by rw [e1]; exact hp); simpa using this
  have hlen : d'.toList.length = l.length := hperm.length_eq
  obtain ⟨h1, h2⟩ := sorted_owns (n := n) (os := os) dgcell_len (by omega) hlen h
  refine ⟨rfl, d'.toList, hlen, hperm, ?_, by simpa [ob] using h2⟩
  unfold OwnG
  rw [hlen]
  simpa [gsC] using h1
/-! sorting commits by their dots -/
def cmpK (u v : Cw) : Int := cmpDD u.c.d v.c.d
theorem ltK_of (a b : Cw) : ltOf cmpK a b = lessD a.c.d b.c.d := ltD_of a.c.d b.c.d
theorem swoK : Sort.SWO (ltOf cmpK) where
  irrefl x := by rw [ltK_of]; exact lessD_irrefl _
  trans x y z h1 h2 := by rw [ltK_of] at *; exact lessD_trans h1 h2
  ntrans x y z h1 h2 := by
    rw [ltK_of] at *
    rw [← Bool.not_eq_true, lessD_iff] at *
    omega
theorem cmpK_any (u v : Cw) (w : World) : Calls Tryz.prog 57 #[.agg (cwcells u), .agg (cwcells v)] w fun e w' => e = .returned (.int .i64 (cmpK u v)) ∧ Grown w w' := by
  obtain ⟨⟨⟨⟨r, i⟩, s⟩, ps, vv, t, ⟨k, n, x, p, ds⟩⟩, qa, qc, va, vc, pa, pc, da, dc⟩ := u
  obtain ⟨⟨⟨⟨r', i'⟩, s'⟩, ps', vv', t', ⟨k', n', x', p', ds'⟩⟩, qa', qc', va', vc', pa', pc', da', dc'⟩ := v
  simp only [cwcells]
  go_enter Tryz.func57, Tryz.ntmps57
  go_wp2_with fail
  refine (compareD_any r i s r' i' s' _).mono ?_
  rintro e w1 ⟨rfl, hg⟩
  have Hg := Lib.hid hg
  clear hg
  go_wp2_with fail
  go_ret
  exact ⟨rfl, (((Grown.refl w).alloc _).alloc _).trans Hg.out⟩
theorem cmpLaysK (blk off size : Nat) (w : World) : CmpLays Tryz.prog 57 #[] ccel 11 cmpK blk off size w :=
  fun _ _ _ _ x y => cmpK_any x y _
theorem sortK_any (a : Option Addr) (c base : Nat) (l : List Cw) (w : World) (h : OwnC w base a c l) (hl : l.length ≤ 1100000) :
    Calls Tryz.prog 56 #[.slice a l.length c, .func (.func 57) #[] #[]] w fun e w' => e = .returned (.tuple #[]) ∧
      ∃ l', l'.length = l.length ∧ l'.Perm l ∧ l'.Pairwise (fun x y => lessD y.c.d x.c.d = false) ∧ OwnC w' base a c l' ∧ Chg (ob a) w w' := by
  by_cases h0 : l = []
  · subst h0
    exact (sortC_none a c _ w).mono fun e w' ⟨he, hw⟩ => ⟨he, [], rfl, .refl _, .nil, hw ▸ h, hw ▸ Chg.refl _ _⟩
  obtain ⟨blk, rfl⟩ : ∃ blk, a = some ⟨blk, 0, none⟩ := by
    rcases h.2 with ⟨h1, h2⟩ | ⟨g, cap, cur, h1, _⟩
    · simp at h1; exact absurd h1.2.1 h0
    · simp at h1; exact ⟨g, h1.1⟩
  obtain ⟨hH, hlt⟩ := holdsK_of ccel_len (by omega) h
  have hcon := AnyQ.slices_SortFunc Tryz.sortC 11 Tryz.isAgg54 Tryz.sizeOf54 ccel ccel_len (fun x v hv => ccel_one x v hv) cmpK swoK 57 #[] blk 0 c l.toArray w (enters_of Tryz.func57 (by kernel_rfl) rfl) (cmpLaysK blk 0 _ w) hH hlt (by simp; omega)
  change Calls Tryz.prog 56 _ _ _ at hcon
  have e1 : l.toArray.size = l.length := by simp
  rw [e1] at hcon
  refine hcon.mono ?_
  rintro e w' ⟨rfl, d', n, os, hp, hs, rfl⟩
  have hperm : d'.toList.Perm l := by have := permIn_list (d := l.toArray) (by rw [e1]; exact hp); simpa using this
  have hlen : d'.toList.length = l.length := hperm.length_eq
  obtain ⟨h1, h2⟩ := sorted_owns (n := n) (os := os) ccel_len (by omega) hlen h
  refine ⟨rfl, d'.toList, hlen, hperm, ?_, ?_, by simpa [ob] using h2⟩
  · have := sortedIn_list (lt := ltOf cmpK) (by rw [← hlen]; simp) hs
    refine this.imp fun {x y} hxy => ?_
    rwa [ltK_of] at hxy
  · unfold OwnC
    rw [hlen]
    simpa [ccs] using h1
end Go.Proofs.YtaandcblndldmaaGreat
