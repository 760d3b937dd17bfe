/- Vectors in plain words: numbers of actors, canonical forms, joins, meets; and the document's ways to them. No program in sight. -/
import Derived.Test.YtaandcblndldmaaGreatRows
namespace Go.Proofs.YtaandcblndldmaaGreat
set_option linter.unusedVariables false
set_option linter.unusedSimpArgs false

/-- an actor: its replica, its life; a dot: its actor, its number -/
abbrev Ac := Int × Int
abbrev Dt := Ac × Int
def okA (a : Ac) : Prop := (0 ≤ a.1 ∧ a.1 ≤ 255) ∧ 0 ≤ a.2 ∧ a.2 ≤ 4294967295
def okD (d : Dt) : Prop := okA d.1 ∧ 0 ≤ d.2 ∧ d.2 ≤ 18446744073709551615
def okV (v : List Dt) : Prop := ∀ d ∈ v, okD d
def mayA (a : Ac) : Bool := decide (a.1 < 16 ∧ 1 ≤ a.2 ∧ a.2 ≤ 4)
def may (d : Dt) : Bool := mayA d.1 && decide (1 ≤ d.2 ∧ d.2 ≤ 1048576)
theorem mayA_iff (a : Ac) : mayA a = true ↔ a.1 < 16 ∧ 1 ≤ a.2 ∧ a.2 ≤ 4 := by simp [mayA]
theorem may_iff (d : Dt) : may d = true ↔ mayA d.1 = true ∧ 1 ≤ d.2 ∧ d.2 ≤ 1048576 := by simp [may]

def allA : List Ac := (List.range 16).flatMap fun (r : Nat) => (List.range 4).map fun (i : Nat) => (((r : Nat) : Int), ((i : Nat) : Int) + 1)
theorem allA_length : allA.length = 64 := by decide +kernel
theorem mem_allA (a : Ac) : a ∈ allA ↔ 0 ≤ a.1 ∧ mayA a = true := by
  obtain ⟨r, i⟩ := a
  simp only [allA, List.mem_flatMap, List.mem_range, List.mem_map, Prod.mk.injEq, mayA_iff]
  constructor
  · rintro ⟨x, hx, y, hy, rfl, rfl⟩; omega
  · rintro ⟨h1, h2, h3, h4⟩
    exact ⟨r.toNat, by omega, (i - 1).toNat, by omega, by omega, by omega⟩

/-- which actor is ahead -/
def ltA (a b : Ac) : Prop := a.1 < b.1 ∨ a.1 = b.1 ∧ a.2 < b.2
instance (a b : Ac) : Decidable (ltA a b) := by unfold ltA; infer_instance
theorem ltA_irrefl (a : Ac) : ¬ ltA a a := by unfold ltA; omega
theorem ltA_trans {a b c : Ac} (h : ltA a b) (k : ltA b c) : ltA a c := by unfold ltA at *; omega
theorem ltA_total (a b : Ac) (h : a ≠ b) : ltA a b ∨ ltA b a := by
  obtain ⟨r, i⟩ := a
  obtain ⟨r', i'⟩ := b
  simp only [ltA, ne_eq, Prod.mk.injEq] at *
  omega
theorem allA_rising : allA.Pairwise ltA := by decide +kernel

/-- rising lists with the same members are the same -/
theorem rising_ext {α : Type} {lt : α → α → Prop} (hi : ∀ a, ¬ lt a a) (ht : ∀ {a b c}, lt a b → lt b c → lt a c) : ∀ {l₁ l₂ : List α}, l₁.Pairwise lt → l₂.Pairwise lt → (∀ a, a ∈ l₁ ↔ a ∈ l₂) → l₁ = l₂
  | [], [], _, _, _ => rfl
  | [], b :: l, _, _, h => absurd ((h b).2 (by simp)) (by simp)
  | a :: l, [], _, _, h => absurd ((h a).1 (by simp)) (by simp)
  | a :: l, b :: m, h1, h2, h => by
    obtain ⟨p1, p2⟩ := List.pairwise_cons.1 h1
    obtain ⟨q1, q2⟩ := List.pairwise_cons.1 h2
    have hab : a = b := by
      rcases List.mem_cons.1 ((h a).1 (by simp)) with e | e
      · exact e
      · rcases List.mem_cons.1 ((h b).2 (by simp)) with e' | e'
        · exact e'.symm
        · exact absurd (ht (q1 a e) (p1 b e')) (hi _)
    subst hab
    congr 1
    refine rising_ext hi ht p2 q2 fun x => ?_
    constructor
    · intro hx
      rcases List.mem_cons.1 ((h x).1 (List.mem_cons_of_mem _ hx)) with rfl | e
      · exact absurd (p1 _ hx) (hi _)
      · exact e
    · intro hx
      rcases List.mem_cons.1 ((h x).2 (List.mem_cons_of_mem _ hx)) with rfl | e
      · exact absurd (q1 _ hx) (hi _)
      · exact e

/-- an actor's number of a vector -/
def getN (v : List Dt) (a : Ac) : Int := v.foldl (fun n d => if may d = true ∧ d.1 = a then max n d.2 else n) 0
theorem getN_snoc (v : List Dt) (d : Dt) (a : Ac) : getN (v ++ [d]) a = if may d = true ∧ d.1 = a then max (getN v a) d.2 else getN v a := by
  simp [getN, List.foldl_append]
theorem getN_bd (v : List Dt) (a : Ac) : 0 ≤ getN v a ∧ getN v a ≤ 1048576 := by
  suffices ∀ (v : List Dt) (n : Int), 0 ≤ n → n ≤ 1048576 → 0 ≤ v.foldl (fun n d => if may d = true ∧ d.1 = a then max n d.2 else n) n ∧ v.foldl (fun n d => if may d = true ∧ d.1 = a then max n d.2 else n) n ≤ 1048576 from this v 0 (by omega) (by omega)
  intro v
  induction v with
  | nil => intro n h1 h2; exact ⟨h1, h2⟩
  | cons d v ih =>
    intro n h1 h2
    simp only [List.foldl_cons]
    split
    · rename_i h
      have := (may_iff d).1 h.1
      exact ih _ (by omega) (by omega)
    · exact ih _ h1 h2
theorem snoc_rec {α : Type} {P : List α → Prop} (h0 : P []) (h1 : ∀ l a, P l → P (l ++ [a])) (l : List α) : P l := by
  have : ∀ n (l : List α), l.length = n → P l := by
    intro n
    induction n with
    | zero => intro l h; rw [List.eq_nil_of_length_eq_zero h]; exact h0
    | succ n ih =>
      intro l h
      have hne : l ≠ [] := by intro e; subst e; simp at h
      rw [← List.dropLast_concat_getLast hne]
      exact h1 _ _ (ih _ (by simp [h]))
  exact this _ l rfl
theorem getN_le (v : List Dt) (a : Ac) (n : Int) (hn : 0 ≤ n) : getN v a ≤ n ↔ ∀ d ∈ v, may d = true → d.1 = a → d.2 ≤ n := by
  induction v using snoc_rec with
  | h0 => simp [getN, hn]
  | h1 v d ih =>
    rw [getN_snoc]
    constructor
    · intro h x hx hm ha
      rw [List.mem_append, List.mem_singleton] at hx
      split at h
      · rcases hx with hx | rfl
        · exact ih.1 (by omega) x hx hm ha
        · omega
      · rename_i hc
        rcases hx with hx | rfl
        · exact ih.1 h x hx hm ha
        · exact absurd ⟨hm, ha⟩ hc
    · intro h
      have h1 := ih.2 fun x hx => h x (by simp [hx])
      split
      · rename_i hc
        have := h d (by simp) hc.1 hc.2
        omega
      · exact h1
theorem le_getN {v : List Dt} {d : Dt} (hd : d ∈ v) (hm : may d = true) : d.2 ≤ getN v d.1 :=
  (getN_le v d.1 _ (getN_bd v d.1).1).1 (Int.le_refl _) d hd hm rfl
/-- it is some dot's -/
theorem getN_mem {v : List Dt} {a : Ac} (h : 0 < getN v a) : ∃ d ∈ v, may d = true ∧ d.1 = a ∧ d.2 = getN v a := by
  induction v using snoc_rec with
  | h0 => simp [getN] at h
  | h1 v d ih =>
    rw [getN_snoc] at h ⊢
    split
    · rename_i hc
      have hd := (may_iff d).1 hc.1
      rcases Int.le_total (getN v a) d.2 with hle | hle
      · exact ⟨d, by simp, hc.1, hc.2, by omega⟩
      · obtain ⟨x, h1, h2, h3, h4⟩ := ih (by omega)
        exact ⟨x, by simp [h1], h2, h3, by omega⟩
    · rename_i hc
      rw [if_neg hc] at h
      obtain ⟨x, h1, h2, h3, h4⟩ := ih h
      exact ⟨x, by simp [h1], h2, h3, h4⟩
theorem getN_may {v : List Dt} {a : Ac} (h : 0 < getN v a) : mayA a = true := by
  obtain ⟨d, _, h2, h3, _⟩ := getN_mem h
  rw [← h3]; exact ((may_iff d).1 h2).1
theorem getN_all {v : List Dt} (hv : okV v) {a : Ac} (h : 0 < getN v a) : a ∈ allA := by
  obtain ⟨d, h1, h2, h3, _⟩ := getN_mem h
  rw [mem_allA, ← h3]
  exact ⟨(hv d h1).1.1.1, ((may_iff d).1 h2).1⟩
theorem getN_append (v w : List Dt) (a : Ac) : getN (v ++ w) a = max (getN v a) (getN w a) := by
  have b1 := getN_bd v a
  have b2 := getN_bd w a
  apply Int.le_antisymm
  · rw [getN_le _ _ _ (by omega)]
    intro d hd hm ha
    subst ha
    rcases List.mem_append.1 hd with h | h
    · have := le_getN h hm; omega
    · have := le_getN h hm; omega
  · have h1 : getN v a ≤ getN (v ++ w) a := by
      rw [getN_le _ _ _ (getN_bd _ _).1]; intro d hd hm ha; subst ha; exact le_getN (List.mem_append_left _ hd) hm
    have h2 : getN w a ≤ getN (v ++ w) a := by
      rw [getN_le _ _ _ (getN_bd _ _).1]; intro d hd hm ha; subst ha; exact le_getN (List.mem_append_right _ hd) hm
    omega

/-- numbers as a vector -/
def vecOf (f : Ac → Int) : List Dt := (allA.filter fun a => decide (0 < f a)).map fun a => (a, f a)
/-- numbers that may be a vector's -/
def okN (f : Ac → Int) : Prop := ∀ a, 0 ≤ f a ∧ f a ≤ 1048576 ∧ (0 < f a → a ∈ allA)
theorem okN_getN {v : List Dt} (hv : okV v) : okN (getN v) := fun a => ⟨(getN_bd v a).1, (getN_bd v a).2, getN_all hv⟩
theorem okN_max {f g : Ac → Int} (hf : okN f) (hg : okN g) : okN fun a => max (f a) (g a) := fun a => by
  have h1 := hf a
  have h2 := hg a
  show 0 ≤ max (f a) (g a) ∧ max (f a) (g a) ≤ 1048576 ∧ (0 < max (f a) (g a) → a ∈ allA)
  refine ⟨by omega, by omega, fun h => ?_⟩
  rcases Int.le_total (f a) (g a) with k | k
  · exact (hg a).2.2 (by omega)
  · exact (hf a).2.2 (by omega)
theorem okN_min {f g : Ac → Int} (hf : okN f) (hg : okN g) : okN fun a => min (f a) (g a) := fun a => by
  have h1 := hf a
  have h2 := hg a
  show 0 ≤ min (f a) (g a) ∧ min (f a) (g a) ≤ 1048576 ∧ (0 < min (f a) (g a) → a ∈ allA)
  exact ⟨by omega, by omega, fun h => (hf a).2.2 (by omega)⟩
theorem mem_vecOf {f : Ac → Int} (hf : okN f) (d : Dt) : d ∈ vecOf f ↔ 0 < f d.1 ∧ d.2 = f d.1 := by
  simp only [vecOf, List.mem_map, List.mem_filter, decide_eq_true_eq]
  constructor
  · rintro ⟨a, ⟨_, h2⟩, rfl⟩; exact ⟨h2, rfl⟩
  · rintro ⟨h1, h2⟩
    exact ⟨d.1, ⟨(hf d.1).2.2 h1, h1⟩, by rw [← h2]⟩
theorem may_vecOf {f : Ac → Int} (hf : okN f) {d : Dt} (hd : d ∈ vecOf f) : may d = true := by
  obtain ⟨h1, h2⟩ := (mem_vecOf hf d).1 hd
  have := hf d.1
  exact (may_iff d).2 ⟨((mem_allA _).1 (this.2.2 h1)).2, by omega, by omega⟩
theorem okV_vecOf {f : Ac → Int} (hf : okN f) : okV (vecOf f) := fun d hd => by
  obtain ⟨h1, h2⟩ := (mem_vecOf hf d).1 hd
  have h3 := hf d.1
  have h4 := (mem_allA _).1 (h3.2.2 h1)
  have h5 := (mayA_iff _).1 h4.2
  unfold okD okA
  omega
theorem getN_vecOf {f : Ac → Int} (hf : okN f) (a : Ac) : getN (vecOf f) a = f a := by
  have b := getN_bd (vecOf f) a
  have hfa := hf a
  apply Int.le_antisymm
  · rw [getN_le _ _ _ (by omega)]
    intro d hd hm ha
    obtain ⟨_, h2⟩ := (mem_vecOf hf d).1 hd
    rw [← ha, h2]; omega
  · rcases Int.lt_or_le 0 (f a) with h | h
    · have hm : (a, f a) ∈ vecOf f := (mem_vecOf hf _).2 ⟨h, rfl⟩
      exact le_getN hm (may_vecOf hf hm)
    · omega
theorem vecOf_rising (f : Ac → Int) : (vecOf f).Pairwise fun x y => ltA x.1 y.1 := by
  unfold vecOf
  rw [List.pairwise_map]
  exact allA_rising.filter _
theorem vecOf_length (f : Ac → Int) : (vecOf f).length ≤ 64 := by
  unfold vecOf
  rw [List.length_map, ← allA_length]
  exact List.length_filter_le _ _
theorem vecOf_congr {f g : Ac → Int} (h : ∀ a ∈ allA, f a = g a) : vecOf f = vecOf g := by
  have e : allA.filter (fun a => decide (0 < f a)) = allA.filter (fun a => decide (0 < g a)) := List.filter_congr fun a ha => by rw [h a ha]
  unfold vecOf
  rw [e]
  exact List.map_congr_left fun a ha => by rw [h a (List.mem_filter.1 ha).1]
/-- any rising list of keys, of which those with numbers are kept, is that vector -/
theorem vecOf_keys {f : Ac → Int} (hf : okN f) {S : List Ac} (hS : S.Pairwise ltA) (hm : ∀ a, 0 < f a → a ∈ S) : (S.filter fun a => decide (0 < f a)).map (fun a => (a, f a)) = vecOf f := by
  unfold vecOf
  congr 1
  refine rising_ext ltA_irrefl ltA_trans (hS.filter _) (allA_rising.filter _) fun a => ?_
  simp only [List.mem_filter, decide_eq_true_eq]
  exact ⟨fun h => ⟨(hf a).2.2 h.2, h.2⟩, fun h => ⟨hm a h.2, h.2⟩⟩
def canonV (v : List Dt) : List Dt := vecOf (getN v)
def joinV (a b : List Dt) : List Dt := vecOf fun x => max (getN a x) (getN b x)
def meetV (a b : List Dt) : List Dt := vecOf fun x => min (getN a x) (getN b x)
def withinV (a b : List Dt) : Bool := allA.all fun x => decide (getN a x ≤ getN b x)
def hasV (v : List Dt) (d : Dt) : Bool := may d && decide (d.2 ≤ getN v d.1)
theorem withinV_iff {a b : List Dt} (ha : okV a) : withinV a b = true ↔ ∀ x, getN a x ≤ getN b x := by
  simp only [withinV, List.all_eq_true, decide_eq_true_eq]
  refine ⟨fun h x => ?_, fun h x _ => h x⟩
  rcases Int.lt_or_le 0 (getN a x) with k | k
  · exact h x (getN_all ha k)
  · have := getN_bd b x; omega
theorem getN_joinV {v w : List Dt} (hv : okV v) (hw : okV w) (a : Ac) : getN (joinV v w) a = max (getN v a) (getN w a) := getN_vecOf (okN_max (okN_getN hv) (okN_getN hw)) a
theorem getN_meetV {v w : List Dt} (hv : okV v) (hw : okV w) (a : Ac) : getN (meetV v w) a = min (getN v a) (getN w a) := getN_vecOf (okN_min (okN_getN hv) (okN_getN hw)) a
theorem okV_canonV {v : List Dt} (hv : okV v) : okV (canonV v) := okV_vecOf (okN_getN hv)
theorem okV_joinV {v w : List Dt} (hv : okV v) (hw : okV w) : okV (joinV v w) := okV_vecOf (okN_max (okN_getN hv) (okN_getN hw))
theorem okV_meetV {v w : List Dt} (hv : okV v) (hw : okV w) : okV (meetV v w) := okV_vecOf (okN_min (okN_getN hv) (okN_getN hw))

/-! the laws of DotOrder -/
theorem canon_join {a b : List Dt} (ha : okV a) (hb : okV b) : canonV (joinV a b) = joinV a b := vecOf_congr fun x _ => getN_joinV ha hb x
/-! the document's ways to the same -/
def lessD (a b : Dt) : Bool := decide (a.1.1 < b.1.1 ∨ a.1.1 = b.1.1 ∧ (a.1.2 < b.1.2 ∨ a.1.2 = b.1.2 ∧ a.2 < b.2))
def cmpD (a b : Dt) : Int := if lessD a b = true then -1 else if lessD b a = true then 1 else 0
theorem lessD_ltA {a b : Dt} (h : a.1 ≠ b.1) : lessD a b = true ↔ ltA a.1 b.1 := by
  obtain ⟨⟨r, i⟩, s⟩ := a
  obtain ⟨⟨r', i'⟩, s'⟩ := b
  simp only [lessD, ltA, ne_eq, Prod.mk.injEq, decide_eq_true_eq] at *
  omega
/-- a vector's greatest dots among its first ones -/
def fstN (v : List Dt) (k : Nat) (a : Ac) : Int := if ∃ d ∈ v.take k, may d = true ∧ d.1 = a ∧ d.2 = getN v a then getN v a else 0
theorem okN_fst {v : List Dt} (hv : okV v) (k : Nat) : okN (fstN v k) := fun a => by
  have h := okN_getN hv a
  unfold fstN
  split
  · exact h
  · exact ⟨by omega, by omega, fun k => by omega⟩
theorem fstN_zero (v : List Dt) : vecOf (fstN v 0) = [] := by
  unfold vecOf
  rw [List.filter_eq_nil_iff.2]
  · rfl
  · intro a _; simp [fstN]
theorem fstN_all {v : List Dt} : vecOf (fstN v v.length) = canonV v := by
  refine vecOf_congr fun a _ => ?_
  unfold fstN
  rw [List.take_length]
  split
  · rfl
  · rename_i h
    rcases Int.lt_or_le 0 (getN v a) with k | k
    · exact absurd (getN_mem k) h
    · have := getN_bd v a; omega
theorem fstN_succ {v : List Dt} {k : Nat} {d : Dt} (hd : v[k]? = some d) (a : Ac) : fstN v (k + 1) a = if may d = true ∧ d.1 = a ∧ d.2 = getN v a then getN v a else fstN v k a := by
  have ht : v.take (k + 1) = v.take k ++ [d] := by
    obtain ⟨hk, rfl⟩ := List.getElem?_eq_some_iff.1 hd
    rw [List.take_succ_eq_append_getElem hk]
  unfold fstN
  rw [ht]
  by_cases h : may d = true ∧ d.1 = a ∧ d.2 = getN v a
  · rw [if_pos ⟨d, by simp, h⟩, if_pos h]
  · rw [if_neg h]
    congr 1
    simp only [List.mem_append, List.mem_singleton, eq_iff_iff]
    constructor
    · rintro ⟨x, hx | rfl, hh⟩
      · exact ⟨x, hx, hh⟩
      · exact absurd hh h
    · rintro ⟨x, hx, hh⟩; exact ⟨x, .inl hx, hh⟩
/-- one that is passed over -/
theorem fstN_pass {v : List Dt} {k : Nat} {d : Dt} (hv : okV v) (hd : v[k]? = some d) (h : may d = false ∨ d.2 ≠ getN v d.1 ∨ 0 < getN (vecOf (fstN v k)) d.1) : vecOf (fstN v (k + 1)) = vecOf (fstN v k) := by
  refine vecOf_congr fun a _ => ?_
  rw [fstN_succ hd]
  split
  · rename_i hc
    obtain ⟨h1, rfl, h3⟩ := hc
    rcases h with h | h | h
    · rw [h] at h1; cases h1
    · exact absurd h3 h
    · rw [getN_vecOf (okN_fst hv k)] at h
      unfold fstN at h ⊢
      split at h
      · rename_i hh; rw [if_pos hh]
      · omega
  · rfl
/-- a dot laid at its place -/
theorem vecOf_insert {f : Ac → Int} (hf : okN f) {d : Dt} {k : Nat} (hd : d.1 ∈ allA) (h0 : f d.1 = 0) (h1 : 1 ≤ d.2) (h2 : d.2 ≤ 1048576)
    (ha : ∀ j x, j < k → (vecOf f)[j]? = some x → lessD x d = true) (hb : ∀ x, (vecOf f)[k]? = some x → lessD x d = false) :
    (vecOf f).take k ++ d :: (vecOf f).drop k = vecOf (fun a => if a = d.1 then d.2 else f a) := by
  have hg : okN (fun a => if a = d.1 then d.2 else f a) := fun a => by
    have := hf a
    show 0 ≤ (if a = d.1 then d.2 else f a) ∧ (if a = d.1 then d.2 else f a) ≤ 1048576 ∧ (0 < (if a = d.1 then d.2 else f a) → a ∈ allA)
    split
    · rename_i e; subst e; exact ⟨by omega, h2, fun _ => hd⟩
    · exact this
  have hne : ∀ x ∈ vecOf f, x.1 ≠ d.1 := fun x hx e => by
    have := ((mem_vecOf hf x).1 hx).1
    rw [e] at this; omega
  have hr := vecOf_rising f
  have hlt : ∀ x ∈ (vecOf f).take k, ltA x.1 d.1 := fun x hx => by
    obtain ⟨j, hj⟩ := List.getElem?_of_mem hx
    rw [List.getElem?_take] at hj
    split at hj
    · rename_i hjk
      exact (lessD_ltA (hne x (List.mem_of_mem_take hx))).1 (ha j x hjk hj)
    · cases hj
  have hgt : ∀ x ∈ (vecOf f).drop k, ltA d.1 x.1 := fun x hx => by
    obtain ⟨j, hj⟩ := List.getElem?_of_mem hx
    rw [List.getElem?_drop] at hj
    have hk : k < (vecOf f).length := by
      have := (List.getElem?_eq_some_iff.1 hj).1
      omega
    have hy := List.getElem?_eq_getElem hk
    have hyl := hb _ hy
    have hyd : ltA d.1 ((vecOf f)[k]).1 := by
      rcases ltA_total ((vecOf f)[k]).1 d.1 (hne _ (List.getElem_mem hk)) with e | e
      · rw [(lessD_ltA (hne _ (List.getElem_mem hk))).2 e] at hyl; cases hyl
      · exact e
    rcases Nat.eq_zero_or_pos j with rfl | hj0
    · rw [Nat.add_zero, hy] at hj
      cases hj
      exact hyd
    · obtain ⟨hkj, rfl⟩ := List.getElem?_eq_some_iff.1 hj
      exact ltA_trans hyd (List.pairwise_iff_getElem.1 hr k (k + j) hk hkj (by omega))
  refine rising_ext (lt := fun x y : Dt => ltA x.1 y.1) (fun a => ltA_irrefl _) (fun h k => ltA_trans h k) ?_ (vecOf_rising _) fun x => ?_
  · rw [List.pairwise_append, List.pairwise_cons]
    refine ⟨hr.take, ⟨fun y hy => hgt y hy, hr.drop⟩, fun x hx y hy => ?_⟩
    rcases List.mem_cons.1 hy with rfl | hy
    · exact hlt x hx
    · exact ltA_trans (hlt x hx) (hgt y hy)
  · rw [mem_vecOf hg]
    have hmem : x ∈ (vecOf f).take k ++ d :: (vecOf f).drop k ↔ x = d ∨ x ∈ vecOf f := by
      rw [List.mem_append, List.mem_cons]
      conv => rhs; rhs; rw [← List.take_append_drop k (vecOf f), List.mem_append]
      constructor
      · rintro (h | h | h)
        · exact .inr (.inl h)
        · exact .inl h
        · exact .inr (.inr h)
      · rintro (h | h | h)
        · exact .inr (.inl h)
        · exact .inl h
        · exact .inr (.inr h)
    rw [hmem, mem_vecOf hf]
    constructor
    · rintro (rfl | ⟨g1, g2⟩)
      · simp; omega
      · rw [if_neg (by intro e; rw [e] at g1; omega)]; exact ⟨g1, g2⟩
    · rintro ⟨g1, g2⟩
      by_cases e : x.1 = d.1
      · rw [if_pos e] at g2; left; exact Prod.ext e g2
      · rw [if_neg e] at g1 g2; exact .inr ⟨g1, g2⟩
theorem fstN_lay {v : List Dt} {k : Nat} {d : Dt} (hv : okV v) (hd : v[k]? = some d) (hm : may d = true) (hs : d.2 = getN v d.1) (h0 : getN (vecOf (fstN v k)) d.1 = 0) {i : Nat}
    (ha : ∀ j x, j < i → (vecOf (fstN v k))[j]? = some x → lessD x d = true) (hb : ∀ x, (vecOf (fstN v k))[i]? = some x → lessD x d = false) :
    (vecOf (fstN v k)).take i ++ d :: (vecOf (fstN v k)).drop i = vecOf (fstN v (k + 1)) := by
  have hmm := (may_iff d).1 hm
  rw [getN_vecOf (okN_fst hv k)] at h0
  rw [vecOf_insert (okN_fst hv k) ((mem_allA _).2 ⟨(hv d (List.mem_of_getElem? hd)).1.1.1, hmm.1⟩) h0 hmm.2.1 hmm.2.2 ha hb]
  refine vecOf_congr fun a _ => ?_
  rw [fstN_succ hd]
  by_cases e : a = d.1
  · subst e; rw [if_pos rfl, if_pos ⟨hm, rfl, hs⟩, hs]
  · rw [if_neg e, if_neg (by rintro ⟨_, h, _⟩; exact e h.symm)]
theorem canon_append (a b : List Dt) : canonV (a ++ b) = joinV a b := vecOf_congr fun x _ => getN_append a b x
def metV (a b : List Dt) : List Dt := (canonV a).map fun d => (d.1, min (getN b d.1) d.2)
theorem okV_metV {a b : List Dt} (ha : okV a) : okV (metV a b) := fun d hd => by
  obtain ⟨x, hx, rfl⟩ := List.mem_map.1 hd
  have h1 := okV_canonV ha x hx
  have h2 := getN_bd b x.1
  refine ⟨h1.1, ?_⟩
  have h3 := h1.2
  show 0 ≤ min (getN b x.1) x.2 ∧ min (getN b x.1) x.2 ≤ 18446744073709551615
  omega
theorem canon_metV {a b : List Dt} (ha : okV a) : canonV (metV a b) = meetV a b := by
  refine vecOf_congr fun x _ => ?_
  have b1 := getN_bd a x
  have b2 := getN_bd b x
  have b3 := getN_bd (metV a b) x
  apply Int.le_antisymm
  · rw [getN_le _ _ _ (by omega)]
    intro d hd hm hx
    obtain ⟨y, hy, rfl⟩ := List.mem_map.1 hd
    obtain ⟨_, h2⟩ := (mem_vecOf (okN_getN ha) y).1 hy
    have hx' : y.1 = x := hx
    show min (getN b y.1) y.2 ≤ _
    rw [h2, hx']; omega
  · rcases Int.lt_or_le 0 (min (getN a x) (getN b x)) with h | h
    · have hm : (x, getN a x) ∈ canonV a := (mem_vecOf (okN_getN ha) _).2 ⟨by show 0 < getN a x; omega, rfl⟩
      have hm2 : (x, min (getN b x) (getN a x)) ∈ metV a b := List.mem_map.2 ⟨_, hm, rfl⟩
      have := le_getN hm2 ((may_iff _).2 ⟨getN_may (by omega : 0 < getN a x), by show 1 ≤ min (getN b x) (getN a x); omega, by show min (getN b x) (getN a x) ≤ 1048576; omega⟩)
      have h3 : min (getN b x) (getN a x) ≤ getN (metV a b) x := this
      omega
    · omega
theorem within_dots {a b : List Dt} (ha : okV a) : withinV a b = true ↔ ∀ d ∈ a, may d = true → d.2 ≤ getN b d.1 := by
  rw [withinV_iff ha]
  constructor
  · intro h d hd hm; have := le_getN hd hm; have := h d.1; omega
  · intro h x
    rw [getN_le _ _ _ (getN_bd b x).1]
    intro d hd hm hx
    subst hx; exact h d hd hm
end Go.Proofs.YtaandcblndldmaaGreat
