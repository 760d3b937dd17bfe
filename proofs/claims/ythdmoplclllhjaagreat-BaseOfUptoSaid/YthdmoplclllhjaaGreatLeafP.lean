/- Leaves in plain words: which may be, items at their place, tombs, what merges them. No program in sight. -/
import Derived.Test.YthdmoplclllhjaaGreatDotP
namespace Go.Proofs.YthdmoplclllhjaaGreat
set_option linter.unusedVariables false
set_option linter.unusedSimpArgs false

theorem lessD_iff (a b : Dt) : lessD a b = true ↔ (a.1.1 < b.1.1 ∨ a.1.1 = b.1.1 ∧ (a.1.2 < b.1.2 ∨ a.1.2 = b.1.2 ∧ a.2 < b.2)) := by simp [lessD]
theorem lessD_irrefl (a : Dt) : lessD a a = false := by
  cases h : lessD a a with
  | false => rfl
  | true => rw [lessD_iff] at h; omega
theorem lessD_trans {a b c : Dt} (h : lessD a b = true) (k : lessD b c = true) : lessD a c = true := by rw [lessD_iff] at *; omega
theorem lessD_total {a b : Dt} (h : a ≠ b) : lessD a b = true ∨ lessD b a = true := by
  obtain ⟨⟨r, i⟩, s⟩ := a
  obtain ⟨⟨r', i'⟩, s'⟩ := b
  rw [lessD_iff, lessD_iff]
  simp only [ne_eq, Prod.mk.injEq, not_and] at *
  omega

/-- an item: its time, its dot, its text -/
structure It where
  t : Int
  d : Dt
  x : ByteArray
/-- a leaf -/
structure Lf where
  k : Int
  n : Int
  t : Int
  d : Dt
  x : ByteArray
  items : List It
  tombs : List Dt

/-- which of two times and dots is ahead -/
def aheadT (t : Int) (d : Dt) (u : Int) (o : Dt) : Bool := decide (t < u) || (decide (t = u) && lessD d o)
theorem aheadT_iff (t : Int) (d : Dt) (u : Int) (o : Dt) : aheadT t d u o = true ↔ (t < u ∨ t = u ∧ lessD d o = true) := by simp [aheadT]
theorem aheadT_irrefl (t : Int) (d : Dt) : aheadT t d t d = false := by simp [aheadT, lessD_irrefl]
theorem aheadT_trans {t u v : Int} {d o p : Dt} (h : aheadT t d u o = true) (k : aheadT u o v p = true) : aheadT t d v p = true := by
  rw [aheadT_iff] at *
  rcases h with h | ⟨rfl, h⟩
  · rcases k with k | ⟨rfl, k⟩
    · exact .inl (by omega)
    · exact .inl h
  · rcases k with k | ⟨rfl, k⟩
    · exact .inl k
    · exact .inr ⟨rfl, lessD_trans h k⟩
theorem aheadT_asymm {t u : Int} {d o : Dt} (h : aheadT t d u o = true) : aheadT u o t d = false := by
  cases k : aheadT u o t d with
  | false => rfl
  | true =>
    have := aheadT_trans h k
    rw [aheadT_irrefl] at this
    cases this
theorem aheadT_total {t u : Int} {d o : Dt} (h : d ≠ o) : aheadT t d u o = true ∨ aheadT u o t d = true := by
  rw [aheadT_iff, aheadT_iff]
  by_cases e : t = u
  · subst e
    rcases lessD_total h with h | h
    · exact .inl (.inr ⟨rfl, h⟩)
    · exact .inr (.inr ⟨rfl, h⟩)
  · by_cases l : t < u
    · exact .inl (.inl l)
    · exact .inr (.inl (by omega))
def ltI (a b : It) : Prop := aheadT a.t a.d b.t b.d = true
theorem ltI_irrefl (a : It) : ¬ ltI a a := by unfold ltI; rw [aheadT_irrefl]; simp
theorem ltI_trans {a b c : It} (h : ltI a b) (k : ltI b c) : ltI a c := aheadT_trans h k
def ltD (a b : Dt) : Prop := lessD a b = true
theorem ltD_irrefl (a : Dt) : ¬ ltD a a := by unfold ltD; rw [lessD_irrefl]; simp
theorem ltD_trans {a b c : Dt} (h : ltD a b) (k : ltD b c) : ltD a c := lessD_trans h k

/-- one behind the other: all of them -/
theorem chain_pairwise {α : Type} {lt : α → α → Prop} (ht : ∀ {a b c}, lt a b → lt b c → lt a c) {l : List α} (h : ∀ i x y, l[i]? = some x → l[i + 1]? = some y → lt x y) : l.Pairwise lt := by
  rw [List.pairwise_iff_getElem]
  intro i j hi hj hij
  obtain ⟨m, rfl⟩ : ∃ m, j = i + 1 + m := ⟨j - (i + 1), by omega⟩
  clear hij
  induction m with
  | zero => exact h i _ _ (List.getElem?_eq_getElem hi) (List.getElem?_eq_getElem hj)
  | succ m ih =>
    have h1 : i + 1 + m < l.length := by omega
    exact ht (ih h1) (h (i + 1 + m) _ _ (List.getElem?_eq_getElem h1) (List.getElem?_eq_getElem hj))
theorem pairwise_next {α : Type} {lt : α → α → Prop} {l : List α} (h : l.Pairwise lt) {i : Nat} {x y : α} (hx : l[i]? = some x) (hy : l[i + 1]? = some y) : lt x y := by
  obtain ⟨h1, rfl⟩ := List.getElem?_eq_some_iff.1 hx
  obtain ⟨h2, rfl⟩ := List.getElem?_eq_some_iff.1 hy
  exact List.pairwise_iff_getElem.1 h i (i + 1) h1 h2 (by omega)

/-- items that may be, of a set (no times) or of a log -/
def OkItem (timed : Bool) (x : It) : Prop := may x.d = true ∧ x.x.size ≤ 40 ∧ (timed = true → 1 ≤ x.t ∧ x.t ≤ 1099511627776) ∧ (timed = false → x.t = 0)
def dotsOf (l : List It) : List Dt := l.map (·.d)
def MayItems (timed : Bool) (l : List It) : Prop := (∀ x ∈ l, OkItem timed x) ∧ l.Pairwise ltI ∧ (dotsOf l).Nodup
def MayTombs (l : List Dt) (items : List It) : Prop := (∀ d ∈ l, may d = true) ∧ l.Pairwise ltD ∧ ∀ d ∈ l, d ∉ dotsOf items
def noDot : Dt := ((0, 0), 0)
/-- a register that may be -/
def MayReg (t : Int) (d : Dt) (x : ByteArray) : Prop := (t = 0 ∧ d = noDot ∧ x.size = 0) ∨ (t ≠ 0 ∧ t ≤ 1099511627776 ∧ may d = true ∧ x.size ≤ 40)
def NoReg (l : Lf) : Prop := l.t = 0 ∧ l.d = noDot ∧ l.x.size = 0
/-- a leaf that may be -/
def MayLf (l : Lf) : Prop :=
  (l.k = 1 ∧ NoReg l ∧ l.items = [] ∧ l.tombs = []) ∨
  (l.k = 2 ∧ l.n = 0 ∧ MayReg l.t l.d l.x ∧ l.items = [] ∧ l.tombs = []) ∨
  (l.k = 3 ∧ l.n = 0 ∧ NoReg l ∧ MayItems false l.items ∧ MayTombs l.tombs l.items) ∨
  (l.k = 4 ∧ l.n = 0 ∧ NoReg l ∧ MayItems true l.items ∧ l.tombs = [])
theorem MayLf.kind {l : Lf} (h : MayLf l) : l.k = 1 ∨ l.k = 2 ∨ l.k = 3 ∨ l.k = 4 := by
  rcases h with h | h | h | h
  · exact .inl h.1
  · exact .inr (.inl h.1)
  · exact .inr (.inr (.inl h.1))
  · exact .inr (.inr (.inr h.1))

/-! an item at its place, a tomb at its place, what is left -/
def layP (l : List It) (x : It) : List It := if x.d ∈ dotsOf l then l else l.takeWhile (fun y => aheadT y.t y.d x.t x.d) ++ x :: l.dropWhile (fun y => aheadT y.t y.d x.t x.d)
def buryP (l : List Dt) (d : Dt) : List Dt := if d ∈ l then l else l.takeWhile (fun y => lessD y d) ++ d :: l.dropWhile (fun y => lessD y d)
def leftP (l : List It) (tombs : List Dt) : List It := l.filter fun x => decide (x.d ∉ tombs)

theorem insert_pairwise {α : Type} {lt : α → α → Prop} (p : α → Bool) {x : α} {l : List α} (ht : ∀ {a b c}, lt a b → lt b c → lt a c) (hp : ∀ y ∈ l, p y = true → lt y x) (hn : ∀ y ∈ l, p y = false → lt x y) (h : l.Pairwise lt) :
    (l.takeWhile p ++ x :: l.dropWhile p).Pairwise lt := by
  induction l with
  | nil => simp
  | cons a l ih =>
    have h1 := List.pairwise_cons.1 h
    cases e : p a with
    | true =>
      rw [List.takeWhile_cons_of_pos e, List.dropWhile_cons_of_pos e, List.cons_append]
      refine List.pairwise_cons.2 ⟨fun y hy => ?_, ih (fun y hy => hp y (.tail _ hy)) (fun y hy => hn y (.tail _ hy)) h1.2⟩
      rcases List.mem_append.1 hy with hy | hy
      · exact h1.1 y ((List.takeWhile_prefix p).subset hy)
      · rcases List.mem_cons.1 hy with rfl | hy
        · exact hp a (.head _) e
        · exact h1.1 y ((List.dropWhile_suffix p).subset hy)
    | false =>
      rw [List.takeWhile_cons_of_neg (by simp [e]), List.dropWhile_cons_of_neg (by simp [e]), List.nil_append]
      refine List.pairwise_cons.2 ⟨fun y hy => ?_, h⟩
      rcases List.mem_cons.1 hy with rfl | hy
      · exact hn y (.head _) e
      · exact ht (hn a (.head _) e) (h1.1 y hy)
theorem mem_insert {α : Type} (p : α → Bool) {x y : α} {l : List α} : y ∈ l.takeWhile p ++ x :: l.dropWhile p ↔ y = x ∨ y ∈ l := by
  have := List.takeWhile_append_dropWhile (p := p) (l := l)
  constructor
  · intro h
    rcases List.mem_append.1 h with h | h
    · exact .inr ((List.takeWhile_prefix p).subset h)
    · rcases List.mem_cons.1 h with h | h
      · exact .inl h
      · exact .inr ((List.dropWhile_suffix p).subset h)
  · rintro (rfl | h)
    · simp
    · rw [← this] at h
      rcases List.mem_append.1 h with h | h
      · exact List.mem_append.2 (.inl h)
      · exact List.mem_append.2 (.inr (.tail _ h))
theorem mem_dotsOf {d : Dt} {l : List It} : d ∈ dotsOf l ↔ ∃ x ∈ l, x.d = d := by simp [dotsOf]
theorem mem_layP {l : List It} {x y : It} : y ∈ layP l x ↔ y ∈ l ∨ (y = x ∧ x.d ∉ dotsOf l) := by
  unfold layP
  by_cases h : x.d ∈ dotsOf l
  · rw [if_pos h]; simp [h]
  · rw [if_neg h, mem_insert]; simp [h, or_comm]
theorem layP_pairwise {l : List It} {x : It} (h : l.Pairwise ltI) : (layP l x).Pairwise ltI := by
  unfold layP
  by_cases e : x.d ∈ dotsOf l
  · rw [if_pos e]; exact h
  · rw [if_neg e]
    refine insert_pairwise _ ltI_trans (fun y _ hy => hy) (fun y hy hf => ?_) h
    rcases aheadT_total (t := y.t) (u := x.t) (show y.d ≠ x.d from fun e' => e (mem_dotsOf.2 ⟨y, hy, e'⟩)) with h | h
    · rw [hf] at h; cases h
    · exact h
theorem mem_buryP {l : List Dt} {x y : Dt} : y ∈ buryP l x ↔ y ∈ l ∨ y = x := by
  unfold buryP
  by_cases h : x ∈ l
  · rw [if_pos h]
    exact ⟨.inl, fun h' => h'.elim id fun e => e ▸ h⟩
  · rw [if_neg h, mem_insert, or_comm]
theorem buryP_pairwise {l : List Dt} {x : Dt} (h : l.Pairwise ltD) : (buryP l x).Pairwise ltD := by
  unfold buryP
  by_cases e : x ∈ l
  · rw [if_pos e]; exact h
  · rw [if_neg e]
    refine insert_pairwise _ ltD_trans (fun y _ hy => hy) (fun y hy hf => ?_) h
    rcases lessD_total (show y ≠ x from fun e' => e (e' ▸ hy)) with h | h
    · rw [hf] at h; cases h
    · exact h
theorem mem_leftP {l : List It} {ts : List Dt} {x : It} : x ∈ leftP l ts ↔ x ∈ l ∧ x.d ∉ ts := by simp [leftP]
/-! the merge -/
def isU (x : Int) : Prop := 0 ≤ x ∧ x ≤ 18446744073709551615
/-- a leaf without anything but its type -/
def bare (k : Int) : Lf := ⟨k, 0, 0, noDot, ByteArray.empty, [], []⟩
/-- tombs of both, rising -/
def TombsOf (a b ts : List Dt) : Prop := ts.Pairwise ltD ∧ ∀ d, d ∈ ts ↔ d ∈ a ∨ d ∈ b
/-- items of both (the first one's ahead of the second one's) that are no tombs, rising -/
def ItemsOf (a b : List It) (ts : List Dt) (l : List It) : Prop := l.Pairwise ltI ∧ ∀ x, x ∈ l ↔ (x ∈ a ∨ (x ∈ b ∧ x.d ∉ dotsOf a)) ∧ x.d ∉ ts
theorem TombsOf.uniq {a b x y : List Dt} (h : TombsOf a b x) (k : TombsOf a b y) : x = y :=
  rising_ext ltD_irrefl ltD_trans h.1 k.1 fun d => (h.2 d).trans (k.2 d).symm
theorem ItemsOf.uniq {a b : List It} {ts : List Dt} {x y : List It} (h : ItemsOf a b ts x) (k : ItemsOf a b ts y) : x = y :=
  rising_ext ltI_irrefl ltI_trans h.1 k.1 fun d => (h.2 d).trans (k.2 d).symm
/-- the register that wins -/
def regP (a b : Lf) : Lf := if a.t = 0 ∨ (b.t ≠ 0 ∧ aheadT b.t b.d a.t a.d = false) then b else a
/-- m is the merge of a and b over l, of leaves that may be, of one type -/
def Merged (l a b m : Lf) : Prop :=
  (l.k = 1 ∧ m = { bare 1 with n := IntKind.wrap .i64 (a.n - l.n + b.n) }) ∨
  (l.k = 2 ∧ m = { bare 2 with t := (regP a b).t, d := (regP a b).d, x := (regP a b).x }) ∨
  (l.k = 3 ∧ ∃ ts is, TombsOf a.tombs b.tombs ts ∧ ItemsOf a.items b.items ts is ∧ m = { bare 3 with items := is, tombs := ts }) ∨
  (l.k = 4 ∧ ∃ is, ItemsOf a.items b.items [] is ∧ m = { bare 4 with items := is })
theorem Merged.uniq {l a b m n : Lf} (h : Merged l a b m) (k : Merged l a b n) : m = n := by
  rcases h with ⟨e, rfl⟩ | ⟨e, rfl⟩ | ⟨e, ts, is, h1, h2, rfl⟩ | ⟨e, is, h2, rfl⟩ <;> rcases k with ⟨e', rfl⟩ | ⟨e', rfl⟩ | ⟨e', ts', is', h3, h4, rfl⟩ | ⟨e', is', h4, rfl⟩ <;> first | (rw [e] at e'; cases e'; done) | rfl | skip
  · obtain rfl := h1.uniq h3
    obtain rfl := h2.uniq h4
    rfl
  · obtain rfl := h2.uniq h4
    rfl
end Go.Proofs.YthdmoplclllhjaaGreat
