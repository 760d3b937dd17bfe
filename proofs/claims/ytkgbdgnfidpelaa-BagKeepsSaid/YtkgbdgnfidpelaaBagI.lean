/- The contracts in one word: a bag in memory of one's own; the page's example. -/
import Derived.Test.YtkgbdgnfidpelaaBagH
import Derived.Laws.BytesString
import Derived.Lib.SlBytesConst
namespace Go.Proofs.Ytkgbdgnfidpelaa
open Go.RowKit
set_option linter.unusedVariables false
set_option linter.unusedSimpArgs false

theorem list_map_eraseIdx {α β : Type} (f : α → β) : ∀ (l : List α) (i : Nat), (l.eraseIdx i).map f = (l.map f).eraseIdx i
  | [], _ => by simp
  | x :: l, 0 => by simp
  | x :: l, i + 1 => by simp [list_map_eraseIdx f l i]
theorem modify_set {α : Type} (f : α → α) (l : List α) (k : Nat) (h : k < l.length) : l.modify k f = l.set k (f l[k]) := by
  apply List.ext_getElem?
  intro m
  rw [List.getElem?_modify, List.getElem?_set]
  by_cases hm : k = m
  · subst hm; simp [h]
  · simp [hm]
theorem map_get {M : List Ml} {i : Nat} {l : Lt} (h : (M.map (·.1))[i]? = some l) : ∃ x, M[i]? = some x ∧ x.1 = l := by
  rw [List.getElem?_map] at h
  cases hx : M[i]? with
  | none => rw [hx] at h; cases h
  | some x => rw [hx] at h; exact ⟨x, rfl, by simpa using h⟩

theorem new_R (w : World) : Calls Try.prog 6 #[] w fun e w' => e = .returned (.pointer (some ⟨w.heap.size, 0, none⟩)) ∧ BagR w' w.heap.size [] [w.heap.size] ∧ Below w.heap.size w w' :=
  (new_any w).mono fun e w' ⟨he, hw⟩ => ⟨he, by rw [hw]; exact new_bag w, by rw [hw]; exact (Below.refl _ _).alloc (Nat.le_refl _) _⟩

/-- behind a call: the bag L in the blocks F', of the old ones or new; only the old ones have changed -/
def BagTo (w : World) (pb : Nat) (F : List Nat) (L : List Lt) (w' : World) : Prop := ∃ F', BagR w' pb L F' ∧ (∀ k ∈ F', k ∈ F ∨ w.heap.size ≤ k) ∧ Chg F w w'
theorem BagTo.of_below {w w' : World} {pb : Nat} {F : List Nat} {L : List Lt} (h : BagR w pb L F) (hb : Below w.heap.size w w') : BagTo w pb F L w' :=
  ⟨F, h.chg (Chg.of_below (F := []) hb) (by simp), fun k hk => .inl hk, Chg.of_below hb⟩

theorem put_R (pb : Nat) (t8 : Int) (bs : List UInt8) (a : Option Addr) (n c : Nat) (w : World) (L : List Lt) (F : List Nat) (hn : n = bs.length)
    (h : Sl w 1 a n c (u8s bs)) (hl : n ≤ 140737488355328) (hb : BagR w pb L F) (hm : L.length ≤ 1000000) :
    Calls Try.prog 8 #[.pointer (some ⟨pb, 0, none⟩), .agg #[.int .u8 t8, .slice a n c]] w fun e w' => e = .returned (.tuple #[]) ∧ BagTo w pb F (L ++ [⟨t8, bs, false⟩]) w' := by
  obtain ⟨M, sa, sc, h1, rfl, rfl⟩ := hb
  subst hn
  refine (put_any pb ⟨t8, bs, false⟩ a c w M sa sc h hl rfl h1 (by simpa using hm)).mono ?_
  rintro e w' ⟨rfl, M', sa', sc', g1, g2, g3, g4⟩
  exact ⟨rfl, _, ⟨M', sa', sc', g1, g2.symm, rfl⟩, g3, g4⟩

theorem put_nil (l : Value) (x y : Value) (w : World) (h : l = .agg #[x, y]) : Calls Try.prog 8 #[.pointer none, .agg #[x, y]] w fun e w' => e = .returned (.tuple #[]) ∧ Below w.heap.size w w' := by
  go_enter Try.func8, Try.ntmps8
  go_wp2_with fail
  go_end0
  exact ⟨rfl, (Below.refl _ _).alloc (Nat.le_refl _) _⟩

theorem len_R (pb : Nat) (w : World) (L : List Lt) (F : List Nat) (hb : BagR w pb L F) :
    Calls Try.prog 12 #[.pointer (some ⟨pb, 0, none⟩)] w fun e w' => e = .returned (.int .i64 L.length) ∧ w = w' := by
  obtain ⟨M, sa, sc, h1, rfl, rfl⟩ := hb
  refine (len_any pb M.length sc sa w (by rw [cells_at h1.blk]; rfl)).mono ?_
  rintro e w' ⟨rfl, rfl⟩
  exact ⟨by simp, rfl⟩

theorem double_R (pb i : Nat) (w : World) (L : List Lt) (F : List Nat) (l : Lt) (hb : BagR w pb L F) (hi : L[i]? = some l) (hm : L.length ≤ 1000000) (hl : l.b.length ≤ 140737488355328) :
    Calls Try.prog 11 #[.pointer (some ⟨pb, 0, none⟩), .int .i64 i] w fun e w' => e = .returned (.bool true) ∧ BagTo w pb F (L ++ [l]) w' := by
  obtain ⟨M, sa, sc, h1, rfl, rfl⟩ := hb
  obtain ⟨x, hx, rfl⟩ := map_get hi
  obtain ⟨g, rfl⟩ := h1.some (by rcases Nat.lt_or_ge 0 M.length with h | h; exact h; simp at h; subst h; simp at hx)
  refine (double_in pb g sc i M x w h1 hx (by simpa using hm) hl).mono ?_
  rintro e w' ⟨rfl, M', sa', sc', g1, g2, g3, g4⟩
  exact ⟨rfl, _, ⟨M', sa', sc', g1, g2.symm, rfl⟩, g3, g4⟩
theorem double_R_no (pb : Nat) (i : Int) (w : World) (L : List Lt) (F : List Nat) (hb : BagR w pb L F) (h1 : -9223372036854775808 ≤ i) (h2 : i ≤ 9223372036854775807) (hi : i < 0 ∨ (L.length : Int) ≤ i) :
    Calls Try.prog 11 #[.pointer (some ⟨pb, 0, none⟩), .int .i64 i] w fun e w' => e = .returned (.bool false) ∧ BagTo w pb F L w' := by
  have hb' := hb
  obtain ⟨M, sa, sc, g1, rfl, rfl⟩ := hb
  refine (double_out pb M.length sc sa i w (by rw [cells_at g1.blk]; rfl) h1 h2 (by simpa using hi)).mono ?_
  rintro e w' ⟨rfl, hbel⟩
  exact ⟨rfl, BagTo.of_below hb' hbel⟩

/-- what Take gives -/
def TakeTo (w : World) (pb i : Nat) (F : List Nat) (L : List Lt) (l : Lt) (e : Ending) (w' : World) : Prop :=
  ∃ a c F', e = .returned (.tuple #[.agg #[.int .u8 l.t, .slice a l.b.length c], .bool true]) ∧ BagR w' pb (L.eraseIdx i) F' ∧ (∀ k ∈ F', k ∈ F) ∧ (∀ k ∈ ob a, k ∈ F ∧ k ∉ F') ∧ w'.ownsRow 0 5 1 (.slice a l.b.length c) l.b.length (u8s l.b) ∧ Chg F w w'
theorem take_R (pb i : Nat) (w : World) (L : List Lt) (F : List Nat) (l : Lt) (hb : BagR w pb L F) (hi : L[i]? = some l) (hm : L.length ≤ 1000000) :
    Calls Try.prog 13 #[.pointer (some ⟨pb, 0, none⟩), .int .i64 i] w (TakeTo w pb i F L l) := by
  obtain ⟨M, sa, sc, h1, rfl, rfl⟩ := hb
  obtain ⟨x, hx, rfl⟩ := map_get hi
  obtain ⟨g, rfl⟩ := h1.some (by rcases Nat.lt_or_ge 0 M.length with h | h; exact h; simp at h; subst h; simp at hx)
  have hil : i < M.length := by
    rcases Nat.lt_or_ge i M.length with h | h
    · exact h
    · rw [List.getElem?_eq_none h] at hx; cases hx
  refine (take_in pb g sc i M x w h1 hx (by simpa using hm)).mono ?_
  rintro e w' ⟨rfl, g1, g2⟩
  have hnd := h1.nodup
  simp only [foot, List.nodup_cons, List.nodup_append, List.mem_append, List.mem_flatMap, not_or] at hnd
  obtain ⟨⟨hn1, hn2⟩, hn3, hn4, hn5⟩ := hnd
  have hxM := List.mem_of_getElem? hx
  refine ⟨x.2.1, x.2.2, _, rfl, ⟨_, _, _, g1, (list_map_eraseIdx _ M i).symm, rfl⟩, ?_, ?_, ?_, g2.mono ?_⟩
  · intro k hk
    simp only [foot, List.mem_cons, List.mem_append, List.mem_flatMap] at hk ⊢
    rcases hk with rfl | hk | ⟨y, hy, hk⟩
    · exact .inl rfl
    · exact .inr (.inl hk)
    · exact .inr (.inr ⟨y, List.mem_of_mem_eraseIdx hy, hk⟩)
  · intro k hk
    refine ⟨by simp only [foot, List.mem_cons, List.mem_append, List.mem_flatMap]; exact .inr (.inr ⟨x, hxM, hk⟩), fun hf => ?_⟩
    simp only [foot, List.mem_cons, List.mem_append, List.mem_flatMap] at hf
    rcases hf with rfl | hf | ⟨y, hy, hf⟩
    · exact hn2 ⟨x, hxM, hk⟩
    · exact hn5 k hf k ⟨x, hxM, hk⟩ rfl
    · obtain ⟨j, hj⟩ := List.getElem?_of_mem hy
      rw [List.getElem?_eraseIdx] at hj
      split at hj
      · rename_i hji; exact flat_apart (fun x : Ml => ob x.2.1) M i j x y hn4 hx hj (by omega) k hk hf
      · rename_i hji; exact flat_apart (fun x : Ml => ob x.2.1) M i (j + 1) x y hn4 hx hj (by omega) k hk hf
  · refine owns_chg (h1.bytes x hxM) g2 fun k hk hf => ?_
    simp at hf
    rcases hf with rfl | rfl
    · exact hn2 ⟨x, hxM, hk⟩
    · exact hn5 k (by simp [ob]) k ⟨x, hxM, hk⟩ rfl
  · intro z hz _
    simp at hz
    rcases hz with rfl | rfl <;> simp [foot, ob]
theorem take_R_no (pb : Nat) (i : Int) (w : World) (L : List Lt) (F : List Nat) (hb : BagR w pb L F) (h1 : -9223372036854775808 ≤ i) (h2 : i ≤ 9223372036854775807) (hi : i < 0 ∨ (L.length : Int) ≤ i) :
    Calls Try.prog 13 #[.pointer (some ⟨pb, 0, none⟩), .int .i64 i] w fun e w' => e = .returned (.tuple #[.agg #[.int .u8 0, .slice none 0 0], .bool false]) ∧ BagTo w pb F L w' ∧ Below w.heap.size w w' := by
  have hb' := hb
  obtain ⟨M, sa, sc, g1, rfl, rfl⟩ := hb
  refine (take_out pb M.length sc sa i w (by rw [cells_at g1.blk]; rfl) h1 h2 (by simpa using hi)).mono ?_
  rintro e w' ⟨rfl, hbel⟩
  exact ⟨rfl, BagTo.of_below hb' hbel, hbel⟩

/-- Change, as a function of the letters -/
def mayChange (L : List Lt) (i at_ : Int) (y : UInt8) : Bool :=
  0 ≤ i && i < L.length && y != 0 && !((L[i.toNat]?.map (·.ch)).getD true) && 0 ≤ at_ && at_ < ((L[i.toNat]?.map (·.b.length)).getD 0)
def doChange (L : List Lt) (i at_ : Int) (y : UInt8) : List Lt :=
  L.modify i.toNat fun l => ⟨l.t, l.b.modify at_.toNat (· ^^^ y), true⟩
theorem change_R (pb : Nat) (i at_ : Int) (y : UInt8) (w : World) (L : List Lt) (F : List Nat) (hb : BagR w pb L F) (h1 : -9223372036854775808 ≤ i) (h2 : i ≤ 9223372036854775807) (hm : L.length ≤ 1000000) (hl : ∀ l ∈ L, l.b.length ≤ 140737488355328) :
    Calls Try.prog 9 #[.pointer (some ⟨pb, 0, none⟩), .int .i64 i, .int .i64 at_, .int .u8 (y.toNat : Int)] w fun e w' => e = .returned (.bool (mayChange L i at_ y)) ∧ BagTo w pb F (if mayChange L i at_ y then doChange L i at_ y else L) w' := by
  have hb' := hb
  obtain ⟨M, sa, sc, g1, rfl, rfl⟩ := hb
  by_cases hin : 0 ≤ i ∧ i < M.length
  · obtain ⟨j, rfl⟩ : ∃ j : Nat, i = j := ⟨i.toNat, by omega⟩
    have hj : j < M.length := by omega
    obtain ⟨x, hx⟩ : ∃ x, M[j]? = some x := ⟨M[j], by simp [hj]⟩
    obtain ⟨g, rfl⟩ := g1.some (by omega)
    have hlx := hl x.1 (List.mem_map.2 ⟨x, List.mem_of_getElem? hx, rfl⟩)
    refine (change_in pb g sc j at_ y M x w g1 hx (by simpa using hm) hlx).mono ?_
    rintro e w' (⟨hno, rfl, hbel⟩ | ⟨k, rfl, hy, hch, hk, rfl, hB, hC⟩)
    · have : mayChange (M.map (·.1)) j at_ y = false := by
        simp only [mayChange, Int.toNat_natCast, List.getElem?_map, hx, Option.map_some, Option.getD_some]
        rcases hno with h | h | h | h
        · simp [h]
        · simp [h]
        · simp; omega
        · simp; omega
      rw [this]
      exact ⟨rfl, BagTo.of_below hb' hbel⟩
    · have : mayChange (M.map (·.1)) j k y = true := by
        simp only [mayChange, Int.toNat_natCast, List.getElem?_map, hx, Option.map_some, Option.getD_some]
        simp [hy, hch, hj, hk]
      rw [this]
      refine ⟨rfl, _, ⟨_, _, _, hB, ?_, rfl⟩, ?_, hC⟩
      · simp only [if_true, doChange, Int.toNat_natCast]
        rw [List.map_set]
        apply List.ext_getElem?
        intro m
        rw [List.getElem?_modify, List.getElem?_set]
        by_cases hjm : j = m
        · subst hjm
          have e : x.1.b.modify k (fun b => b ^^^ y) = x.1.b.set k (x.1.b[k] ^^^ y) := modify_set _ _ _ hk
          have hxj : M[j] = x := by simpa [hj] using hx
          simp [hj]
          rw [hxj]
          exact ⟨rfl, e⟩
        · simp [hjm]
      · intro b hb
        left
        have hs : ∀ z ∈ M.set j (⟨x.1.t, x.1.b.set k (x.1.b[k] ^^^ y), true⟩, x.2), ∃ z' ∈ M, z'.2 = z.2 := by
          intro z hz
          rcases List.mem_or_eq_of_mem_set hz with h | rfl
          · exact ⟨z, h, rfl⟩
          · exact ⟨x, List.mem_of_getElem? hx, rfl⟩
        simp only [foot, List.mem_cons, List.mem_append, List.mem_flatMap] at hb ⊢
        rcases hb with rfl | hb | ⟨z, hz, hb⟩
        · exact .inl rfl
        · exact .inr (.inl hb)
        · obtain ⟨z', hz', e⟩ := hs z hz
          exact .inr (.inr ⟨z', hz', by rw [e]; exact hb⟩)
  · have : mayChange (M.map (·.1)) i at_ y = false := by
      simp only [mayChange, List.length_map]
      by_cases h0 : 0 ≤ i
      · have : ¬ i < M.length := fun h => hin ⟨h0, h⟩
        simp [this]
      · simp [h0]
    rw [this]
    refine (change_out pb M.length sc sa i at_ y w (by rw [cells_at g1.blk]; rfl) h1 h2 (by omega)).mono ?_
    rintro e w' ⟨rfl, hbel⟩
    exact ⟨rfl, BagTo.of_below hb' hbel⟩

/-- what All gives -/
def AllTo (w : World) (L : List Lt) (e : Ending) (w' : World) : Prop := ∃ N oa oc, e = .returned (.slice oa L.length oc) ∧ N.map (·.1) = L ∧ AllAt w' w.heap.size N oa oc ∧ Below w.heap.size w w'
theorem all_R (pb : Nat) (w : World) (L : List Lt) (F : List Nat) (hb : BagR w pb L F) (hm : L.length ≤ 1000000) (hl : ∀ l ∈ L, l.b.length ≤ 140737488355328) :
    Calls Try.prog 10 #[.pointer (some ⟨pb, 0, none⟩)] w (AllTo w L) := by
  obtain ⟨M, sa, sc, g1, rfl, rfl⟩ := hb
  refine (all_any pb sc sa M w g1 (by simpa using hm) (fun x hx => hl x.1 (List.mem_map.2 ⟨x, hx, rfl⟩))).mono ?_
  rintro e w' ⟨v, rfl, N, oa, oc, rfl, h1, h2, h3, h4⟩
  exact ⟨N, oa, oc, by simp, by simpa using h2, h3, h4⟩
theorem copy_R (pb : Nat) (w : World) (L : List Lt) (F : List Nat) (hb : BagR w pb L F) (hm : L.length ≤ 1000000) (hl : ∀ l ∈ L, l.b.length ≤ 140737488355328) :
    Calls Try.prog 19 #[.pointer (some ⟨pb, 0, none⟩)] w fun e w' => e = .returned (.pointer (some ⟨w.heap.size, 0, none⟩)) ∧ ∃ F', BagR w' w.heap.size L F' ∧ (∀ k ∈ F', w.heap.size ≤ k) ∧ Below w.heap.size w w' := by
  obtain ⟨M, sa, sc, g1, rfl, rfl⟩ := hb
  refine (copy_any pb sc sa M w g1 (by simpa using hm) (fun x hx => hl x.1 (List.mem_map.2 ⟨x, hx, rfl⟩))).mono ?_
  rintro e w' ⟨rfl, M', sa', sc', h1, h2, h3, h4, h5⟩
  exact ⟨rfl, _, ⟨M', sa', sc', h1, by simpa using h3.symm, rfl⟩, h4, h5⟩
end Go.Proofs.Ytkgbdgnfidpelaa
