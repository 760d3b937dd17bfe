/- Plain words on acknowledgements and matrices: no program in sight. | Contracts: incarnations (slices of uint32). | Contracts: slices.Clone, own, May. -/
import Derived.Test.YtaandcblndldmaaGreatDotP
import Derived.Test.YtaandcblndldmaaGreatVec3
import Derived.Lib.SliceRun
/- MatP -/
namespace Go.Proofs.YtaandcblndldmaaGreat
set_option linter.unusedVariables false
set_option linter.unusedSimpArgs false

/-- an acknowledgement -/
structure Ak where
  r : Int
  i : Int
  incs : List Int
  vv : List Dt
def incOk (x : Int) : Bool := decide (1 ≤ x) && decide (x ≤ 4)
def mayIncs (l : List Int) (n : Int) : Bool := decide (1 ≤ n) && decide (n ≤ 16) && decide ((l.length : Int) = n) && l.all incOk
/-- within, place by place, and as many -/
def withinI (a b : List Int) : Bool := decide (a.length = b.length) && (a.zip b).all fun x => decide (x.1 ≤ x.2)
theorem zip_at {a b : List Int} {k : Nat} {x y : Int} (hx : a[k]? = some x) (hy : b[k]? = some y) : (x, y) ∈ a.zip b := by
  refine List.mem_of_getElem? (i := k) ?_
  rw [List.getElem?_zip_eq_some]; exact ⟨hx, hy⟩
theorem withinI_iff (a b : List Int) : withinI a b = true ↔ a.length = b.length ∧ ∀ (k : Nat) (x y : Int), a[k]? = some x → b[k]? = some y → x ≤ y := by
  simp only [withinI, Bool.and_eq_true, decide_eq_true_eq, List.all_eq_true]
  refine and_congr_right fun hl => ⟨fun h k x y hx hy => h _ (zip_at hx hy), fun h p hp => ?_⟩
  obtain ⟨k, hk⟩ := List.mem_iff_getElem?.1 hp
  obtain ⟨h1, h2⟩ := List.getElem?_zip_eq_some.1 hk
  exact h k _ _ h1 h2
theorem withinI_refl (a : List Int) : withinI a a = true := (withinI_iff a a).2 ⟨rfl, fun k x y h1 h2 => by rw [h1] at h2; cases h2; exact Int.le_refl _⟩
theorem withinI_anti {a b : List Int} (h : withinI a b = true) (g : withinI b a = true) : a = b := by
  rw [withinI_iff] at *
  refine List.ext_getElem? fun k => ?_
  by_cases hk : k < a.length
  · have hkb : k < b.length := by omega
    have h1 : a[k]? = some a[k] := by simp [hk]
    have h2 : b[k]? = some b[k] := by simp [hkb]
    have := h.2 k _ _ h1 h2
    have := g.2 k _ _ h2 h1
    rw [h1, h2]; congr 1; omega
  · rw [List.getElem?_eq_none (by omega), List.getElem?_eq_none (by omega)]
/-- whether it may be among n -/
def mayK (a : Ak) (n : Int) : Bool := mayA (a.r, a.i) && decide (a.r < n) && mayIncs a.incs n && (a.incs.getD a.r.toNat 0 == a.i)
end Go.Proofs.YtaandcblndldmaaGreat

/- MatA -/
namespace Go.Proofs.YtaandcblndldmaaGreat
open Go.RowKit
set_option linter.unusedVariables false
set_option linter.unusedSimpArgs false

def ucells (l : List Int) : List Value := l.map (.int .u32 ·)
theorem ucells_one (l : List Int) : ∀ u ∈ ucells l, u.oneCell' = true := by
  intro u hu; obtain ⟨b, _, rfl⟩ := List.mem_map.1 hu; rfl
/-- a slice of uint32 that reads as l -/
def U32 (w : World) (a : Option Addr) (c : Nat) (l : List Int) : Prop := Sl w 1 a l.length c (ucells l)
theorem U32.below {w w' : World} {a : Option Addr} {c : Nat} {l : List Int} (h : U32 w a c l) (hb : Below w.heap.size w w') : U32 w' a c l := Sl.below h hb
theorem U32.at {w : World} {a : Option Addr} {c : Nat} {l : List Int} (h : U32 w a c l) {k : Nat} {x : Int} (hx : l[k]? = some x) : ∃ ad, a = some ad ∧ w.cell? (ad.add k) = some (.int .u32 x) ∧ ad.block < w.heap.size := by
  have hk : k < l.length := (List.getElem?_eq_some_iff.1 hx).1
  obtain ⟨_, _, _, ⟨_, h0, _⟩ | ⟨ad, rfl, hc⟩⟩ := h
  · omega
  · have h0 := hc k (.int .u32 x) (by simp [ucells, hx])
    refine ⟨ad, rfl, h0, ?_⟩
    have := World.block_lt_of_cell? w _ h0
    have hb : (ad.add k).block = ad.block := by unfold Addr.add; split <;> rfl
    rwa [hb] at this

theorem wrong_any (x : Int) (w : World) : Calls Tryz.prog 139 #[.int .u32 x] w fun e w' => e = .returned (.bool (!incOk x)) ∧ w = w' := by
  by_cases h1 : x < 1
  · have He := Lib.hid (show (!incOk x) = true by simp [incOk]; omega)
    go_enter Tryz.func139, Tryz.ntmps139
    go_wp2_with fail
    go_ret
    exact ⟨by rw [He.out]; rfl, rfl⟩
  · have h1' : decide (x < 1) = false := by simpa using h1
    have He := Lib.hid (show (!incOk x) = decide (4 < x) by by_cases h : x ≤ 4 <;> simp [incOk, h, show (1 : Int) ≤ x by omega] <;> omega)
    go_enter Tryz.func139, Tryz.ntmps139
    go_wp2_with fail
    go_ret
    exact ⟨by rw [He.out]; rfl, rfl⟩

theorem all_snoc {α : Type} {p : α → Prop} {l : List α} {k : Nat} {x : α} (hx : l[k]? = some x) (h : ∀ y ∈ l.take k, p y) (hp : p x) : ∀ y ∈ l.take (k + 1), p y := by
  intro y hy
  rw [take_snoc' hx, List.mem_append, List.mem_singleton] at hy
  rcases hy with hy | rfl
  · exact h y hy
  · exact hp
set_option maxHeartbeats 1000000 in
theorem index_any (a : Option Addr) (c : Nat) (l : List Int) (w : World) (hv : U32 w a c l) (hn : l.length ≤ 1100000) :
    Calls Tryz.prog 188 #[.slice a l.length c, .func (.func 139) #[] #[]] w fun e w' => ∃ k : Int, e = .returned (.int .i64 k) ∧ decide (0 ≤ k) = !l.all incOk ∧ Below w.heap.size w w' := by
  have Hv := Lib.hid hv
  clear hv
  have he := enters_of Tryz.func139 (by kernel_rfl) rfl
  go_enter Tryz.func188, Tryz.ntmps188
  go_wp2_with fail
  go_loopw [8] (fun j wr => ∃ k : Nat, k ≤ l.length ∧ j = .int .i64 k ∧ Hid (∀ x ∈ l.take k, incOk x = true) ∧ Below w.heap.size w wr) (fun j _ => l.length - (intOf j).toNat)
  case atStart => exact ⟨0, Nat.zero_le _, rfl, Lib.hid (by simp), Below.refl _ _⟩
  case round =>
    obtain ⟨k, hk, rfl, hle, hb⟩ := hrel
    have Hb := Lib.hid hb
    clear hb
    by_cases hlt : k < l.length
    · obtain ⟨x, hx⟩ : ∃ x, l[k]? = some x := ⟨l[k], by simp [hlt]⟩
      obtain ⟨ad, had, c0, hl0⟩ := (Hv.out.below Hb.out).at hx
      subst had
      have Hx := Lib.hid hx
      clear hx
      go_wp2_with fail
      refine (wrong_any x _).mono ?_
      rintro e w1 ⟨rfl, rfl⟩
      cases hi : incOk x with
      | false =>
        have He := Lib.hid (show (!l.all incOk) = true by simp; exact ⟨x, List.mem_of_getElem? Hx.out, hi⟩)
        clear hi
        go_wp2_with fail
        go_ret
        exact ⟨k, rfl, by rw [He.out]; simp, Hb.out⟩
      | true =>
        have Hi := Lib.hid hi
        clear hi
        go_wp2_with fail
        go_roundw
        case rel => exact ⟨k + 1, by omega, by go_num, Lib.hid (all_snoc Hx.out hle.out Hi.out), Hb.out⟩
        case measure => simp [intOf]; omega
    · have He := Lib.hid (show (!l.all incOk) = false by simp; intro x hx; exact hle.out x (by rwa [List.take_of_length_le (by omega)]))
      go_wp2_with fail
      go_ret
      exact ⟨-1, rfl, by rw [He.out]; rfl, Hb.out⟩

theorem contains_any (a : Option Addr) (c : Nat) (l : List Int) (w : World) (hv : U32 w a c l) (hn : l.length ≤ 1100000) :
    Calls Tryz.prog 140 #[.slice a l.length c, .func (.func 139) #[] #[]] w fun e w' => e = .returned (.bool (!l.all incOk)) ∧ Below w.heap.size w w' := by
  go_enter Tryz.func140, Tryz.ntmps140
  go_wp2_with fail
  refine (index_any a c l _ hv hn).mono ?_
  rintro e w1 ⟨k, rfl, hk, hb⟩
  have Hb := Lib.hid hb
  have Hk := Lib.hid hk
  clear hb hk
  go_wp2_with fail
  go_ret
  exact ⟨by rw [← Hk.out]; rfl, Hb.out⟩

set_option maxHeartbeats 1000000 in
theorem mayIncs_any (a : Option Addr) (c : Nat) (l : List Int) (n : Int) (w : World) (hv : U32 w a c l) (hn : l.length ≤ 1100000) :
    Calls Tryz.prog 92 #[.slice a l.length c, .int .i64 n] w fun e w' => e = .returned (.bool (mayIncs l n)) ∧ Below w.heap.size w w' := by
  have Hv := Lib.hid hv
  clear hv
  by_cases h1 : 1 ≤ n
  · by_cases h2 : n ≤ 16
    · by_cases h3 : (l.length : Int) = n
      · subst h3
        have He := Lib.hid (show mayIncs l l.length = l.all incOk by simp [mayIncs, h1, h2])
        go_enter Tryz.func92, Tryz.ntmps92
        go_wp2_with fail
        refine (contains_any a c l _ Hv.out hn).mono ?_
        rintro e w1 ⟨rfl, hb⟩
        have Hb := Lib.hid hb
        clear hb
        go_wp2_with fail
        go_ret
        exact ⟨by rw [He.out]; simp, Hb.out⟩
      · have h3' : ((l.length : Int) == n) = false := by simpa using h3
        have He := Lib.hid (show mayIncs l n = false by simp [mayIncs, h3])
        go_enter Tryz.func92, Tryz.ntmps92
        go_wp2_with fail
        go_ret
        exact ⟨by rw [He.out]; rfl, Below.refl _ _⟩
    · have h2' : decide (n ≤ 16) = false := by simpa using h2
      have He := Lib.hid (show mayIncs l n = false by simp [mayIncs, h2])
      go_enter Tryz.func92, Tryz.ntmps92
      go_wp2_with fail
      go_ret
      exact ⟨by rw [He.out]; rfl, Below.refl _ _⟩
  · have h1' : decide (1 ≤ n) = false := by simpa using h1
    have He := Lib.hid (show mayIncs l n = false by simp [mayIncs, h1])
    go_enter Tryz.func92, Tryz.ntmps92
    go_wp2_with fail
    go_ret
    exact ⟨by rw [He.out]; rfl, Below.refl _ _⟩

theorem withinI_false {a b : List Int} {k : Nat} {x y : Int} (hx : a[k]? = some x) (hy : b[k]? = some y) (h : ¬ x ≤ y) : withinI a b = false := by
  cases e : withinI a b with
  | false => rfl
  | true => exact absurd (((withinI_iff a b).1 e).2 k x y hx hy) h
theorem withinI_short {a b : List Int} (h : a.length ≠ b.length) : withinI a b = false := by simp [withinI, h]
def upToI (a b : List Int) (k : Nat) : Prop := ∀ j x y, j < k → a[j]? = some x → b[j]? = some y → x ≤ y
theorem upToI.snoc {a b : List Int} {k : Nat} (h : upToI a b k) {x y : Int} (hx : a[k]? = some x) (hy : b[k]? = some y) (hl : x ≤ y) : upToI a b (k + 1) := by
  intro j x' y' hj h1 h2
  rcases Nat.lt_succ_iff_lt_or_eq.1 hj with h3 | rfl
  · exact h j x' y' h3 h1 h2
  · rw [hx] at h1; rw [hy] at h2; cases h1; cases h2; exact hl
theorem upToI.all {a b : List Int} {k : Nat} (h : upToI a b k) (hk : a.length ≤ k) : withinI a b = decide (a.length = b.length) := by
  by_cases e : a.length = b.length
  · rw [decide_eq_true e]; exact (withinI_iff a b).2 ⟨e, fun j x y hx hy => h j x y (by have := (List.getElem?_eq_some_iff.1 hx).1; omega) hx hy⟩
  · rw [withinI_short e, decide_eq_false e]
end Go.Proofs.YtaandcblndldmaaGreat

/- MatB -/
namespace Go.Proofs.YtaandcblndldmaaGreat
open Go.RowKit
set_option linter.unusedVariables false
set_option linter.unusedSimpArgs false

theorem Tryz.info_u32 : (Tryz.prog.info? 22).map (fun i => (i.zero, i.size, i.bytes)) = some (some (.int .u32 0), 1, 4) := by kernel_rfl
/-- a call returns the numbers l in memory of its own -/
def IncTo (w : World) (l : List Int) (e : Ending) (w' : World) : Prop :=
  ∃ a c, e = .returned (.slice a l.length c) ∧ w'.ownsRow w.heap.size 22 1 (.slice a l.length c) l.length (ucells l) ∧ Below w.heap.size w w'
set_option maxRecDepth 100000 in
set_option maxHeartbeats 1000000 in
theorem clone_any (a : Option Addr) (c : Nat) (l : List Int) (w : World) (hv : U32 w a c l) (hn : l.length ≤ 1100000) :
    Calls Tryz.prog 34 #[.slice a l.length c] w (IncTo w l) := by
  obtain ⟨i0, hi0, hz0, hz1, hz2⟩ := info_parts Tryz.info_u32
  have Hv := Lib.hid hv
  have heq := fun (w : World) (a : Option Addr) (n c : Nat) => Lib.run_eql_slice_nil (P := Tryz.prog) w 25 22 a n c 0 0 Tryz.underlying25
  cases a with
  | none =>
    obtain ⟨h1, h2, h3, ⟨_, h4, h5⟩ | ⟨b, hb, _⟩⟩ := hv
    · subst h5
      obtain rfl : l = [] := List.eq_nil_of_length_eq_zero h4
      clear h1 h2 h3 h4 Hv
      go_enter Tryz.func34, Tryz.ntmps34
      go_wp2_with fail
      go_ret
      exact ⟨none, 0, rfl, ⟨rfl, .inl ⟨rfl, rfl⟩⟩, Below.refl _ _⟩
    · cases hb
  | some ad =>
    clear hv
    go_enter Tryz.func34, Tryz.ntmps34
    go_wp2_with (at_builtin; go_must (refine wpList_append_sl rfl _ _ 25 rfl w.heap.size 22 i0 (.int .u32 0) 1 4 Tryz.underlying25 hi0 hz0 hz1 hz2 rfl (by decide) (some ⟨w.heap.size, 0, none⟩) 0 0 [] rfl ?o1 (some ad) l.length c (ucells l) rfl ?s1 ?t1 ?c1 ?d1 ?e1 ?_))
    case o1 => exact World.ownsRow_made w #[] 0 (Nat.le_refl _) (by decide) rfl
    case s1 => exact Hv.out.below ((Below.refl _ _).alloc (Nat.le_refl _) _)
    case t1 => exact ucells_one _
    case c1 => unfold maxLen; omega
    case d1 => omega
    case e1 => simp
    intro a1 c1 w1 ho1 hC1 hob1
    try simp only [Nat.zero_add, List.nil_append] at ho1
    have HB1 : Hid (Below w.heap.size w w1) := Lib.hid (((Below.refl _ _).alloc (Nat.le_refl _) _).trans (hC1.below (by simp) (by simp [ob])))
    have Ho1 := Lib.hid ho1
    clear ho1 hC1
    go_wp2_with fail
    go_ret
    exact ⟨a1, c1, by simp, Ho1.out, HB1.out⟩

theorem mayK_of {a : Ak} {n : Int} (h1 : mayA (a.r, a.i) = true) (h2 : a.r < n) (h3 : mayIncs a.incs n = true) {x : Int} (hx : a.incs[a.r.toNat]? = some x) : mayK a n = (x == a.i) := by
  simp [mayK, h1, h2, h3, List.getD, hx]
end Go.Proofs.YtaandcblndldmaaGreat
