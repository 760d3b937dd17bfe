/- at, Take, Double. -/
import Derived.Test.YtkgbdgnfidpelaaBagD
import Derived.Test.YtkgbdgnfidpelaaBagE
namespace Go.Proofs.Ytkgbdgnfidpelaa
open Go.RowKit
set_option linter.unusedVariables false
set_option linter.unusedSimpArgs false

theorem at_nil (i : Int) (f : Value) (w : World) (h1 : -9223372036854775808 ≤ i) (h2 : i ≤ 9223372036854775807) :
    Calls Try.prog 23 #[.pointer none, .int .i64 i, f] w fun e w' => e = .returned (.bool false) ∧ w = w' := by
  by_cases h : 0 ≤ i
  · go_enter Try.func23, Try.ntmps23
    go_wp2_with (go_at_call 12; refine (len_nil _).mono ?_; rintro e w' ⟨rfl, rfl⟩)
    go_ret
    exact ⟨rfl, rfl⟩
  · go_enter Try.func23, Try.ntmps23
    go_wp2_with (go_at_call 12; refine (len_nil _).mono ?_; rintro e w' ⟨rfl, rfl⟩)
    go_ret
    exact ⟨rfl, rfl⟩

theorem at_out (pb n c : Nat) (sa : Option Addr) (i : Int) (f : Value) (w : World) (hp : w.cell? ⟨pb, 0, none⟩ = some (.slice sa n c)) (h1 : -9223372036854775808 ≤ i) (h2 : i ≤ 9223372036854775807) (h : i < 0 ∨ (n : Int) ≤ i) :
    Calls Try.prog 23 #[.pointer (some ⟨pb, 0, none⟩), .int .i64 i, f] w fun e w' => e = .returned (.bool false) ∧ w = w' := by
  by_cases h0 : 0 ≤ i
  · have h3 : (n : Int) ≤ i := by omega
    clear h
    go_enter Try.func23, Try.ntmps23
    go_wp2_with (go_at_call 12; refine (len_any _ n c sa _ hp).mono ?_; rintro e w' ⟨rfl, rfl⟩)
    go_ret
    exact ⟨rfl, rfl⟩
  · clear h
    go_enter Try.func23, Try.ntmps23
    go_wp2_with (go_at_call 12; refine (len_any _ n c sa _ hp).mono ?_; rintro e w' ⟨rfl, rfl⟩)
    go_ret
    exact ⟨rfl, rfl⟩

theorem at_in1 (pb n c g i : Nat) (f : FuncId) (x : Value) (w : World) (S : Bool → World → Prop) (hp : w.cell? ⟨pb, 0, none⟩ = some (.slice (some ⟨g, 0, none⟩) n c)) (h : i < n) (hn : n ≤ 1000000)
    (hcf : ∀ args w, (callFunc f args).run Try.prog w = .ok (.enter f args) w)
    (hf : Calls Try.prog f #[.pointer (some ⟨g, i * 3, none⟩), x] w fun e w' => ∃ b, e = .returned (.bool b) ∧ S b w') :
    Calls Try.prog 23 #[.pointer (some ⟨pb, 0, none⟩), .int .i64 i, .func (.func f) #[] #[x]] w fun e w' => ∃ b, e = .returned (.bool b) ∧ S b w' := by
  have Hf := Lib.hid hf
  clear hf
  have h3 : (i : Int) < (n : Int) := by omega
  go_enter Try.func23, Try.ntmps23
  go_wp2_with (go_at_call 12; refine (len_any _ n c _ _ hp).mono ?_; rintro e w' ⟨rfl, rfl⟩)
  refine Hf.out.mono ?_
  rintro e w' ⟨b, rfl, hS⟩
  go_wp2_with fail
  go_ret
  exact ⟨b, rfl, hS⟩

theorem at_in2 (pb n c g i : Nat) (f : FuncId) (x y : Value) (w : World) (S : Bool → World → Prop) (hp : w.cell? ⟨pb, 0, none⟩ = some (.slice (some ⟨g, 0, none⟩) n c)) (h : i < n) (hn : n ≤ 1000000)
    (hcf : ∀ args w, (callFunc f args).run Try.prog w = .ok (.enter f args) w)
    (hf : Calls Try.prog f #[.pointer (some ⟨g, i * 3, none⟩), x, y] w fun e w' => ∃ b, e = .returned (.bool b) ∧ S b w') :
    Calls Try.prog 23 #[.pointer (some ⟨pb, 0, none⟩), .int .i64 i, .func (.func f) #[] #[x, y]] w fun e w' => ∃ b, e = .returned (.bool b) ∧ S b w' := by
  have Hf := Lib.hid hf
  clear hf
  have h3 : (i : Int) < (n : Int) := by omega
  go_enter Try.func23, Try.ntmps23
  go_wp2_with (go_at_call 12; refine (len_any _ n c _ _ hp).mono ?_; rintro e w' ⟨rfl, rfl⟩)
  refine Hf.out.mono ?_
  rintro e w' ⟨b, rfl, hS⟩
  go_wp2_with fail
  go_ret
  exact ⟨b, rfl, hS⟩

/-- Take's function: the letter's first two fields into the result -/
theorem take1 (g o q : Nat) (t8 : Int) (a : Option Addr) (n c : Nat) (ch : Bool) (w : World) (e0 : w.cell? ⟨g, o, none⟩ = some (.int .u8 t8)) (e1 : w.cell? ⟨g, o + 1, none⟩ = some (.slice a n c)) (e2 : w.cell? ⟨g, o + 2, none⟩ = some (.bool ch))
    (hq : w.heap[q]? = some (.cells #[.int .u8 0, .slice none 0 0] 30 (0, 0))) (hqg : q ≠ g) :
    Calls Try.prog 26 #[.pointer (some ⟨g, o, none⟩), .pointer (some ⟨q, 0, none⟩)] w fun e w' => ∃ b, e = .returned (.bool b) ∧ b = true ∧ w' = (w.setCell ⟨q, 0, none⟩ (.int .u8 t8)).setCell ⟨q, 1, none⟩ (.slice a n c) := by
  have cq := cells_at hq
  have fq := free_at hq
  clear hq
  go_enter Try.func26, Try.ntmps26
  go_wp2_with fail
  go_ret
  exact ⟨true, rfl, rfl, rfl⟩

theorem take_nil (i : Int) (w : World) (h1 : -9223372036854775808 ≤ i) (h2 : i ≤ 9223372036854775807) :
    Calls Try.prog 13 #[.pointer none, .int .i64 i] w fun e w' => e = .returned (.tuple #[.agg #[.int .u8 0, .slice none 0 0], .bool false]) ∧ Below w.heap.size w w' := by
  go_enter Try.func13, Try.ntmps13
  go_wp2_with (go_at_call 23; refine (at_nil i _ _ h1 h2).mono ?_; rintro e w' ⟨rfl, rfl⟩)
  exact bodyPost_ret (v := .tuple #[.agg #[.int .u8 0, .slice none 0 0], .bool false]) (by simp [results, Try.results13, go_sem]) rfl ⟨rfl, (Below.refl _ _).alloc (Nat.le_refl _) _⟩
theorem take_out (pb n c : Nat) (sa : Option Addr) (i : Int) (w : World) (hp : w.cell? ⟨pb, 0, none⟩ = some (.slice sa n c)) (h1 : -9223372036854775808 ≤ i) (h2 : i ≤ 9223372036854775807) (h : i < 0 ∨ (n : Int) ≤ i) :
    Calls Try.prog 13 #[.pointer (some ⟨pb, 0, none⟩), .int .i64 i] w fun e w' => e = .returned (.tuple #[.agg #[.int .u8 0, .slice none 0 0], .bool false]) ∧ Below w.heap.size w w' := by
  have hlt := World.block_lt_of_cell? w _ hp
  go_enter Try.func13, Try.ntmps13
  go_wp2_with (go_at_call 23; refine (at_out pb n c sa i _ _ (by rw [World.cell?_alloc_lt _ _ _ hlt]; exact hp) h1 h2 h).mono ?_; rintro e w' ⟨rfl, rfl⟩)
  exact bodyPost_ret (v := .tuple #[.agg #[.int .u8 0, .slice none 0 0], .bool false]) (by simp [results, Try.results13, go_sem]) rfl ⟨rfl, (Below.refl _ _).alloc (Nat.le_refl _) _⟩

theorem cf_take1 (args : Array Value) (w : World) : (callFunc 26 args).run Try.prog w = .ok (.enter 26 args) w := by kernel_rfl
theorem cf_double1 (args : Array Value) (w : World) : (callFunc 25 args).run Try.prog w = .ok (.enter 25 args) w := by kernel_rfl
theorem cf_change1 (args : Array Value) (w : World) : (callFunc 24 args).run Try.prog w = .ok (.enter 24 args) w := by kernel_rfl

/-- a bag that holds something has a row -/
theorem BagAt.some {w : World} {pb : Nat} {M : List Ml} {sa : Option Addr} {sc : Nat} (h : BagAt w pb M sa sc) (hM : 0 < M.length) : ∃ g, sa = some ⟨g, 0, none⟩ := by
  rcases h.row.2 with ⟨h1, h2⟩ | ⟨g, cap, cur, h1, _⟩
  · omega
  · simp at h1; exact ⟨g, h1.1⟩

theorem sublist_flatMap {α β : Type} (f : α → List β) : ∀ {l₁ l₂ : List α}, List.Sublist l₁ l₂ → List.Sublist (l₁.flatMap f) (l₂.flatMap f) := by
  intro l₁ l₂ h
  induction h with
  | slnil => exact List.Sublist.refl _
  | cons a _ ih => rw [List.flatMap_cons]; exact ih.trans (List.sublist_append_right _ _)
  | cons_cons a _ ih => rw [List.flatMap_cons, List.flatMap_cons]; exact (List.Sublist.refl _).append ih
/-- a bag without its i-th letter -/
theorem bag_erase {w w2 w3 : World} {pb g sc i : Nat} {M : List Ml} (hb : BagAt w pb M (some ⟨g, 0, none⟩) sc) (hi : i < M.length) (hc : Chg [g] w w2)
    (ho : w2.ownsRow 0 55 3 (.slice (some ⟨g, 0, none⟩) (M.length - 1) sc) (M.length - 1) (rcells (M.eraseIdx i)))
    (h3 : w3.heap[pb]? = some (.cells #[.slice (some ⟨g, 0, none⟩) (M.length - 1) sc] 53 (0, 0))) (h4 : ∀ k, k < w.heap.size → k ≠ pb → w3.heap[k]? = w2.heap[k]?) :
    BagAt w3 pb (M.eraseIdx i) (some ⟨g, 0, none⟩) sc := by
  have hlen : (M.eraseIdx i).length = M.length - 1 := by rw [List.length_eraseIdx_of_lt hi]
  have hnd := hb.nodup
  simp only [foot, List.nodup_cons, List.nodup_append, List.mem_append, List.mem_flatMap, not_or] at hnd
  obtain ⟨⟨hn1, hn2⟩, hn3, hn4, hn5⟩ := hnd
  have lg : g < w.heap.size := hb.lt g (by simp [foot, ob])
  have hgp : g ≠ pb := fun e => hn1 (by simp [ob, e])
  have keep : ∀ {e : TypeId} {size : Nat} {a : Option Addr} {n c m : Nat} {xs : List Value}, w2.ownsRow 0 e size (.slice a n c) m xs → (∀ k ∈ ob a, k < w.heap.size ∧ k ≠ pb) → w3.ownsRow 0 e size (.slice a n c) m xs := by
    intro e size a n c m xs h hk
    refine ⟨h.1, ?_⟩
    rcases h.2 with h2 | ⟨g', cap, cur, hv, hb', hg', r⟩
    · exact .inl h2
    · refine .inr ⟨g', cap, cur, hv, hb', ?_, r⟩
      simp at hv
      obtain ⟨rfl, _, _⟩ := hv
      have := hk g' (by simp [ob])
      rw [h4 g' this.1 this.2]; exact hg'
  refine ⟨by rw [hlen]; exact h3, by rw [hlen]; exact keep ho (by simp [ob, lg, hgp]), ?_, ?_⟩
  · intro x hx
    have hxM : x ∈ M := List.mem_of_mem_eraseIdx hx
    refine keep (owns_chg (hb.bytes x hxM) hc fun k hk he => ?_) fun k hk => ⟨(owns_lt (hb.bytes x hxM) k hk).2, ?_⟩
    · simp at he; subst he; exact hn5 k (by simp [ob]) k ⟨x, hxM, hk⟩ rfl
    · rintro rfl; exact hn2 ⟨x, hxM, hk⟩
  · refine List.Nodup.sublist ?_ hb.nodup
    simp only [foot]
    exact ((List.Sublist.refl _).append (sublist_flatMap _ (List.eraseIdx_sublist ..))).cons_cons _

theorem take_in (pb g sc i : Nat) (M : List Ml) (x : Ml) (w : World) (hb : BagAt w pb M (some ⟨g, 0, none⟩) sc) (hx : M[i]? = some x) (hm : M.length ≤ 1000000) :
    Calls Try.prog 13 #[.pointer (some ⟨pb, 0, none⟩), .int .i64 i] w fun e w' => e = .returned (.tuple #[.agg #[.int .u8 x.1.t, .slice x.2.1 x.1.b.length x.2.2], .bool true]) ∧
      BagAt w' pb (M.eraseIdx i) (some ⟨g, 0, none⟩) sc ∧ Chg [pb, g] w w' := by
  obtain ⟨⟨t8, bs, ch⟩, xa, xc⟩ := x
  have hi : i < M.length := by
    rcases Nat.lt_or_ge i M.length with h | h
    · exact h
    · rw [List.getElem?_eq_none h] at hx; cases hx
  have Hb := Lib.hid hb
  have hp := cells_at hb.blk
  have lp := heap_lt hb.blk
  have lg : g < w.heap.size := hb.lt g (by simp [foot, ob])
  have hpg : pb ≠ g := by have := hb.nodup; simp [foot, ob] at this; omega
  obtain ⟨e0, e1, e2⟩ := row_at hb.row hx
  have Hx := Lib.hid hx
  clear hb hx
  go_enter Try.func13, Try.ntmps13
  go_wp2_with fail
  refine (at_in1 pb M.length sc g i 26 _ _ _ (by simp [go_sem, hp, lp]) hi hm cf_take1 (take1 g (i * 3) w.heap.size t8 xa bs.length xc ch _ (by simp [go_sem, e0, lg]) (by simp [go_sem, e1, lg]) (by simp [go_sem, e2, lg]) (heap_new _ _) (by omega))).mono ?_
  rintro e w1 ⟨b, rfl, rfl, rfl⟩
  go_wp2_with fail
  refine (delete_any g sc i M _ (Hb.out.row.alloc _) hi hm).mono ?_
  rintro e w2 ⟨rfl, ho2, hc2⟩
  have hb2 : w2.heap[pb]? = _ := heap_chg (heap_chg Hb.out.blk (Chg.alloc [] w _) (by simp)) hc2 (by simpa using hpg)
  have hq2 : w2.heap[w.heap.size]? = _ := heap_chg (heap_new w _) hc2 (by simp; omega)
  have cp2 := cells_at hb2
  have fp2 := free_at hb2
  have cq2 := cells_at hq2
  have fq2 := free_at hq2
  have hne2 : w.heap.size ≠ pb := by omega
  clear hp e0 e1 e2
  have Hb2 := Lib.hid hb2
  clear hb2 hq2
  go_wp2_with fail
  refine bodyPost_ret (v := .tuple #[.agg #[.int .u8 t8, .slice xa bs.length xc], .bool true]) (by simp [results, Try.results13, go_sem, cq2, hne2]) rfl ⟨rfl, ?_, ?_⟩
  · refine bag_erase Hb.out hi ((Chg.alloc [g] w _).trans hc2 (by simp)) ho2 ?_ ?_
    · rw [Below.heap_setCell _ _ _ _ (by simp; omega), Below.heap_setCell _ _ _ _ (by simp; omega)]
      exact heap_setCell1 Hb2.out
    · intro k hk hkp
      rw [Below.heap_setCell _ _ _ _ (by simp; omega), Below.heap_setCell _ _ _ _ (by simp; omega), Below.heap_setCell _ _ _ _ (by simp; omega)]
  · have hA : Chg [pb, g] w w2 := (Chg.alloc [pb, g] w _).trans hc2 (by simp)
    refine ((hA.trans (Chg.setCell w2 ⟨pb, 0, none⟩ _) (by simp)).trans (Chg.setCell _ ⟨w.heap.size, 0, none⟩ _) ?_).trans (Chg.setCell _ ⟨w.heap.size, 1, none⟩ _) ?_
    · intro x hx hl; simp at hx; omega
    · intro x hx hl; simp at hx; omega

theorem double_nil (i : Int) (w : World) (h1 : -9223372036854775808 ≤ i) (h2 : i ≤ 9223372036854775807) :
    Calls Try.prog 11 #[.pointer none, .int .i64 i] w fun e w' => e = .returned (.bool false) ∧ Below w.heap.size w w' := by
  go_enter Try.func11, Try.ntmps11
  go_wp2_with (go_at_call 23; refine (at_nil i _ _ h1 h2).mono ?_; rintro e w' ⟨rfl, rfl⟩)
  go_ret
  exact ⟨rfl, (Below.refl _ _).alloc (Nat.le_refl _) _⟩
theorem double_out (pb n c : Nat) (sa : Option Addr) (i : Int) (w : World) (hp : w.cell? ⟨pb, 0, none⟩ = some (.slice sa n c)) (h1 : -9223372036854775808 ≤ i) (h2 : i ≤ 9223372036854775807) (h : i < 0 ∨ (n : Int) ≤ i) :
    Calls Try.prog 11 #[.pointer (some ⟨pb, 0, none⟩), .int .i64 i] w fun e w' => e = .returned (.bool false) ∧ Below w.heap.size w w' := by
  have hlt := World.block_lt_of_cell? w _ hp
  go_enter Try.func11, Try.ntmps11
  go_wp2_with (go_at_call 23; refine (at_out pb n c sa i _ _ (by rw [World.cell?_alloc_lt _ _ _ hlt]; exact hp) h1 h2 h).mono ?_; rintro e w' ⟨rfl, rfl⟩)
  go_ret
  exact ⟨rfl, (Below.refl _ _).alloc (Nat.le_refl _) _⟩
theorem double_in (pb g sc i : Nat) (M : List Ml) (x : Ml) (w : World) (hb : BagAt w pb M (some ⟨g, 0, none⟩) sc) (hx : M[i]? = some x) (hm : M.length ≤ 1000000) (hn : x.1.b.length ≤ 140737488355328) :
    Calls Try.prog 11 #[.pointer (some ⟨pb, 0, none⟩), .int .i64 i] w fun e w' => e = .returned (.bool true) ∧
      ∃ M' sa' sc', BagAt w' pb M' sa' sc' ∧ M'.map (·.1) = M.map (·.1) ++ [x.1] ∧ (∀ k ∈ foot pb sa' M', k ∈ foot pb (some ⟨g, 0, none⟩) M ∨ w.heap.size ≤ k) ∧ Chg (foot pb (some ⟨g, 0, none⟩) M) w w' := by
  obtain ⟨l, xa, xc⟩ := x
  have hi : i < M.length := by
    rcases Nat.lt_or_ge i M.length with h | h
    · exact h
    · rw [List.getElem?_eq_none h] at hx; cases hx
  have Hb := Lib.hid hb
  have hp := cells_at hb.blk
  have lp := heap_lt hb.blk
  have Hx := Lib.hid hx
  have Hl := hb.lt
  clear hb hx
  go_enter Try.func11, Try.ntmps11
  go_wp2_with fail
  refine (at_in1 pb M.length sc g i 25 _ _ (fun b w' => b = true ∧ ∃ M' sa' sc', BagAt w' pb M' sa' sc' ∧ M'.map (·.1) = M.map (·.1) ++ [l] ∧ (∀ k ∈ foot pb sa' M', k ∈ foot pb (some ⟨g, 0, none⟩) M ∨ w.heap.size + 1 ≤ k) ∧ Chg (foot pb (some ⟨g, 0, none⟩) M) (w.alloc (.cells #[.pointer (some ⟨pb, 0, none⟩)] 25)) w') (by simp [go_sem, hp, lp]) hi hm cf_double1
    ((double1 pb w.heap.size g i l xa xc sc _ M (Hb.out.chg (Chg.alloc [] w _) (by simp)) Hx.out hn hm (heap_new _ _) (fun h => by have := Hl _ h; omega)).mono fun e w' ⟨he, h⟩ => ⟨true, he, rfl, by simpa using h⟩)).mono ?_
  rintro e w1 ⟨b, rfl, rfl, M', sa', sc', h1, h2, h3, h4⟩
  go_wp2_with fail
  go_ret
  exact ⟨rfl, M', sa', sc', h1, h2, fun k hk => (h3 k hk).imp id (by omega), (Chg.alloc _ w _).trans h4 (fun x hx _ => hx)⟩
end Go.Proofs.Ytkgbdgnfidpelaa
