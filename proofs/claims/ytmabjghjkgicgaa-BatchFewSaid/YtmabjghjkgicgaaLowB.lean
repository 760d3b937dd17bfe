/- Which actors and dots may be; which is ahead: contracts of package dot and of cmp. -/
import Derived.Test.YtmabjghjkgicgaaLowA
/- DotA -/
namespace Go.Proofs.Ytmabjghjkgicgaa
open Go.RowKit
set_option linter.unusedVariables false
set_option linter.unusedSimpArgs false

theorem mixed : Try.prog.follows .mixedOrders = true := by kernel_rfl
theorem laidOutP : laidOutB Try.prog = true := by kernel_rfl
def mkA (a : Ac) : Value := .agg #[.int .u8 a.1, .int .u32 a.2]
theorem mkA_inj (a b : Ac) (h : mkA a = mkA b) : a = b := by
  obtain ⟨r, i⟩ := a
  obtain ⟨r', i'⟩ := b
  simp [mkA] at h
  exact Prod.ext h.1 h.2
theorem keyedA : Maps.Keyed Try.prog 28 := Maps.Keyed.of_law (deep_law_gate laidOutP (of_decide_eq_true (by kernel_rfl)) (of_decide_eq_true (by kernel_rfl)) (by kernel_rfl) (by kernel_rfl))
theorem keyA_form (v : Value) (l : Lit) (h : keyOf Try.prog 28 v = some l) : ∃ a, v = mkA a ∧ okA a := by
  obtain ⟨r, i, rfl, h1, h2⟩ := key2_form Try.underlying28 (by decide) (by decide) rfl rfl (by kernel_rfl) (by kernel_rfl) (by kernel_rfl) Try.underlying5 Try.underlying26 (of_decide_eq_true (by kernel_rfl)) v l h
  exact ⟨(r, i), rfl, (wf8 r).1 h1, (wf32 i).1 h2⟩
theorem keyA_ok {a : Ac} (h : okA a) : ∃ l, keyOf Try.prog 28 (mkA a) = some l :=
  key2_ok Try.underlying28 (by decide) (by decide) rfl rfl (by kernel_rfl) (by kernel_rfl) (by kernel_rfl) Try.underlying5 Try.underlying26 (of_decide_eq_true (by kernel_rfl)) (by kernel_rfl) ((wf8 a.1).2 h.1) ((wf32 a.2).2 h.2)
theorem keyA_inv {a : Ac} {l : Lit} (h : keyOf Try.prog 28 (mkA a) = some l) : okA a := by
  obtain ⟨b, hb, hok⟩ := keyA_form _ _ h
  rw [mkA_inj _ _ hb]; exact hok
theorem keysA : KeyAs Try.prog 28 mkA := ⟨keyedA, fun v l h => by obtain ⟨a, ha, _⟩ := keyA_form v l h; exact ⟨a, ha⟩, mkA_inj⟩

/-! which may be -/
theorem mayActor_any (r i : Int) (w : World) : Calls Try.prog 78 #[.agg #[.int .u8 r, .int .u32 i]] w fun e w' => e = .returned (.bool (mayA (r, i))) ∧ Below w.heap.size w w' := by
  have hB : ∀ o, Below w.heap.size w (w.alloc o) := fun o => (Below.refl _ _).alloc (Nat.le_refl _) _
  by_cases h1 : r < 16
  · by_cases h2 : 1 ≤ i
    · by_cases h3 : i ≤ 4
      · have e : mayA (r, i) = true := by simp [mayA, h1, h2, h3]
        rw [e]
        clear e
        go_enter Try.func78, Try.ntmps78
        go_wp2
        go_ret
        exact ⟨rfl, hB _⟩
      · have e : mayA (r, i) = false := by simp [mayA, h1, h2, h3] <;> omega
        rw [e]
        clear e
        go_enter Try.func78, Try.ntmps78
        go_wp2
        go_ret
        exact ⟨rfl, hB _⟩
    · have e : mayA (r, i) = false := by simp [mayA, h1, h2] <;> omega
      rw [e]
      clear e
      go_enter Try.func78, Try.ntmps78
      go_wp2
      go_ret
      exact ⟨rfl, hB _⟩
  · have e : mayA (r, i) = false := by simp [mayA, h1] <;> omega
    rw [e]
    clear e
    go_enter Try.func78, Try.ntmps78
    go_wp2
    go_ret
    exact ⟨rfl, hB _⟩

theorem may_any (r i s : Int) (w : World) : Calls Try.prog 50 #[.agg #[.int .u8 r, .int .u32 i, .int .u64 s]] w fun e w' => e = .returned (.bool (may ((r, i), s))) ∧ Below w.heap.size w w' := by
  have hm : ∀ b, mayA (r, i) = b → Calls Try.prog 78 #[.agg #[.int .u8 r, .int .u32 i]] (w.alloc (.cells #[.int .u8 r, .int .u32 i, .int .u64 s] 31)) fun e w' => e = .returned (.bool b) ∧ Below w.heap.size w w' ∧ (∀ j, w'.cell? ⟨w.heap.size, j, none⟩ = #[Value.int .u8 r, .int .u32 i, .int .u64 s][j]?) := by
    intro b hb
    refine (mayActor_any r i _).mono ?_
    rintro e w' ⟨rfl, hbl⟩
    obtain ⟨h1, h2, h3⟩ := new1 hbl
    rw [hb]
    exact ⟨rfl, h3, cells_at h1⟩
  cases hA : mayA (r, i) with
  | false =>
    have hm' := hm _ hA
    have e : may ((r, i), s) = false := by simp [may, hA]
    rw [e]
    clear e hm hA
    go_enter Try.func50, Try.ntmps50
    go_wp2_with (go_at_call 78; refine hm'.mono ?_; rintro e w' ⟨rfl, hb, hc⟩)
    go_ret
    exact ⟨rfl, hb⟩
  | true =>
    have hm' := hm _ hA
    clear hm
    by_cases h1 : 1 ≤ s
    · by_cases h2 : s ≤ 1048576
      · have e : may ((r, i), s) = true := by simp [may, hA, h1, h2]
        rw [e]
        clear e hA
        go_enter Try.func50, Try.ntmps50
        go_wp2_with (go_at_call 78; refine hm'.mono ?_; rintro e w' ⟨rfl, hb, hc⟩)
        go_ret
        exact ⟨rfl, hb⟩
      · have e : may ((r, i), s) = false := by simp [may, hA, h1, h2] <;> omega
        have h2' : decide (s ≤ 1048576) = false := by simpa using h2
        rw [e]
        clear e hA
        go_enter Try.func50, Try.ntmps50
        go_wp2_with (go_at_call 78; refine hm'.mono ?_; rintro e w' ⟨rfl, hb, hc⟩)
        go_ret
        exact ⟨rfl, hb⟩
    · have e : may ((r, i), s) = false := by simp [may, hA, h1] <;> omega
      rw [e]
      clear e hA
      go_enter Try.func50, Try.ntmps50
      go_wp2_with (go_at_call 78; refine hm'.mono ?_; rintro e w' ⟨rfl, hb, hc⟩)
      go_ret
      exact ⟨rfl, hb⟩

/-! which is ahead -/
def cmpI (x y : Int) : Int := if x < y then -1 else if y < x then 1 else 0
def orI : List Int → Int
  | [] => 0
  | x :: xs => if x = 0 then orI xs else x
def cmpA (a b : Ac) : Int := orI [cmpI a.1 b.1, cmpI a.2 b.2]
theorem cmpu8 (x y : Int) (w : World) : Calls Try.prog 119 #[.int .u8 x, .int .u8 y] w fun e w' => e = .returned (.int .i64 (cmpI x y)) ∧ w = w' := by
  by_cases h1 : x < y
  · have e : cmpI x y = -1 := by simp [cmpI, h1]
    rw [e]
    clear e
    go_enter Try.func119, Try.ntmps119
    go_wp2
    go_ret
    exact ⟨rfl, rfl⟩
  · by_cases h2 : y < x
    · have e : cmpI x y = 1 := by simp [cmpI, h1, h2]
      rw [e]
      clear e
      go_enter Try.func119, Try.ntmps119
      go_wp2
      go_ret
      exact ⟨rfl, rfl⟩
    · have e : cmpI x y = 0 := by simp [cmpI, h1, h2]
      rw [e]
      clear e
      go_enter Try.func119, Try.ntmps119
      go_wp2
      go_ret
      exact ⟨rfl, rfl⟩
theorem cmpu32 (x y : Int) (w : World) : Calls Try.prog 120 #[.int .u32 x, .int .u32 y] w fun e w' => e = .returned (.int .i64 (cmpI x y)) ∧ w = w' := by
  by_cases h1 : x < y
  · have e : cmpI x y = -1 := by simp [cmpI, h1]
    rw [e]
    clear e
    go_enter Try.func120, Try.ntmps120
    go_wp2
    go_ret
    exact ⟨rfl, rfl⟩
  · by_cases h2 : y < x
    · have e : cmpI x y = 1 := by simp [cmpI, h1, h2]
      rw [e]
      clear e
      go_enter Try.func120, Try.ntmps120
      go_wp2
      go_ret
      exact ⟨rfl, rfl⟩
    · have e : cmpI x y = 0 := by simp [cmpI, h1, h2]
      rw [e]
      clear e
      go_enter Try.func120, Try.ntmps120
      go_wp2
      go_ret
      exact ⟨rfl, rfl⟩
theorem cmpu64 (x y : Int) (w : World) : Calls Try.prog 89 #[.int .u64 x, .int .u64 y] w fun e w' => e = .returned (.int .i64 (cmpI x y)) ∧ w = w' := by
  by_cases h1 : x < y
  · have e : cmpI x y = -1 := by simp [cmpI, h1]
    rw [e]
    clear e
    go_enter Try.func89, Try.ntmps89
    go_wp2
    go_ret
    exact ⟨rfl, rfl⟩
  · by_cases h2 : y < x
    · have e : cmpI x y = 1 := by simp [cmpI, h1, h2]
      rw [e]
      clear e
      go_enter Try.func89, Try.ntmps89
      go_wp2
      go_ret
      exact ⟨rfl, rfl⟩
    · have e : cmpI x y = 0 := by simp [cmpI, h1, h2]
      rw [e]
      clear e
      go_enter Try.func89, Try.ntmps89
      go_wp2
      go_ret
      exact ⟨rfl, rfl⟩
theorem or_any (g : Nat) (xs : List Int) (w : World) (hx : ∀ j x, xs[j]? = some x → w.cell? ⟨g, j, none⟩ = some (.int .i64 x)) (hn : xs.length ≤ 1000) :
    Calls Try.prog 87 #[.slice (some ⟨g, 0, none⟩) xs.length xs.length] w fun e w' => e = .returned (.int .i64 (orI xs)) ∧ w = w' := by
  have Hx := Lib.hid hx
  clear hx
  go_enter Try.func87, Try.ntmps87
  go_wp2_with fail
  go_loop [8] (fun i => ∃ k : Nat, k ≤ xs.length ∧ i = .int .i64 k ∧ Hid (orI (xs.drop k) = orI xs)) (fun i => xs.length - (intOf i).toNat)
  case atStart => exact ⟨0, Nat.zero_le _, rfl, Lib.hid rfl⟩
  case round =>
    obtain ⟨k, hk, rfl, ho⟩ := hrel
    by_cases hlt : k < xs.length
    · obtain ⟨x, hx⟩ : ∃ x, xs[k]? = some x := ⟨xs[k], by simp [hlt]⟩
      have hc := Hx.out k x hx
      have hd : xs.drop k = x :: xs.drop (k + 1) := by
        obtain ⟨h, rfl⟩ := List.getElem?_eq_some_iff.1 hx
        exact List.drop_eq_getElem_cons h
      by_cases h0 : x = 0
      · subst h0
        have Hd : Hid (orI (xs.drop (k + 1)) = orI xs) := by
          have := ho.out; rw [hd] at this; exact Lib.hid (by simpa [orI] using this)
        clear hd hx
        go_wp2_with fail
        go_round
        case rel => exact ⟨k + 1, by omega, by go_num, Hd⟩
        case measure => simp [intOf]; omega
      · have Hd : Hid (x = orI xs) := by
          have := ho.out; rw [hd] at this; exact Lib.hid (by simpa [orI, h0] using this)
        have h0' : (x != 0) = true := by simpa using h0
        clear hd hx
        go_wp2_with fail
        go_ret
        exact ⟨by rw [← Hd.out]; rfl, rfl⟩
    · have hd : xs.drop k = [] := List.drop_eq_nil_of_le (by omega)
      have Hd : Hid (0 = orI xs) := by
        have := ho.out; rw [hd] at this; exact Lib.hid (by simpa [orI] using this)
      clear hd
      go_wp2_with fail
      go_ret
      exact ⟨by rw [← Hd.out]; rfl, rfl⟩
end Go.Proofs.Ytmabjghjkgicgaa

/- DotB -/
namespace Go.Proofs.Ytmabjghjkgicgaa
open Go.RowKit
set_option linter.unusedVariables false
set_option linter.unusedSimpArgs false

theorem below_grow (w : World) (q : Nat) (os : Array Obj) : Below w.heap.size w (Sort.grow (w.drewN q) os) := by
  refine ⟨rfl, rfl, rfl, by simp [Sort.grow, World.drewN], fun k hk => ?_⟩
  have h : (w.drewN q).heap = w.heap := rfl
  simp only [Sort.grow, h]
  rw [Array.getElem?_append_left hk]

theorem at_new3 (w : World) (o1 o2 o3 : Obj) : (((w.alloc o1).alloc o2).alloc o3).drew.heap[w.heap.size + 1 + 1]? = some o3 := by
  have h := heap_new ((w.alloc o1).alloc o2) o3
  rw [World.size_alloc, World.size_alloc] at h
  exact h
/-- blocks and draws came, nothing else -/
def Grown (w w' : World) : Prop := ∃ q os, w' = Sort.grow (w.drewN q) os
theorem Grown.refl (w : World) : Grown w w := ⟨0, #[], by simp [Sort.grow, World.drewN]⟩
theorem Grown.alloc {w w' : World} (h : Grown w w') (o : Obj) : Grown w (w'.alloc o) := by
  obtain ⟨q, os, rfl⟩ := h
  exact ⟨q, os ++ #[o], by rw [Sort.alloc_eq_grow, Sort.grow_grow]⟩
theorem Grown.drew {w w' : World} (h : Grown w w') : Grown w w'.drew := by
  obtain ⟨q, os, rfl⟩ := h
  exact ⟨q + 1, os, by simp [Sort.grow, World.drewN, World.drew]; omega⟩
theorem Grown.trans {a b c : World} (h : Grown a b) (k : Grown b c) : Grown a c := by
  obtain ⟨q, os, rfl⟩ := h
  obtain ⟨q', os', rfl⟩ := k
  exact ⟨q + q', os ++ os', by simp [Sort.grow, World.drewN]; omega⟩
theorem Grown.below {w w' : World} (h : Grown w w') : Below w.heap.size w w' := by
  obtain ⟨q, os, rfl⟩ := h
  exact below_grow w q os
theorem two_at {W : World} {g : Nat} {x y : Int} {t : TypeId} (h : W.heap[g]? = some (.cells #[.int .i64 x, .int .i64 y] t (0, 0))) : ∀ j z, [x, y][j]? = some z → W.cell? ⟨g, j, none⟩ = some (.int .i64 z) := by
  intro j z hj
  rw [cells_at h]
  match j with
  | 0 => simp at hj; subst hj; rfl
  | 1 => simp at hj; subst hj; rfl
  | j + 2 => simp at hj

theorem compare_any (r i r' i' : Int) (w : World) :
    Calls Try.prog 88 #[.agg #[.int .u8 r, .int .u32 i], .agg #[.int .u8 r', .int .u32 i']] w fun e w' => e = .returned (.int .i64 (cmpA (r, i) (r', i'))) ∧ Grown w w' := by
  go_enter Try.func88, Try.ntmps88
  go_wp2_with fail
  refine region_text [([0, 1, 2, 3, 5, 6, 7, 8], false), ([4], true), ([9, 10, 11, 12], false)] mixed (by kernel_rfl) ?_
  simp only [wpSegs, List.map_cons, List.map_nil, List.getD_cons_succ, List.getD_cons_zero]
  go_wp2_with fail
  refine (cmpu8 _ _ _).mono ?_
  rintro e w' ⟨rfl, rfl⟩
  go_wp2_with fail
  refine And.intro (Agree.refl _) ?_
  go_wp2_with fail
  refine (cmpu32 _ _ _).mono ?_
  rintro e w' ⟨rfl, rfl⟩
  go_wp2_with fail
  refine (or_any _ [cmpI r r', cmpI i i'] _ (two_at (t := 3) ?hx) (by simp)).mono ?_
  case hx => first | exact heap_new _ _ | exact at_new3 _ _ _ _
  rintro e w' ⟨rfl, rfl⟩
  go_wp2_with fail
  refine And.intro (by kernel_rfl) ?_
  go_wp2_with fail
  go_ret
  exact ⟨rfl, ((((Grown.refl w).alloc _).alloc _).alloc _).drew⟩

def cmpDD (a b : Dt) : Int := orI [cmpA a.1 b.1, cmpI a.2 b.2]
theorem compareD_any (r i s r' i' s' : Int) (w : World) :
    Calls Try.prog 58 #[.agg #[.int .u8 r, .int .u32 i, .int .u64 s], .agg #[.int .u8 r', .int .u32 i', .int .u64 s']] w fun e w' => e = .returned (.int .i64 (cmpDD ((r, i), s) ((r', i'), s'))) ∧ Grown w w' := by
  go_enter Try.func58, Try.ntmps58
  go_wp2_with fail
  refine region_text [([0, 1, 2, 3, 5, 6, 7, 8], false), ([4], true), ([9, 10, 11, 12], false)] mixed (by kernel_rfl) ?_
  simp only [wpSegs, List.map_cons, List.map_nil, List.getD_cons_succ, List.getD_cons_zero]
  go_wp2_with fail
  refine (compare_any _ _ _ _ _).mono ?_
  rintro e w1 ⟨rfl, hg⟩
  have hbl := hg.below
  go_wp2_with fail
  refine And.intro (Agree.of_below hbl) ?_
  clear hbl
  go_wp2_with fail
  refine (cmpu64 _ _ _).mono ?_
  rintro e w' ⟨rfl, rfl⟩
  go_wp2_with fail
  refine (or_any _ [cmpA (r, i) (r', i'), cmpI s s'] _ (two_at (t := 3) ?hx) (by simp)).mono ?_
  case hx => first | exact heap_new _ _ | exact at_new3 _ _ _ _
  rintro e w' ⟨rfl, rfl⟩
  go_wp2_with fail
  refine And.intro (by kernel_rfl) ?_
  go_wp2_with fail
  go_ret
  exact ⟨rfl, (((((Grown.refl w).alloc _).alloc _).drew).trans hg).alloc _⟩
theorem cmpDD_eq (a b : Dt) : cmpDD a b = cmpD a b := by
  obtain ⟨⟨r, i⟩, s⟩ := a
  obtain ⟨⟨r', i'⟩, s'⟩ := b
  simp only [cmpDD, cmpA, cmpI, orI, cmpD, lessD, decide_eq_true_eq]
  rcases Int.lt_trichotomy r r' with h | h | h
  · simp [h, show ¬ r' < r by omega]
  · subst h
    rcases Int.lt_trichotomy i i' with h | h | h
    · simp [h, show ¬ i' < i by omega]
    · subst h
      rcases Int.lt_trichotomy s s' with h | h | h
      · simp [h, show ¬ s' < s by omega]
      · subst h; simp
      · simp [h, show ¬ s < s' by omega]
    · simp [h, show ¬ i < i' by omega, show ¬ i = i' by omega]
  · simp [h, show ¬ r < r' by omega, show ¬ r = r' by omega]
theorem cmpA_neg (a b : Ac) : cmpA a b < 0 ↔ ltA a b := by
  obtain ⟨r, i⟩ := a
  obtain ⟨r', i'⟩ := b
  simp only [cmpA, cmpI, orI, ltA]
  rcases Int.lt_trichotomy r r' with h | h | h
  · simp [h]
  · subst h
    rcases Int.lt_trichotomy i i' with h | h | h
    · simp [h]
    · subst h; simp
    · simp [h, show ¬ i < i' by omega]
  · simp [h, show ¬ r < r' by omega, show ¬ r = r' by omega]
theorem cmpD_neg (a b : Dt) : cmpD a b < 0 ↔ lessD a b = true := by
  unfold cmpD
  split
  · rename_i h; simp [h]
  · rename_i h
    split <;> simp [h]
end Go.Proofs.Ytmabjghjkgicgaa
