/- Change. -/
import Derived.Test.YtkgbdgnfidpelaaBagF
namespace Go.Proofs.Ytkgbdgnfidpelaa
open Go.RowKit
set_option linter.unusedVariables false
set_option linter.unusedSimpArgs false

theorem change1_no (g o q1 q2 : Nat) (a : Option Addr) (n c : Nat) (ch : Bool) (x : UInt8) (at_ : Int) (w : World) (hn : n ≤ 9223372036854775807)
    (e1 : w.cell? ⟨g, o + 1, none⟩ = some (.slice a n c)) (e2 : w.cell? ⟨g, o + 2, none⟩ = some (.bool ch))
    (hx : w.cell? ⟨q1, 0, none⟩ = some (.int .u8 (x.toNat : Int))) (ha : w.cell? ⟨q2, 0, none⟩ = some (.int .i64 at_)) (h : x = 0 ∨ ch = true ∨ at_ < 0 ∨ (n : Int) ≤ at_) :
    Calls Try.prog 24 #[.pointer (some ⟨g, o, none⟩), .pointer (some ⟨q1, 0, none⟩), .pointer (some ⟨q2, 0, none⟩)] w fun e w' => e = .returned (.bool false) ∧ Below w.heap.size w w' := by
  by_cases h0 : x = 0
  · subst h0
    have hb : (((0 : UInt8).toNat : Int) == 0) = true := rfl
    go_enter Try.func24, Try.ntmps24
    go_wp2_with fail
    refine region_text [([0, 1, 2, 3, 4, 5, 6, 7, 8, 9, 10, 11, 12, 13, 14, 15, 16, 17, 18, 19, 20, 21], false)] mixed (by kernel_rfl) ?_
    simp only [wpSegs, List.map_cons, List.map_nil, List.getD_cons_succ, List.getD_cons_zero]
    go_wp2_with fail
    refine And.intro (by kernel_rfl) ?_
    go_wp2_with fail
    go_ret
    exact ⟨rfl, (Below.refl _ _).drew⟩
  · have hb : ((x.toNat : Int) == 0) = false := by
      simp only [beq_eq_false_iff_ne]; intro e; apply h0; exact UInt8.toNat_inj.1 (by simpa using e)
    cases ch
    · by_cases h2 : at_ < 0
      · go_enter Try.func24, Try.ntmps24
        go_wp2_with fail
        refine region_text [([0, 1, 2, 3, 4, 5, 6, 7, 8, 9, 10, 11, 12, 13, 14, 15, 16, 17, 18, 19, 20, 21], false)] mixed (by kernel_rfl) ?_
        simp only [wpSegs, List.map_cons, List.map_nil, List.getD_cons_succ, List.getD_cons_zero]
        go_wp2_with fail
        refine And.intro (by kernel_rfl) ?_
        go_wp2_with fail
        go_ret
        exact ⟨rfl, (Below.refl _ _).drew⟩
      · have h3 : (n : Int) ≤ at_ := by rcases h with h | h | h | h <;> first | contradiction | omega
        clear h
        go_enter Try.func24, Try.ntmps24
        go_wp2_with fail
        refine region_text [([0, 1, 2, 3, 4, 5, 6, 7, 8, 9, 10, 11, 12, 13, 14, 15, 16, 17, 18, 19, 20, 21], false)] mixed (by kernel_rfl) ?_
        simp only [wpSegs, List.map_cons, List.map_nil, List.getD_cons_succ, List.getD_cons_zero]
        go_wp2_with fail
        refine And.intro (by kernel_rfl) ?_
        go_wp2_with fail
        go_ret
        exact ⟨rfl, (Below.refl _ _).drew⟩
    · clear h
      go_enter Try.func24, Try.ntmps24
      go_wp2_with fail
      refine region_text [([0, 1, 2, 3, 4, 5, 6, 7, 8, 9, 10, 11, 12, 13, 14, 15, 16, 17, 18, 19, 20, 21], false)] mixed (by kernel_rfl) ?_
      simp only [wpSegs, List.map_cons, List.map_nil, List.getD_cons_succ, List.getD_cons_zero]
      go_wp2_with fail
      refine And.intro (by kernel_rfl) ?_
      go_wp2_with fail
      go_ret
      exact ⟨rfl, (Below.refl _ _).drew⟩

theorem xor_u8 (b x : UInt8) : bits BinOp.xor IntKind.u8 (b.toNat : Int) (x.toNat : Int) = ((b ^^^ x).toNat : Int) := by
  have h1 : b.toNat ^^^ x.toNat < 256 := by
    have := (b ^^^ x).toNat_lt; rw [UInt8.toNat_xor] at this; simpa using this
  have hb := b.toNat_lt
  have hx := x.toNat_lt
  have e : bits BinOp.xor IntKind.u8 (b.toNat : Int) (x.toNat : Int) = IntKind.u8.wrap (((BitVec.ofInt 8 (b.toNat : Int)) ^^^ (BitVec.ofInt 8 (x.toNat : Int))).toNat : Int) := rfl
  rw [e, BitVec.ofInt_natCast, BitVec.ofInt_natCast, BitVec.toNat_xor, BitVec.toNat_ofNat, BitVec.toNat_ofNat, Nat.mod_eq_of_lt hb, Nat.mod_eq_of_lt hx, UInt8.toNat_xor]
  simp [IntKind.wrap, IntKind.signed, IntKind.bits]
  omega
theorem flat_apart {α : Type} (f : α → List Nat) : ∀ (M : List α) (i k : Nat) (x z : α), (M.flatMap f).Nodup → M[i]? = some x → M[k]? = some z → i ≠ k → ∀ b, b ∈ f x → b ∈ f z → False
  | [], i, k, x, z, _, h, _, _, _, _, _ => by simp at h
  | y :: M, i, k, x, z, hn, h1, h2, hik, b, hb1, hb2 => by
    rw [List.flatMap_cons, List.nodup_append] at hn
    obtain ⟨n1, n2, n3⟩ := hn
    cases i with
    | zero =>
      cases k with
      | zero => exact hik rfl
      | succ k =>
        simp at h1 h2; subst h1
        exact n3 b hb1 b (List.mem_flatMap.2 ⟨z, List.mem_of_getElem? h2, hb2⟩) rfl
    | succ i =>
      cases k with
      | zero =>
        simp at h1 h2; subst h2
        exact n3 b hb2 b (List.mem_flatMap.2 ⟨x, List.mem_of_getElem? h1, hb1⟩) rfl
      | succ k =>
        simp at h1 h2
        exact flat_apart f M i k x z n2 h1 h2 (by omega) b hb1 hb2
theorem change1_yes (g o q1 q2 gb i : Nat) (n c : Nat) (x b : UInt8) (w : World) (hn : n ≤ 9223372036854775807)
    (e1 : w.cell? ⟨g, o + 1, none⟩ = some (.slice (some ⟨gb, 0, none⟩) n c)) (e2 : w.cell? ⟨g, o + 2, none⟩ = some (.bool false))
    (hx : w.cell? ⟨q1, 0, none⟩ = some (.int .u8 (x.toNat : Int))) (ha : w.cell? ⟨q2, 0, none⟩ = some (.int .i64 (i : Int))) (h0 : x ≠ 0) (hi : i < n)
    (hbc : w.cell? ⟨gb, i, none⟩ = some (.int .u8 (b.toNat : Int))) (hbf : w.frozen? ⟨gb, i, none⟩ = false) (hgf : w.frozen? ⟨g, o + 2, none⟩ = false) (hne : gb ≠ g) :
    Calls Try.prog 24 #[.pointer (some ⟨g, o, none⟩), .pointer (some ⟨q1, 0, none⟩), .pointer (some ⟨q2, 0, none⟩)] w fun e w' => e = .returned (.bool true) ∧ w' = ((w.setCell ⟨gb, i, none⟩ (.int .u8 ((b ^^^ x).toNat : Int))).setCell ⟨g, o + 2, none⟩ (.bool true)).drew.drew := by
  have hb : ((x.toNat : Int) == 0) = false := by
    simp only [beq_eq_false_iff_ne]; intro e; apply h0; exact UInt8.toNat_inj.1 (by simpa using e)
  have hi' : (i : Int) < (n : Int) := by omega
  go_enter Try.func24, Try.ntmps24
  go_wp2_with fail
  refine region_text [([0, 1, 2, 3, 4, 5, 6, 7, 8, 9, 10, 11, 12, 13, 14, 15, 16, 17, 18, 19, 20, 21], false)] mixed (by kernel_rfl) ?_
  simp only [wpSegs, List.map_cons, List.map_nil, List.getD_cons_succ, List.getD_cons_zero]
  go_wp2_with fail
  refine And.intro (by kernel_rfl) ?_
  go_wp2_with fail
  refine region_text [([0, 1, 2, 3, 4, 5, 6, 7, 8, 9, 10, 11], false)] mixed (by kernel_rfl) ?_
  simp only [wpSegs, List.map_cons, List.map_nil, List.getD_cons_succ, List.getD_cons_zero]
  go_wp2_with fail
  refine And.intro (by kernel_rfl) ?_
  go_wp2_with fail
  go_ret
  exact ⟨rfl, by rw [xor_u8]⟩

/-- the bag's i-th letter changed at one place -/
theorem bag_change {w : World} {pb g gb sc i j : Nat} {M : List Ml} {t8 : Int} {bs : List UInt8} {xc : Nat} {y : UInt8} (hb : BagAt w pb M (some ⟨g, 0, none⟩) sc) (hx : M[i]? = some (⟨t8, bs, false⟩, some ⟨gb, 0, none⟩, xc)) (hj : j < bs.length) :
    BagAt ((w.setCell ⟨gb, j, none⟩ (.int .u8 (y.toNat : Int))).setCell ⟨g, i * 3 + 2, none⟩ (.bool true)) pb (M.set i (⟨t8, bs.set j y, true⟩, some ⟨gb, 0, none⟩, xc)) (some ⟨g, 0, none⟩) sc := by
  have hi : i < M.length := by
    rcases Nat.lt_or_ge i M.length with h | h
    · exact h
    · rw [List.getElem?_eq_none h] at hx; cases hx
  have hnd := hb.nodup
  simp only [foot, List.nodup_cons, List.nodup_append, List.mem_append, List.mem_flatMap, not_or] at hnd
  obtain ⟨⟨hn1, hn2⟩, hn3, hn4, hn5⟩ := hnd
  have hxM := List.mem_of_getElem? hx
  have hgp : g ≠ pb := fun e => hn1 (by simp [ob, e])
  have hgbg : gb ≠ g := fun e => hn5 g (by simp [ob]) gb ⟨_, hxM, by simp [ob]⟩ e.symm
  have hgbp : gb ≠ pb := fun e => hn2 ⟨_, hxM, by simp [ob, e]⟩
  have hlen : (M.set i (⟨t8, bs.set j y, true⟩, some ⟨gb, 0, none⟩, xc)).length = M.length := by simp
  have c1 : Chg [gb] w (w.setCell ⟨gb, j, none⟩ (.int .u8 (y.toNat : Int))) := Chg.setCell w ⟨gb, j, none⟩ _
  have c2 : Chg [g] (w.setCell ⟨gb, j, none⟩ (.int .u8 (y.toNat : Int))) ((w.setCell ⟨gb, j, none⟩ (.int .u8 (y.toNat : Int))).setCell ⟨g, i * 3 + 2, none⟩ (.bool true)) := Chg.setCell _ ⟨g, i * 3 + 2, none⟩ _
  have hfoot : foot pb (some ⟨g, 0, none⟩) (M.set i (⟨t8, bs.set j y, true⟩, some ⟨gb, 0, none⟩, xc)) = foot pb (some ⟨g, 0, none⟩) M := by
    have : ∀ (M : List Ml) (i : Nat), M[i]? = some (⟨t8, bs, false⟩, some ⟨gb, 0, none⟩, xc) → (M.set i (⟨t8, bs.set j y, true⟩, some ⟨gb, 0, none⟩, xc)).flatMap (fun x => ob x.2.1) = M.flatMap (fun x => ob x.2.1) := by
      intro M
      induction M with
      | nil => intro i h; simp at h
      | cons z M ih =>
        intro i h
        cases i with
        | zero => simp at h; subst h; simp
        | succ i => simp at h; simp [ih i h]
    simp only [foot, this M i hx]
  refine ⟨?_, ?_, ?_, by rw [hfoot]; exact hb.nodup⟩
  · rw [hlen]; exact heap_chg (heap_chg hb.blk c1 (by simp; omega)) c2 (by simp; omega)
  · rw [hlen]
    have h1 := owns_chg hb.row c1 (by simp [ob]; omega)
    have h2 := (h1.stored (i * 3 + 2) (.bool true)).1
    have : (rcells M).set (i * 3 + 2) (.bool true) = rcells (M.set i (⟨t8, bs.set j y, true⟩, some ⟨gb, 0, none⟩, xc)) := by
      have : ∀ (M : List Ml) (i : Nat), M[i]? = some (⟨t8, bs, false⟩, some ⟨gb, 0, none⟩, xc) → (rcells M).set (i * 3 + 2) (.bool true) = rcells (M.set i (⟨t8, bs.set j y, true⟩, some ⟨gb, 0, none⟩, xc)) := by
        intro M
        induction M with
        | nil => intro i h; simp at h
        | cons z M ih =>
          intro i h
          cases i with
          | zero => simp at h; subst h; simp [rcells, lcells]
          | succ i =>
            simp at h
            have := ih i h
            simp only [rcells, List.flatMap_cons, List.set_cons_succ] at this ⊢
            rw [List.set_append_right _ _ (by simp [lcells]; omega), show (i + 1) * 3 + 2 - (lcells z).length = i * 3 + 2 by simp [lcells]; omega, this]
      exact this M i hx
    rw [← this]; exact h2
  · intro z hz
    by_cases hze : z = (⟨t8, bs.set j y, true⟩, some ⟨gb, 0, none⟩, xc)
    · subst hze
      have h0 := hb.bytes _ hxM
      have h1 := (h0.stored j (.int .u8 (y.toNat : Int))).1
      have h2 := owns_chg h1 c2 (by simp [ob]; omega)
      simp only [List.length_set]
      have : u8s (bs.set j y) = (u8s bs).set j (.int .u8 (y.toNat : Int)) := by simp [u8s, List.map_set]
      rw [this]; exact h2
    · obtain ⟨k, hk⟩ := List.getElem?_of_mem hz
      rw [List.getElem?_set] at hk
      have hki : i ≠ k := by
        intro e; subst e; simp [hi] at hk; exact hze hk.symm
      rw [if_neg hki] at hk
      have hzM := List.mem_of_getElem? hk
      refine owns_chg (owns_chg (hb.bytes z hzM) c1 ?_) c2 ?_
      · intro b hbz he
        simp at he; subst he
        exact flat_apart (fun x : Ml => ob x.2.1) M i k _ z hn4 hx hk hki b (by simp [ob]) hbz
      · intro b hbz he
        simp at he; subst he
        exact hn5 b (by simp [ob]) b ⟨z, hzM, hbz⟩ rfl

theorem change_nil (i at_ : Int) (x : UInt8) (w : World) (h1 : -9223372036854775808 ≤ i) (h2 : i ≤ 9223372036854775807) :
    Calls Try.prog 9 #[.pointer none, .int .i64 i, .int .i64 at_, .int .u8 (x.toNat : Int)] w fun e w' => e = .returned (.bool false) ∧ Below w.heap.size w w' := by
  go_enter Try.func9, Try.ntmps9
  go_wp2_with (go_at_call 23; refine (at_nil i _ _ h1 h2).mono ?_; rintro e w' ⟨rfl, rfl⟩)
  go_ret
  exact ⟨rfl, ((Below.refl _ _).alloc (Nat.le_refl _) _).alloc (by simp) _⟩
theorem change_out (pb n c : Nat) (sa : Option Addr) (i at_ : Int) (x : UInt8) (w : World) (hp : w.cell? ⟨pb, 0, none⟩ = some (.slice sa n c)) (h1 : -9223372036854775808 ≤ i) (h2 : i ≤ 9223372036854775807) (h : i < 0 ∨ (n : Int) ≤ i) :
    Calls Try.prog 9 #[.pointer (some ⟨pb, 0, none⟩), .int .i64 i, .int .i64 at_, .int .u8 (x.toNat : Int)] w fun e w' => e = .returned (.bool false) ∧ Below w.heap.size w w' := by
  have hlt := World.block_lt_of_cell? w _ hp
  go_enter Try.func9, Try.ntmps9
  go_wp2_with (go_at_call 23; refine (at_out pb n c sa i _ _ (by rw [World.cell?_alloc_lt _ _ _ (by simp; omega), World.cell?_alloc_lt _ _ _ hlt]; exact hp) h1 h2 h).mono ?_; rintro e w' ⟨rfl, rfl⟩)
  go_ret
  exact ⟨rfl, ((Below.refl _ _).alloc (Nat.le_refl _) _).alloc (by simp) _⟩

/-- what comes of Change -/
def ChangePost (pb g sc i : Nat) (at_ : Int) (y : UInt8) (M : List Ml) (x : Ml) (w : World) (e : Ending) (w' : World) : Prop :=
  ((y = 0 ∨ x.1.ch = true ∨ at_ < 0 ∨ (x.1.b.length : Int) ≤ at_) ∧ e = .returned (.bool false) ∧ Below w.heap.size w w') ∨
  (∃ j : Nat, at_ = j ∧ y ≠ 0 ∧ x.1.ch = false ∧ ∃ h : j < x.1.b.length, e = .returned (.bool true) ∧ BagAt w' pb (M.set i (⟨x.1.t, x.1.b.set j (x.1.b[j] ^^^ y), true⟩, x.2)) (some ⟨g, 0, none⟩) sc ∧ Chg (foot pb (some ⟨g, 0, none⟩) M) w w')
theorem change_in (pb g sc i : Nat) (at_ : Int) (y : UInt8) (M : List Ml) (x : Ml) (w : World) (hb : BagAt w pb M (some ⟨g, 0, none⟩) sc) (hx : M[i]? = some x) (hm : M.length ≤ 1000000) (hn : x.1.b.length ≤ 140737488355328) :
    Calls Try.prog 9 #[.pointer (some ⟨pb, 0, none⟩), .int .i64 i, .int .i64 at_, .int .u8 (y.toNat : Int)] w (ChangePost pb g sc i at_ y M x w) := by
  obtain ⟨⟨t8, bs, ch⟩, xa, xc⟩ := x
  have hi : i < M.length := by
    rcases Nat.lt_or_ge i M.length with h | h
    · exact h
    · rw [List.getElem?_eq_none h] at hx; cases hx
  have hp := cells_at hb.blk
  have lp := heap_lt hb.blk
  have lg : g < w.heap.size := hb.lt g (by simp [foot, ob])
  obtain ⟨e0, e1, e2⟩ := row_at hb.row hx
  dsimp only at e0 e1 e2 hn ⊢
  by_cases hno : y = 0 ∨ ch = true ∨ at_ < 0 ∨ (bs.length : Int) ≤ at_
  · have Hno := Lib.hid hno
    clear hno
    go_enter Try.func9, Try.ntmps9
    go_wp2_with fail
    refine (at_in2 pb M.length sc g i 24 _ _ _ (fun b w' => b = false ∧ Below (w.heap.size + 2) ((w.alloc (.cells #[.int .i64 at_] 3)).alloc (.cells #[.int .u8 (y.toNat : Int)] 5)) w') (by simp [go_sem, hp, lp]) hi hm cf_change1
      ((change1_no g (i * 3) (w.heap.size + 1) w.heap.size xa bs.length xc ch y at_ _ (by omega) (by simp [go_sem, e1, lg]) (by simp [go_sem, e2, lg]) (by simp [go_sem]) (by simp [go_sem]) Hno.out).mono fun e w' ⟨he, h⟩ => ⟨false, he, rfl, by simpa using h⟩)).mono ?_
    rintro e w1 ⟨b, rfl, rfl, hbl⟩
    go_wp2_with fail
    go_ret
    exact .inl ⟨Hno.out, rfl, (((Below.refl _ _).alloc (Nat.le_refl _) _).alloc (by simp) _).trans (hbl.mono (by omega))⟩
  · simp only [not_or] at hno
    obtain ⟨n1, n2, n3, n4⟩ := hno
    obtain ⟨j, rfl⟩ : ∃ j : Nat, at_ = j := ⟨at_.toNat, by omega⟩
    have hj : j < bs.length := by omega
    obtain rfl : ch = false := by simpa using n2
    have hown := hb.bytes _ (List.mem_of_getElem? hx)
    obtain ⟨gb, rfl⟩ : ∃ gb, xa = some ⟨gb, 0, none⟩ := by
      rcases hown.2 with ⟨h1, h2⟩ | ⟨gb, _, _, h1, _⟩
      · dsimp only at h2; omega
      · simp at h1; exact ⟨gb, h1.1⟩
    have hbc : w.cell? ⟨gb, j, none⟩ = some (.int .u8 (bs[j].toNat : Int)) := by
      have := hown.cellAt j (by dsimp only; omega)
      rw [this]; simp [u8s, hj]
    have hbf := hown.frozenAt j
    have hgf := hb.row.frozenAt (i * 3 + 2)
    have hnd := hb.nodup
    simp only [foot, List.nodup_cons, List.nodup_append, List.mem_append, List.mem_flatMap, not_or] at hnd
    have hne : gb ≠ g := fun e => hnd.2.2.2 g (by simp [ob]) gb ⟨_, List.mem_of_getElem? hx, by simp [ob]⟩ e.symm
    have lgb : gb < w.heap.size := (owns_lt hown gb (by simp [ob])).2
    have hfin := bag_change (y := bs[j] ^^^ y) (j := j) ((hb.chg (Chg.alloc [] w (.cells #[.int .i64 (j : Int)] 3)) (by simp)).chg (Chg.alloc [] _ (.cells #[.int .u8 (y.toNat : Int)] 5)) (by simp)) hx hj
    have Hfin := Lib.hid hfin
    have Hx := Lib.hid hx
    have hA : Chg (foot pb (some ⟨g, 0, none⟩) M) w ((w.alloc (.cells #[.int .i64 (j : Int)] 3)).alloc (.cells #[.int .u8 (y.toNat : Int)] 5)) := (Chg.alloc _ w _).trans (Chg.alloc [] _ _) (by simp)
    have HA := Lib.hid hA
    have lpw : pb < w.heap.size := lp
    have hcall : Calls Try.prog 24 #[.pointer (some ⟨g, i * 3, none⟩), .pointer (some ⟨w.heap.size + 1, 0, none⟩), .pointer (some ⟨w.heap.size, 0, none⟩)] ((w.alloc (.cells #[.int .i64 (j : Int)] 3)).alloc (.cells #[.int .u8 (y.toNat : Int)] 5))
        fun e w' => ∃ b, e = .returned (.bool b) ∧ (b = true ∧ BagAt w' pb (M.set i (⟨t8, bs.set j (bs[j] ^^^ y), true⟩, some ⟨gb, 0, none⟩, xc)) (some ⟨g, 0, none⟩) sc ∧ Chg (foot pb (some ⟨g, 0, none⟩) M) w w') := by
      refine (change1_yes g (i * 3) (w.heap.size + 1) w.heap.size gb j bs.length xc y bs[j] _ (by omega) (by simp [go_sem, e1, lg]) (by simp [go_sem, e2, lg]) (by simp [go_sem]) (by simp [go_sem]) n1 hj (by simp [go_sem, hbc, lgb]) (by simp [go_sem, hbf, lgb]) (by simp [go_sem, hgf, lg]) hne).mono ?_
      rintro e w' ⟨rfl, rfl⟩
      refine ⟨true, rfl, rfl, (Hfin.out.chg (Chg.drew [] _) (by simp)).chg (Chg.drew [] _) (by simp), ?_⟩
      refine (((HA.out.trans (Chg.setCell _ ⟨gb, j, none⟩ _) ?_).trans (Chg.setCell _ ⟨g, i * 3 + 2, none⟩ _) ?_).trans (Chg.drew [] _) (by simp)).trans (Chg.drew [] _) (by simp)
      · intro z hz _; simp at hz; subst hz
        simp only [foot, List.mem_cons, List.mem_append, List.mem_flatMap]
        exact .inr (.inr ⟨_, List.mem_of_getElem? Hx.out, by simp [ob]⟩)
      · intro z hz _; simp at hz; subst hz; simp [foot, ob]
    have Hcall := Lib.hid hcall
    clear hfin hnd hx hb hown n2 n3 n4 hA hcall
    go_enter Try.func9, Try.ntmps9
    go_wp2_with fail
    refine (at_in2 pb M.length sc g i 24 _ _ _ _ (by simp [go_sem, hp, lp]) hi hm cf_change1 Hcall.out).mono ?_
    rintro e w1 ⟨b, rfl, rfl, hB, hC⟩
    go_wp2_with fail
    go_ret
    exact .inr ⟨j, rfl, n1, rfl, hj, rfl, hB, hC⟩
end Go.Proofs.Ytkgbdgnfidpelaa
