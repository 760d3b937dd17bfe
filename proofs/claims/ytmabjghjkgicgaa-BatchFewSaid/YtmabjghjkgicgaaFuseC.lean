/- Sorting dots, items: slices.SortFunc, by the shelf's contract. -/
import Derived.Test.YtmabjghjkgicgaaFuseB
import Derived.Test.YtmabjghjkgicgaaShelf
namespace Go.Proofs.Ytmabjghjkgicgaa
open Go.RowKit Go.Shelf
set_option linter.unusedVariables false
set_option linter.unusedSimpArgs false

/-! which is ahead, once more: blocks and draws came, nothing else -/
theorem compareT_g (t : Int) (d : Dt) (u : Int) (o : Dt) (w : World) :
    Calls Try.prog 83 #[.int .u64 t, .agg #[.int .u8 d.1.1, .int .u32 d.1.2, .int .u64 d.2], .int .u64 u, .agg #[.int .u8 o.1.1, .int .u32 o.1.2, .int .u64 o.2]] w fun e w' => e = .returned (.int .i64 (cmpTD t d u o)) ∧ Grown w w' := by
  obtain ⟨⟨r, i⟩, s⟩ := d
  obtain ⟨⟨r', i'⟩, s'⟩ := o
  go_enter Try.func83, Try.ntmps83
  go_wp2_with fail
  refine region_text [([0, 1, 3, 4], false), ([2], true), ([5, 6, 7, 8], false)] mixed (by kernel_rfl) ?_
  simp only [wpSegs, List.map_cons, List.map_nil, List.getD_cons_succ, List.getD_cons_zero]
  go_wp2_with fail
  refine (cmpu64 _ _ _).mono ?_
  rintro e w1 ⟨rfl, rfl⟩
  go_wp2_with fail
  refine And.intro (Agree.refl _) ?_
  go_wp2_with fail
  refine (compareD_any _ _ _ _ _ _ _).mono ?_
  rintro e w1 ⟨rfl, hg⟩
  have HG : Hid (Grown w w1) := Lib.hid (((((Grown.refl w).alloc _).alloc _).drew).trans hg)
  clear hg
  go_wp2_with fail
  refine (or_any _ [cmpI t u, cmpDD ((r, i), s) ((r', i'), s')] _ (two_at (t := 3) ?hx) (by simp)).mono ?_
  case hx => first | exact heap_new _ _ | exact at_new3 _ _ _ _
  rintro e w2 ⟨rfl, rfl⟩
  go_wp2_with fail
  refine And.intro (by kernel_rfl) ?_
  go_wp2_with fail
  go_ret
  exact ⟨rfl, HG.out.alloc _⟩
theorem ahead_g (t : Int) (d : Dt) (u : Int) (o : Dt) (w : World) :
    Calls Try.prog 55 #[.int .u64 t, .agg #[.int .u8 d.1.1, .int .u32 d.1.2, .int .u64 d.2], .int .u64 u, .agg #[.int .u8 o.1.1, .int .u32 o.1.2, .int .u64 o.2]] w fun e w' => e = .returned (.bool (aheadT t d u o)) ∧ Grown w w' := by
  go_enter Try.func55, Try.ntmps55
  go_wp2_with fail
  refine (compareT_g t d u o _).mono ?_
  rintro e w1 ⟨rfl, hb⟩
  have HB : Hid (Grown w w1) := Lib.hid ((((Grown.refl w).alloc _).alloc _).trans hb)
  clear hb
  go_wp2_with fail
  go_ret
  exact ⟨by rw [← cmpTD_neg]; rfl, HB.out⟩
def cfI (x y : It) : Int := if aheadT x.t x.d y.t y.d = true then -1 else 1
theorem less_any (x y : It) (w : World) :
    Calls Try.prog 94 #[.agg #[.int .u64 x.t, .int .u8 x.d.1.1, .int .u32 x.d.1.2, .int .u64 x.d.2, .string x.x], .agg #[.int .u64 y.t, .int .u8 y.d.1.1, .int .u32 y.d.1.2, .int .u64 y.d.2, .string y.x]] w fun e w' => e = .returned (.int .i64 (cfI x y)) ∧ Grown w w' := by
  go_enter Try.func94, Try.ntmps94
  go_wp2_with fail
  refine (ahead_g x.t x.d y.t y.d _).mono ?_
  rintro e w1 ⟨rfl, hb⟩
  have HB : Hid (Grown w w1) := Lib.hid ((((Grown.refl w).alloc _).alloc _).trans hb)
  clear hb
  cases ha : aheadT x.t x.d y.t y.d with
  | true =>
    have He := Lib.hid (show cfI x y = -1 by simp [cfI, ha])
    clear ha
    go_wp2_with fail
    go_ret
    exact ⟨by rw [He.out]; rfl, HB.out⟩
  | false =>
    have He := Lib.hid (show cfI x y = 1 by simp [cfI, ha])
    clear ha
    go_wp2_with fail
    go_ret
    exact ⟨by rw [He.out]; rfl, HB.out⟩

/-! sorting nothing -/
theorem insertionD_none (p : Option Addr) (cap : Nat) (fv : Value) (w : World) :
    Calls Try.prog 109 #[.slice p 0 cap, .int .i64 0, .int .i64 0, fv] w fun e w' => e = .returned (.tuple #[]) ∧ w' = w := by
  go_enter Try.func109, Try.ntmps109
  go_wp2
  refine wp_loop_rounds 1 ?_
  rw [rounds_succ]
  go_wp2
  go_end0
  exact ⟨rfl, rfl⟩
theorem pdqD_none (p : Option Addr) (cap : Nat) (lim : Int) (fv : Value) (w : World) :
    Calls Try.prog 85 #[.slice p 0 cap, .int .i64 0, .int .i64 0, .int .i64 lim, fv] w fun e w' => e = .returned (.tuple #[]) ∧ w' = w := by
  go_enter Try.func85, Try.ntmps85
  go_wp2
  refine wp_loop_rounds 1 ?_
  rw [rounds_succ]
  go_wp2_with (go_at_call 109; refine (insertionD_none _ _ _ _).mono ?_; rintro e w' ⟨rfl, rfl⟩)
  (try simp only [Exit.inBlock, Exit.then]); refine bodyPost_ret (results_none rfl _ _ _) rfl ?_
  exact ⟨rfl, rfl⟩
theorem insertionI_none (p : Option Addr) (cap : Nat) (fv : Value) (w : World) :
    Calls Try.prog 136 #[.slice p 0 cap, .int .i64 0, .int .i64 0, fv] w fun e w' => e = .returned (.tuple #[]) ∧ w' = w := by
  go_enter Try.func136, Try.ntmps136
  go_wp2
  refine wp_loop_rounds 1 ?_
  rw [rounds_succ]
  go_wp2
  go_end0
  exact ⟨rfl, rfl⟩
theorem pdqI_none (p : Option Addr) (cap : Nat) (lim : Int) (fv : Value) (w : World) :
    Calls Try.prog 124 #[.slice p 0 cap, .int .i64 0, .int .i64 0, .int .i64 lim, fv] w fun e w' => e = .returned (.tuple #[]) ∧ w' = w := by
  go_enter Try.func124, Try.ntmps124
  go_wp2
  refine wp_loop_rounds 1 ?_
  rw [rounds_succ]
  go_wp2_with (go_at_call 136; refine (insertionI_none _ _ _ _).mono ?_; rintro e w' ⟨rfl, rfl⟩)
  (try simp only [Exit.inBlock, Exit.then]); refine bodyPost_ret (results_none rfl _ _ _) rfl ?_
  exact ⟨rfl, rfl⟩
theorem bitsLen_zero (w : World) : Calls Try.prog 86 #[.int .u64 0] w fun e w' => e = .returned (.int .i64 (Lib.bitLen 0 : Nat)) ∧ w' = w :=
  Any.bits_Len (SlLaysF0.n15.bits (P := Try.prog) (ρ := Try.sortD_ren) { Try.sortD with }) 0 w (by omega) (by omega)
theorem sortD_none (p : Option Addr) (cap : Nat) (fv : Value) (w : World) :
    Calls Try.prog 57 #[.slice p 0 cap, fv] w fun e w' => e = .returned (.tuple #[]) ∧ w' = w := by
  go_enter Try.func57, Try.ntmps57
  go_wp2_with (first | (go_at_call 86; refine (bitsLen_zero _).mono ?_; rintro e w' ⟨rfl, rfl⟩) | (go_at_call 85; refine (pdqD_none _ _ _ _ _).mono ?_; rintro e w' ⟨rfl, rfl⟩))
  go_end0
  exact ⟨rfl, rfl⟩
theorem sortI_none (p : Option Addr) (cap : Nat) (fv : Value) (w : World) :
    Calls Try.prog 93 #[.slice p 0 cap, fv] w fun e w' => e = .returned (.tuple #[]) ∧ w' = w := by
  go_enter Try.func93, Try.ntmps93
  go_wp2_with (first | (go_at_call 86; refine (bitsLen_zero _).mono ?_; rintro e w' ⟨rfl, rfl⟩) | (go_at_call 124; refine (pdqI_none _ _ _ _ _).mono ?_; rintro e w' ⟨rfl, rfl⟩))
  go_end0
  exact ⟨rfl, rfl⟩

/-! sorting dots -/
theorem ltD_of (a b : Dt) : ltOf cmpDD a b = lessD a b := by
  unfold ltOf
  rw [Bool.eq_iff_iff, decide_eq_true_iff, cmpDD_eq, cmpD_neg]
theorem swoD : Sort.SWO (ltOf cmpDD) where
  irrefl x := by rw [ltD_of]; exact lessD_irrefl x
  trans x y z h1 h2 := by rw [ltD_of] at *; exact lessD_trans h1 h2
  ntrans x y z h1 h2 := by
    rw [ltD_of] at *
    rw [← Bool.not_eq_true, lessD_iff] at *
    omega
theorem cmpLaysD (blk off size : Nat) (w : World) : CmpLays Try.prog 58 #[] dcell 3 cmpDD blk off size w :=
  fun _ _ _ _ x y => compareD_any x.1.1 x.1.2 x.2 y.1.1 y.1.2 y.2 _
theorem sortD_any (a : Option Addr) (c base : Nat) (l : List Dt) (w : World) (h : OwnD w base a c l) (hl : l.length ≤ 3000000) :
    Calls Try.prog 57 #[.slice a l.length c, .func (.func 58) #[] #[]] w fun e w' => e = .returned (.tuple #[]) ∧
      ∃ l', l'.length = l.length ∧ l'.Perm l ∧ l'.Pairwise (fun x y => lessD y x = false) ∧ OwnD w' base a c l' ∧ Chg (ob a) w w' := by
  by_cases h0 : l = []
  · subst h0
    exact (sortD_none a c _ w).mono fun e w' ⟨he, hw⟩ => ⟨he, [], rfl, .refl _, .nil, hw ▸ h, hw ▸ Chg.refl _ _⟩
  obtain ⟨blk, rfl⟩ : ∃ blk, a = some ⟨blk, 0, none⟩ := by
    rcases h.2 with ⟨h1, h2⟩ | ⟨g, cap, cur, h1, _⟩
    · simp at h1; exact absurd h1.2.1 h0
    · simp at h1; exact ⟨g, h1.1⟩
  obtain ⟨hH, hlt⟩ := holdsK_of dcell_len (by omega) h
  have hcon := AnyQ.slices_SortFunc Try.sortD 3 Try.isAgg31 Try.sizeOf31 dcell dcell_len (fun x v hv => by simp [dcell] at hv; rcases hv with rfl | rfl | rfl <;> rfl) cmpDD swoD 58 #[] blk 0 c l.toArray w (enters_of Try.func58 (by kernel_rfl) rfl) (cmpLaysD blk 0 _ w) hH hlt (by simp; omega)
  change Calls Try.prog 57 _ _ _ at hcon
  have e1 : l.toArray.size = l.length := by simp
  rw [e1] at hcon
  refine hcon.mono ?_
  rintro e w' ⟨rfl, d', n, os, hp, hs, rfl⟩
  have hperm : d'.toList.Perm l := by have := permIn_list (d := l.toArray) (by rw [e1]; exact hp); simpa using this
  have hlen : d'.toList.length = l.length := hperm.length_eq
  obtain ⟨h1, h2⟩ := sorted_owns (n := n) (os := os) dcell_len (by omega) hlen h
  refine ⟨rfl, d'.toList, hlen, hperm, ?_, ?_, by simpa [ob] using h2⟩
  · have := sortedIn_list (lt := ltOf cmpDD) (by rw [← hlen]; simp) hs
    refine this.imp fun {x y} hxy => ?_
    rwa [ltD_of] at hxy
  · unfold OwnD
    rw [hlen]
    simpa [dcells] using h1

/-! sorting items -/
theorem ltI_of (a b : It) : ltOf cfI a b = aheadT a.t a.d b.t b.d := by
  unfold ltOf cfI
  cases aheadT a.t a.d b.t b.d <;> simp
theorem swoI : Sort.SWO (ltOf cfI) where
  irrefl x := by rw [ltI_of]; exact aheadT_irrefl _ _
  trans x y z h1 h2 := by rw [ltI_of] at *; exact aheadT_trans h1 h2
  ntrans x y z h1 h2 := by
    rw [ltI_of] at *
    rw [← Bool.not_eq_true, aheadT_iff, lessD_iff] at *
    omega
instance : Inhabited It := ⟨⟨0, noDot, ByteArray.empty⟩⟩
theorem cmpLaysI (blk off size : Nat) (w : World) : CmpLays Try.prog 94 #[] icell 5 cfI blk off size w :=
  fun _ _ _ _ x y => less_any x y _
theorem sortI_any (a : Option Addr) (c base : Nat) (l : List It) (w : World) (h : OwnI w base a c l) (hl : l.length ≤ 3000000) :
    Calls Try.prog 93 #[.slice a l.length c, .func (.func 94) #[] #[]] w fun e w' => e = .returned (.tuple #[]) ∧
      ∃ l', l'.length = l.length ∧ l'.Perm l ∧ l'.Pairwise (fun x y => aheadT y.t y.d x.t x.d = false) ∧ OwnI w' base a c l' ∧ Chg (ob a) w w' := by
  by_cases h0 : l = []
  · subst h0
    exact (sortI_none a c _ w).mono fun e w' ⟨he, hw⟩ => ⟨he, [], rfl, .refl _, .nil, hw ▸ h, hw ▸ Chg.refl _ _⟩
  obtain ⟨blk, rfl⟩ : ∃ blk, a = some ⟨blk, 0, none⟩ := by
    rcases h.2 with ⟨h1, h2⟩ | ⟨g, cap, cur, h1, _⟩
    · simp at h1; exact absurd h1.2.1 h0
    · simp at h1; exact ⟨g, h1.1⟩
  obtain ⟨hH, hlt⟩ := holdsK_of icell_len (by omega) h
  have hcon := AnyQ.slices_SortFunc Try.sortI 5 Try.isAgg58 Try.sizeOf58 icell icell_len (fun x v hv => icell_one x v hv) cfI swoI 94 #[] blk 0 c l.toArray w (enters_of Try.func94 (by kernel_rfl) rfl) (cmpLaysI blk 0 _ w) hH hlt (by simp; omega)
  change Calls Try.prog 93 _ _ _ at hcon
  have e1 : l.toArray.size = l.length := by simp
  rw [e1] at hcon
  refine hcon.mono ?_
  rintro e w' ⟨rfl, d', n, os, hp, hs, rfl⟩
  have hperm : d'.toList.Perm l := by have := permIn_list (d := l.toArray) (by rw [e1]; exact hp); simpa using this
  have hlen : d'.toList.length = l.length := hperm.length_eq
  obtain ⟨h1, h2⟩ := sorted_owns (n := n) (os := os) icell_len (by omega) hlen h
  refine ⟨rfl, d'.toList, hlen, hperm, ?_, ?_, by simpa [ob] using h2⟩
  · have := sortedIn_list (lt := ltOf cfI) (by rw [← hlen]; simp) hs
    refine this.imp fun {x y} hxy => ?_
    rwa [ltI_of] at hxy
  · unfold OwnI
    rw [hlen]
    simpa [icells] using h1
end Go.Proofs.Ytmabjghjkgicgaa
