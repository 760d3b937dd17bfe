/- Sorting dots, items: slices.SortFunc, by the shelf's contract. | fuse.both: the items of two leaves that are no tombs, rising: contract. -/
import Derived.Test.YtmabjghjkgicgaaGreatFuseA
import Derived.Test.YtmabjghjkgicgaaGreatShelf
/- FuseC -/
namespace Go.Proofs.YtmabjghjkgicgaaGreat
open Go.RowKit Go.Shelf
set_option linter.unusedVariables false
set_option linter.unusedSimpArgs false

/-! which is ahead, once more: blocks and draws came, nothing else -/
/-! sorting nothing -/
theorem insertionD_none (p : Option Addr) (cap : Nat) (fv : Value) (w : World) :
    Calls Tryz.prog 89 #[.slice p 0 cap, .int .i64 0, .int .i64 0, fv] w fun e w' => e = .returned (.tuple #[]) ∧ w' = w := by
  go_enter Tryz.func89, Tryz.ntmps89
  go_wp2
  refine wp_loop_rounds 1 ?_
  rw [rounds_succ]
  go_wp2
  go_end0
  exact ⟨rfl, rfl⟩
theorem pdqD_none (p : Option Addr) (cap : Nat) (lim : Int) (fv : Value) (w : World) :
    Calls Tryz.prog 82 #[.slice p 0 cap, .int .i64 0, .int .i64 0, .int .i64 lim, fv] w fun e w' => e = .returned (.tuple #[]) ∧ w' = w := by
  go_enter Tryz.func82, Tryz.ntmps82
  go_wp2
  refine wp_loop_rounds 1 ?_
  rw [rounds_succ]
  go_wp2_with (go_at_call 89; refine (insertionD_none _ _ _ _).mono ?_; rintro e w' ⟨rfl, rfl⟩)
  (try simp only [Exit.inBlock, Exit.then]); refine bodyPost_ret (results_none rfl _ _ _) rfl ?_
  exact ⟨rfl, rfl⟩
theorem bitsLen_zero (w : World) : Calls Tryz.prog 83 #[.int .u64 0] w fun e w' => e = .returned (.int .i64 (Lib.bitLen 0 : Nat)) ∧ w' = w :=
  Any.bits_Len (SlLaysF0.n15.bits (P := Tryz.prog) (ρ := Tryz.sortD_ren) { Tryz.sortD with }) 0 w (by omega) (by omega)
theorem sortD_none (p : Option Addr) (cap : Nat) (fv : Value) (w : World) :
    Calls Tryz.prog 67 #[.slice p 0 cap, fv] w fun e w' => e = .returned (.tuple #[]) ∧ w' = w := by
  go_enter Tryz.func67, Tryz.ntmps67
  go_wp2_with (first | (go_at_call 83; refine (bitsLen_zero _).mono ?_; rintro e w' ⟨rfl, rfl⟩) | (go_at_call 82; refine (pdqD_none _ _ _ _ _).mono ?_; rintro e w' ⟨rfl, rfl⟩))
  go_end0
  exact ⟨rfl, rfl⟩
/-! sorting dots -/
theorem ltD_of (a b : Dt) : ltOf cmpDD a b = lessD a b := by
  unfold ltOf
  rw [Bool.eq_iff_iff, decide_eq_true_iff, cmpDD_eq, cmpD_neg]
theorem swoD : Sort.SWO (ltOf cmpDD) where
  irrefl x := by rw [ltD_of]; exact lessD_irrefl x
  trans x y z h1 h2 := by rw [ltD_of] at *; exact lessD_trans h1 h2
  ntrans x y z h1 h2 := by
    rw [ltD_of] at *
    rw [← Bool.not_eq_true, lessD_iff] at *
    omega
theorem cmpLaysD (blk off size : Nat) (w : World) : CmpLays Tryz.prog 68 #[] dcell 3 cmpDD blk off size w :=
  fun _ _ _ _ x y => compareD_any x.1.1 x.1.2 x.2 y.1.1 y.1.2 y.2 _
theorem sortD_any (a : Option Addr) (c base : Nat) (l : List Dt) (w : World) (h : OwnD w base a c l) (hl : l.length ≤ 3000000) :
    Calls Tryz.prog 67 #[.slice a l.length c, .func (.func 68) #[] #[]] w fun e w' => e = .returned (.tuple #[]) ∧
      ∃ l', l'.length = l.length ∧ l'.Perm l ∧ l'.Pairwise (fun x y => lessD y x = false) ∧ OwnD w' base a c l' ∧ Chg (ob a) w w' := by
  by_cases h0 : l = []
  · subst h0
    exact (sortD_none a c _ w).mono fun e w' ⟨he, hw⟩ => ⟨he, [], rfl, .refl _, .nil, hw ▸ h, hw ▸ Chg.refl _ _⟩
  obtain ⟨blk, rfl⟩ : ∃ blk, a = some ⟨blk, 0, none⟩ := by
    rcases h.2 with ⟨h1, h2⟩ | ⟨g, cap, cur, h1, _⟩
    · simp at h1; exact absurd h1.2.1 h0
    · simp at h1; exact ⟨g, h1.1⟩
  obtain ⟨hH, hlt⟩ := holdsK_of dcell_len (by omega) h
  have hcon := AnyQ.slices_SortFunc Tryz.sortD 3 Tryz.isAgg44 Tryz.sizeOf44 dcell dcell_len (fun x v hv => by simp [dcell] at hv; rcases hv with rfl | rfl | rfl <;> rfl) cmpDD swoD 68 #[] blk 0 c l.toArray w (enters_of Tryz.func68 (by kernel_rfl) rfl) (cmpLaysD blk 0 _ w) hH hlt (by simp; omega)
  change Calls Tryz.prog 67 _ _ _ at hcon
  have e1 : l.toArray.size = l.length := by simp
  rw [e1] at hcon
  refine hcon.mono ?_
  rintro e w' ⟨rfl, d', n, os, hp, hs, rfl⟩
  have hperm : d'.toList.Perm l := by have := permIn_list (d := l.toArray) (by rw [e1]; exact hp); simpa using this
  have hlen : d'.toList.length = l.length := hperm.length_eq
  obtain ⟨h1, h2⟩ := sorted_owns (n := n) (os := os) dcell_len (by omega) hlen h
  refine ⟨rfl, d'.toList, hlen, hperm, ?_, ?_, by simpa [ob] using h2⟩
  · have := sortedIn_list (lt := ltOf cmpDD) (by rw [← hlen]; simp) hs
    refine this.imp fun {x y} hxy => ?_
    rwa [ltD_of] at hxy
  · unfold OwnD
    rw [hlen]
    simpa [dcells] using h1

/-! sorting items -/
end Go.Proofs.YtmabjghjkgicgaaGreat

/- FuseF -/
namespace Go.Proofs.YtmabjghjkgicgaaGreat
open Go.RowKit
set_option linter.unusedVariables false
set_option linter.unusedSimpArgs false

end Go.Proofs.YtmabjghjkgicgaaGreat
