/- Sorting commits by times and dots: contracts. (printed by wip/tools/gensortc.py) -/
import Derived.Test.YthdmoplclllhjaaGreatGraT
namespace Go.Proofs.YthdmoplclllhjaaGreat
open Go.RowKit
set_option linter.unusedVariables false
set_option linter.unusedSimpArgs false

/-! sorting nothing -/
theorem insertionC_none (p : Option Addr) (cap : Nat) (fv : Value) (w : World) :
    Calls Tryz.prog 203 #[.slice p 0 cap, .int .i64 0, .int .i64 0, fv] w fun e w' => e = .returned (.tuple #[]) ∧ w' = w := by
  go_enter Tryz.func203, Tryz.ntmps203
  go_wp2
  refine wp_loop_rounds 1 ?_
  rw [rounds_succ]
  go_wp2
  go_end0
  exact ⟨rfl, rfl⟩
theorem pdqC_none (p : Option Addr) (cap : Nat) (lim : Int) (fv : Value) (w : World) :
    Calls Tryz.prog 179 #[.slice p 0 cap, .int .i64 0, .int .i64 0, .int .i64 lim, fv] w fun e w' => e = .returned (.tuple #[]) ∧ w' = w := by
  go_enter Tryz.func179, Tryz.ntmps179
  go_wp2
  refine wp_loop_rounds 1 ?_
  rw [rounds_succ]
  go_wp2_with (go_at_call 203; refine (insertionC_none _ _ _ _).mono ?_; rintro e w' ⟨rfl, rfl⟩)
  (try simp only [Exit.inBlock, Exit.then]); refine bodyPost_ret (results_none rfl _ _ _) rfl ?_
  exact ⟨rfl, rfl⟩
theorem sortC_none (p : Option Addr) (cap : Nat) (fv : Value) (w : World) :
    Calls Tryz.prog 146 #[.slice p 0 cap, fv] w fun e w' => e = .returned (.tuple #[]) ∧ w' = w := by
  go_enter Tryz.func146, Tryz.ntmps146
  go_wp2_with (first | (go_at_call 154; refine (bitsLen_zero _).mono ?_; rintro e w' ⟨rfl, rfl⟩) | (go_at_call 179; refine (pdqC_none _ _ _ _ _).mono ?_; rintro e w' ⟨rfl, rfl⟩))
  go_end0
  exact ⟨rfl, rfl⟩

/-! sorting commits -/
instance : Inhabited Cw := ⟨zeroCw⟩
def ltC (a b : Cm) : Prop := a.t < b.t ∨ a.t = b.t ∧ lessD a.d b.d = true
theorem ltC_irrefl (a : Cm) : ¬ ltC a a := by unfold ltC; rw [lessD_irrefl]; rintro (h | ⟨_, h⟩); omega; cases h
theorem ltC_trans {a b c : Cm} (h : ltC a b) (k : ltC b c) : ltC a c := by
  unfold ltC at *
  rcases h with h | ⟨h1, h2⟩
  · rcases k with k | ⟨k1, k2⟩
    · left; omega
    · left; omega
  · rcases k with k | ⟨k1, k2⟩
    · left; omega
    · right; exact ⟨by omega, lessD_trans h2 k2⟩
theorem ltC_total {a b : Cm} (h : a.d ≠ b.d) : ltC a b ∨ ltC b a := by
  unfold ltC
  rcases Int.lt_trichotomy a.t b.t with h1 | h1 | h1
  · exact .inl (.inl h1)
  · rcases lessD_total h with h2 | h2
    · exact .inl (.inr ⟨h1, h2⟩)
    · exact .inr (.inr ⟨h1.symm, h2⟩)
  · exact .inr (.inl h1)
def cmpC (u v : Cw) : Int := orI [cmpI u.c.t v.c.t, cmpDD u.c.d v.c.d]
theorem cmpC_neg (u v : Cw) : cmpC u v < 0 ↔ ltC u.c v.c := by
  simp only [cmpC, cmpI, orI, ltC, cmpDD_eq]
  rcases Int.lt_trichotomy u.c.t v.c.t with h | h | h
  · simp [h]
  · rw [← cmpD_neg]; by_cases e : cmpD u.c.d v.c.d = 0 <;> simp [h, e]
  · simp [h, show ¬ u.c.t < v.c.t by omega, show ¬ u.c.t = v.c.t by omega]
open Classical in
theorem ltC_of (a b : Cw) : ltOf cmpC a b = decide (ltC a.c b.c) := by
  unfold ltOf
  rw [Bool.eq_iff_iff]
  simp [cmpC_neg]
theorem swoC : Sort.SWO (ltOf cmpC) where
  irrefl x := by rw [ltC_of]; simpa using ltC_irrefl x.c
  trans x y z h1 h2 := by rw [ltC_of] at *; simp at *; exact ltC_trans h1 h2
  ntrans x y z h1 h2 := by
    rw [ltC_of] at *
    simp only [decide_eq_false_iff_not, ltC, lessD_iff] at *
    omega
theorem cmpC_any (u v : Cw) (w : World) : Calls Tryz.prog 85 #[.agg (cwcells u), .agg (cwcells v)] w fun e w' => e = .returned (.int .i64 (cmpC u v)) ∧ Grown w w' := by
  obtain ⟨⟨⟨⟨r, i⟩, s⟩, ps, vv, t, ⟨k, n, x, p, ds⟩⟩, qa, qc, va, vc, pa, pc, da, dc⟩ := u
  obtain ⟨⟨⟨⟨r', i'⟩, s'⟩, ps', vv', t', ⟨k', n', x', p', ds'⟩⟩, qa', qc', va', vc', pa', pc', da', dc'⟩ := v
  simp only [cwcells]
  go_enter Tryz.func85, Tryz.ntmps85
  go_wp2_with fail
  refine region_text [([0, 1, 2, 3, 5, 6, 7, 8], false), ([4], true), ([9, 10, 11, 12], false)] mixed (by kernel_rfl) ?_
  simp only [wpSegs, List.map_cons, List.map_nil, List.getD_cons_succ, List.getD_cons_zero]
  go_wp2_with fail
  refine (cmpu64 _ _ _).mono ?_
  rintro e w' ⟨rfl, rfl⟩
  go_wp2_with fail
  refine And.intro (Agree.refl _) ?_
  go_wp2_with fail
  refine (compareD_any r i s r' i' s' _).mono ?_
  rintro e w1 ⟨rfl, hg⟩
  go_wp2_with fail
  refine (or_any _ [cmpI t t', cmpDD ((r, i), s) ((r', i'), s')] _ (two_at (t := 3) ?hx) (by simp)).mono ?_
  case hx => exact heap_new _ _
  rintro e w' ⟨rfl, rfl⟩
  go_wp2_with fail
  refine And.intro (by kernel_rfl) ?_
  go_wp2_with fail
  go_ret
  exact ⟨rfl, (((((Grown.refl w).alloc _).alloc _).drew).trans hg).alloc _⟩
/-- commits in a row of its own -/
def OwnC (w : World) (base : Nat) (a : Option Addr) (c : Nat) (l : List Cw) : Prop := w.ownsRow base 46 11 (.slice a l.length c) l.length (ccs l)
theorem cmpLaysC (blk off size : Nat) (w : World) : CmpLays Tryz.prog 85 #[] ccel 11 cmpC blk off size w :=
  fun _ _ _ _ x y => cmpC_any x y _
theorem sortC_any (a : Option Addr) (c base : Nat) (l : List Cw) (w : World) (h : OwnC w base a c l) (hl : l.length ≤ 1000000) :
    Calls Tryz.prog 146 #[.slice a l.length c, .func (.func 85) #[] #[]] w fun e w' => e = .returned (.tuple #[]) ∧
      ∃ l', l'.length = l.length ∧ l'.Perm l ∧ l'.Pairwise (fun x y => ¬ ltC y.c x.c) ∧ OwnC w' base a c l' ∧ Chg (ob a) w w' := by
  by_cases h0 : l = []
  · subst h0
    exact (sortC_none a c _ w).mono fun e w' ⟨he, hw⟩ => ⟨he, [], rfl, .refl _, .nil, hw ▸ h, hw ▸ Chg.refl _ _⟩
  obtain ⟨blk, rfl⟩ : ∃ blk, a = some ⟨blk, 0, none⟩ := by
    rcases h.2 with ⟨h1, h2⟩ | ⟨g, cap, cur, h1, _⟩
    · simp at h1; exact absurd h1.2.1 h0
    · simp at h1; exact ⟨g, h1.1⟩
  obtain ⟨hH, hlt⟩ := holdsK_of ccel_len (by omega) h
  have hcon := AnyQ.slices_SortFunc Tryz.sortC 11 Tryz.isAgg46 Tryz.sizeOf46 ccel ccel_len (fun x v hv => ccel_one x v hv) cmpC swoC 85 #[] blk 0 c l.toArray w (enters_of Tryz.func85 (by kernel_rfl) rfl) (cmpLaysC blk 0 _ w) hH hlt (by simp; omega)
  change Calls Tryz.prog 146 _ _ _ at hcon
  have e1 : l.toArray.size = l.length := by simp
  rw [e1] at hcon
  refine hcon.mono ?_
  rintro e w' ⟨rfl, d', n, os, hp, hs, rfl⟩
  have hperm : d'.toList.Perm l := by have := permIn_list (d := l.toArray) (by rw [e1]; exact hp); simpa using this
  have hlen : d'.toList.length = l.length := hperm.length_eq
  obtain ⟨h1, h2⟩ := sorted_owns (n := n) (os := os) ccel_len (by omega) hlen h
  refine ⟨rfl, d'.toList, hlen, hperm, ?_, ?_, by simpa [ob] using h2⟩
  · have := sortedIn_list (lt := ltOf cmpC) (by rw [← hlen]; simp) hs
    refine this.imp fun {x y} hxy => ?_
    rw [ltC_of] at hxy
    simpa using hxy
  · unfold OwnC
    rw [hlen]
    simpa [ccs] using h1
/-- commits in their order -/
def SortedC (S : List Cm) : Prop := S.Pairwise ltC
theorem sortedC_of {l : List Cw} (hn : ((cms l).map (·.d)).Nodup) (h : l.Pairwise fun x y => ¬ ltC y.c x.c) : SortedC (cms l) := by
  unfold SortedC cms
  rw [List.pairwise_map]
  have h2 : l.Pairwise fun x y => x.c.d ≠ y.c.d := by
    have := hn
    unfold cms at this
    rw [List.map_map] at this
    exact List.pairwise_map.1 this
  refine (h.and h2).imp fun {x y} ⟨h1, h3⟩ => ?_
  rcases ltC_total h3 with e | e
  · exact e
  · exact absurd e h1
/-- slices.SortedFunc(maps.Values(m), ..) -/
theorem sortedFunc_vals (Bm b nn : Nat) (L : List Cw) (hL : ((cms L).map (·.d)).Nodup) (hok : ∀ v ∈ L, okD v.c.d) (w : World) (hm : w.heap[Bm]? = some (.cells #[.map (some b)] 77 (0, 0))) (hown : MapF w Tryz.prog 41 mkD b nn (fvW L)) (hN : nn ≤ 1000000) (hLn : L.length ≤ 1000000) :
    Calls Tryz.prog 83 #[.func (.func 147) #[] #[.pointer (some ⟨Bm, 0, none⟩)], .func (.func 85) #[] #[]] w fun e w' =>
      ∃ a c ss, e = .returned (.slice a (List.length ss) c) ∧ ss.Perm L ∧ SortedC (cms ss) ∧ OwnC w' w.heap.size a c ss ∧ Below w.heap.size w w' := by
  have Hc := Lib.hid (collectC_vals Bm b nn L hL hok w hm hown hN)
  clear hm hown
  go_enter Tryz.func83, Tryz.ntmps83
  go_wp2_with fail
  refine Hc.out.mono ?_
  rintro e w1 ⟨a, c, ss, rfl, hK, hrow, hB⟩
  have hK : ss.Perm L := hK
  have HB := Lib.hid hB
  have Hrow := Lib.hid (show OwnC w1 w.heap.size a c ss from hrow)
  have hl0 : ss.length ≤ 1000000 := by rw [hK.length_eq]; exact hLn
  have HK := Lib.hid hK
  clear hrow hB hK Hc
  go_wp2_with fail
  refine (sortC_any a c w.heap.size ss w1 Hrow.out hl0).mono ?_
  rintro e w2 ⟨rfl, l', hl, hp, hs, hrow2, hc2⟩
  have HR := Lib.hid hrow2
  have Hl := Lib.hid hl
  have HP := Lib.hid (hp.trans HK.out)
  have HS := Lib.hid (sortedC_of (l := l') (by
    have h1 : ((cms l').map (·.d)).Perm ((cms L).map (·.d)) := ((hp.trans HK.out).map _).map _
    exact h1.nodup_iff.2 hL) hs)
  have HB2 := Lib.hid (HB.out.trans (hc2.below HB.out.size (fun k hk => (owns_lt Hrow.out k hk).1)))
  clear hl hp hs hrow2 hc2
  go_wp2_with fail
  go_ret
  exact ⟨a, c, l', by rw [Hl.out]; rfl, HP.out, HS.out, HR.out, HB2.out⟩
end Go.Proofs.YthdmoplclllhjaaGreat
