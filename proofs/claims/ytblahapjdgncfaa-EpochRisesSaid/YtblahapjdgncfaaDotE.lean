/- slices.Collect, slices.SortFunc, slices.SortedFunc of a map's keys; dot.vector. -/
import Derived.Test.YtblahapjdgncfaaDotD
import Derived.Test.YtblahapjdgncfaaSortK
import Derived.Test.YtblahapjdgncfaaShelf
namespace Go.Proofs.Ytblahapjdgncfaa
open Go.RowKit Go.Shelf
set_option linter.unusedVariables false
set_option linter.unusedSimpArgs false

/-- slices.Collect(maps.Keys(m)) -/
theorem collect_keys (Bm b nn : Nat) (f : Ac → Option Value) (w : World) (hm : w.heap[Bm]? = some (.cells #[.map (some b)] 85 (0, 0))) (hown : MapF w Try.prog 31 mkA b nn f) (hN : nn ≤ 1000000) :
    Calls Try.prog 88 #[.func (.func 90) #[] #[.pointer (some ⟨Bm, 0, none⟩)]] w fun e w' =>
      ∃ a c ss, e = .returned (.slice a (List.length ss) c) ∧ KeysIn f nn ss ∧ w'.ownsRow w.heap.size 31 2 (.slice a ss.length c) ss.length (acells ss) ∧ Below w.heap.size w w' := by
  have hc := (callsIn_wide (n := 5)).1 (appendSeq_in Fence.wide 5 trivial rfl (by omega) _ _ trivial (enters_of Try.func90 (by kernel_rfl) rfl) (KeysIn f nn) nn hN w
    (keys_stops Fence.wide 4 trivial rfl (by omega) Bm b nn f w hm hown))
  have Hc := Lib.hid hc
  clear hc hm hown
  go_enter Try.func88, Try.ntmps88
  go_wp2_with fail
  refine Hc.out.mono ?_
  rintro e w' ⟨a, c, ss, rfl, h⟩
  go_wp2_with fail
  go_ret
  exact ⟨a, c, ss, rfl, h⟩

/-! sorting nothing -/
theorem insertionA_none (p : Option Addr) (cap : Nat) (fv : Value) (w : World) :
    Calls Try.prog 96 #[.slice p 0 cap, .int .i64 0, .int .i64 0, fv] w fun e w' => e = .returned (.tuple #[]) ∧ w' = w := by
  go_enter Try.func96, Try.ntmps96
  go_wp2
  refine wp_loop_rounds 1 ?_
  rw [rounds_succ]
  go_wp2
  go_end0
  exact ⟨rfl, rfl⟩
theorem pdqA_none (p : Option Addr) (cap : Nat) (lim : Int) (fv : Value) (w : World) :
    Calls Try.prog 94 #[.slice p 0 cap, .int .i64 0, .int .i64 0, .int .i64 lim, fv] w fun e w' => e = .returned (.tuple #[]) ∧ w' = w := by
  go_enter Try.func94, Try.ntmps94
  go_wp2
  refine wp_loop_rounds 1 ?_
  rw [rounds_succ]
  go_wp2_with (go_at_call 96; refine (insertionA_none _ _ _ _).mono ?_; rintro e w' ⟨rfl, rfl⟩)
  (try simp only [Exit.inBlock, Exit.then]); refine bodyPost_ret (results_none rfl _ _ _) rfl ?_
  exact ⟨rfl, rfl⟩
theorem bitsLen_zero (w : World) : Calls Try.prog 95 #[.int .u64 0] w fun e w' => e = .returned (.int .i64 (Lib.bitLen 0 : Nat)) ∧ w' = w :=
  Any.bits_Len (SlLaysF0.n15.bits (P := Try.prog) (ρ := Try.sortA_ren) { Try.sortA with }) 0 w (by omega) (by omega)
theorem sortA_none (p : Option Addr) (cap : Nat) (fv : Value) (w : World) :
    Calls Try.prog 89 #[.slice p 0 cap, fv] w fun e w' => e = .returned (.tuple #[]) ∧ w' = w := by
  go_enter Try.func89, Try.ntmps89
  go_wp2_with (first | (go_at_call 95; refine (bitsLen_zero _).mono ?_; rintro e w' ⟨rfl, rfl⟩) | (go_at_call 94; refine (pdqA_none _ _ _ _ _).mono ?_; rintro e w' ⟨rfl, rfl⟩))
  go_end0
  exact ⟨rfl, rfl⟩

/-! sorting actors -/
theorem ltA_of (a b : Ac) : ltOf cmpA a b = decide (ltA a b) := by
  unfold ltOf
  rw [Bool.eq_iff_iff]
  simp [cmpA_neg]
theorem swoA : Sort.SWO (ltOf cmpA) where
  irrefl x := by rw [ltA_of]; simpa using ltA_irrefl x
  trans x y z h1 h2 := by rw [ltA_of] at *; simp at *; exact ltA_trans h1 h2
  ntrans x y z h1 h2 := by rw [ltA_of] at *; simp at *; unfold ltA at *; omega
theorem cmpLaysA (blk off size : Nat) (w : World) : CmpLays Try.prog 67 #[] acell 2 cmpA blk off size w :=
  fun _ _ _ _ x y => compare_any x.1 x.2 y.1 y.2 _
theorem sortA_any (blk cap base : Nat) (l : List Ac) (w : World) (h : w.ownsRow base 31 2 (.slice (some ⟨blk, 0, none⟩) l.length cap) l.length (acells l)) (hl : l.length ≤ 1000000) :
    Calls Try.prog 89 #[.slice (some ⟨blk, 0, none⟩) l.length cap, .func (.func 67) #[] #[]] w fun e w' => e = .returned (.tuple #[]) ∧
      ∃ l', l'.Perm l ∧ l'.Pairwise (fun x y => ¬ ltA y x) ∧ w'.ownsRow base 31 2 (.slice (some ⟨blk, 0, none⟩) l.length cap) l.length (acells l') ∧ Chg [blk] w w' := by
  have hk : ∀ x, (acell x).length = 2 := fun _ => rfl
  obtain ⟨hH, hlt⟩ := holdsK_of hk (by omega) h
  have hcon := AnyQ.slices_SortFunc Try.sortA 2 Try.isAgg31 Try.sizeOf31 acell hk (fun x v hv => by simp [acell] at hv; rcases hv with rfl | rfl <;> rfl) cmpA swoA 67 #[] blk 0 cap l.toArray w (enters_of Try.func67 (by kernel_rfl) rfl) (cmpLaysA blk 0 _ w) hH hlt (by simp; omega)
  change Calls Try.prog 89 _ _ _ at hcon
  have e1 : l.toArray.size = l.length := by simp
  rw [e1] at hcon
  refine hcon.mono ?_
  rintro e w' ⟨rfl, d', n, os, hp, hs, rfl⟩
  have hperm : d'.toList.Perm l := by have := permIn_list (d := l.toArray) (by rw [e1]; exact hp); simpa using this
  have hlen : d'.toList.length = l.length := hperm.length_eq
  obtain ⟨h1, h2⟩ := sorted_owns (n := n) (os := os) hk (by omega) hlen h
  refine ⟨rfl, d'.toList, hperm, ?_, by simpa [acells] using h1, by simpa using h2⟩
  have := sortedIn_list (lt := ltOf cmpA) (by rw [← hlen]; simp) hs
  refine this.imp fun {x y} hxy => ?_
  rw [ltA_of] at hxy
  simpa using hxy

theorem rising_of_sorted {l : List Ac} (hn : l.Nodup) (h : l.Pairwise fun x y => ¬ ltA y x) : l.Pairwise ltA := by
  have h2 : l.Pairwise fun x y => x ≠ y := hn
  refine (h.and h2).imp fun {x y} ⟨h1, h3⟩ => ?_
  rcases ltA_total x y h3 with e | e
  · exact e
  · exact absurd e h1

/-- slices.SortedFunc(maps.Keys(m), compare) -/
theorem sortedFunc_keys (Bm b nn : Nat) (f : Ac → Option Value) (w : World) (hm : w.heap[Bm]? = some (.cells #[.map (some b)] 85 (0, 0))) (hown : MapF w Try.prog 31 mkA b nn f) (hN : nn ≤ 1000000) :
    Calls Try.prog 81 #[.func (.func 90) #[] #[.pointer (some ⟨Bm, 0, none⟩)], .func (.func 67) #[] #[]] w fun e w' =>
      ∃ a c ss, e = .returned (.slice a (List.length ss) c) ∧ KeysIn f nn ss ∧ ss.Pairwise ltA ∧ w'.ownsRow w.heap.size 31 2 (.slice a ss.length c) ss.length (acells ss) ∧ Below w.heap.size w w' := by
  have Hc := Lib.hid (collect_keys Bm b nn f w hm hown hN)
  clear hm hown
  go_enter Try.func81, Try.ntmps81
  go_wp2_with fail
  refine Hc.out.mono ?_
  rintro e w1 ⟨a, c, ss, rfl, hK, hrow, hB⟩
  clear Hc
  by_cases hss : ss = []
  · subst hss
    have Hrow := Lib.hid hrow
    clear hrow
    go_wp2_with (go_at_call 89; refine (sortA_none _ _ _ _).mono ?_; rintro e w' ⟨rfl, rfl⟩)
    go_ret
    exact ⟨a, c, [], rfl, hK, List.Pairwise.nil, Hrow.out, hB⟩
  · obtain ⟨g, rfl, hg⟩ : ∃ g, a = some ⟨g, 0, none⟩ ∧ w.heap.size ≤ g := by
      rcases hrow.2 with ⟨h1, h2⟩ | ⟨g, cap, cur, h1, h2, _⟩
      · exact absurd (List.eq_nil_of_length_eq_zero h2) hss
      · simp at h1; exact ⟨g, h1.1, h2⟩
    have Hs := Lib.hid (sortA_any g c w.heap.size ss w1 hrow (Nat.le_trans hK.1 hN))
    clear hrow
    go_wp2_with fail
    refine Hs.out.mono ?_
    rintro e w2 ⟨rfl, l', hp, hs, hrow2, hc2⟩
    have hl : l'.length = ss.length := hp.length_eq
    have Hrow := Lib.hid hrow2
    have Hl := Lib.hid hl
    clear Hs hrow2 hl
    go_wp2_with fail
    go_ret
    refine ⟨some ⟨g, 0, none⟩, c, l', by rw [Hl.out]; rfl, ⟨by rw [Hl.out]; exact hK.1, hp.nodup_iff.2 hK.2.1, fun a ha => hK.2.2.1 a (hp.mem_iff.1 ha), fun a ha => by rw [hp.mem_iff]; exact hK.2.2.2 a ha⟩, rising_of_sorted (hp.nodup_iff.2 hK.2.1) hs, by rw [Hl.out]; exact Hrow.out, hB.trans (hc2.below hB.size (by simpa using hg))⟩
end Go.Proofs.Ytblahapjdgncfaa
