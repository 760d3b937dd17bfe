/- slices.Collect, slices.SortFunc, slices.SortedFunc of a map's keys; dot.vector. | dot.vector. | dot.both. | Contracts of package dot: Canon, Get, Has, Within, Join, Meet, Next. | code.Num. | Bytes as a string. | dot.Bytes; the reference's Same; Has; Next. | The reference's Same. | The page's examples hold (varvelaw03.known). -/
import Derived.Test.YtaandcblndldmaaGreatVec1
import Derived.Test.YtaandcblndldmaaGreatSortK
import Derived.Test.YtaandcblndldmaaGreatShelf
import Derived.Test.YtaandcblndldmaaGreatBase
import Derived.Laws.BitsAll
/- Vec2 -/
/- DotE -/
namespace Go.Proofs.YtaandcblndldmaaGreat
open Go.RowKit Go.Shelf
set_option linter.unusedVariables false
set_option linter.unusedSimpArgs false

/-- slices.Collect(maps.Keys(m)) -/
theorem collect_keys (Bm b nn : Nat) (f : Ac → Option Value) (w : World) (hm : w.heap[Bm]? = some (.cells #[.map (some b)] 150 (0, 0))) (hown : MapF w Tryz.prog 24 mkA b nn f) (hN : nn ≤ 1100000) :
    Calls Tryz.prog 198 #[.func (.func 200) #[] #[.pointer (some ⟨Bm, 0, none⟩)]] w fun e w' =>
      ∃ a c ss, e = .returned (.slice a (List.length ss) c) ∧ KeysIn f nn ss ∧ w'.ownsRow w.heap.size 24 2 (.slice a ss.length c) ss.length (acells ss) ∧ Below w.heap.size w w' := by
  have hc := (callsIn_wide (n := 5)).1 (appendSeq_in Fence.wide 5 trivial rfl (by omega) _ _ trivial (enters_of Tryz.func200 (by kernel_rfl) rfl) (KeysIn f nn) nn hN w
    (keys_stops Fence.wide 4 trivial rfl (by omega) Bm b nn f w hm hown))
  have Hc := Lib.hid hc
  clear hc hm hown
  go_enter Tryz.func198, Tryz.ntmps198
  go_wp2_with fail
  refine Hc.out.mono ?_
  rintro e w' ⟨a, c, ss, rfl, h⟩
  go_wp2_with fail
  go_ret
  exact ⟨a, c, ss, rfl, h⟩

/-! sorting nothing -/
theorem insertionA_none (p : Option Addr) (cap : Nat) (fv : Value) (w : World) :
    Calls Tryz.prog 241 #[.slice p 0 cap, .int .i64 0, .int .i64 0, fv] w fun e w' => e = .returned (.tuple #[]) ∧ w' = w := by
  go_enter Tryz.func241, Tryz.ntmps241
  go_wp2
  refine wp_loop_rounds 1 ?_
  rw [rounds_succ]
  go_wp2
  go_end0
  exact ⟨rfl, rfl⟩
theorem pdqA_none (p : Option Addr) (cap : Nat) (lim : Int) (fv : Value) (w : World) :
    Calls Tryz.prog 229 #[.slice p 0 cap, .int .i64 0, .int .i64 0, .int .i64 lim, fv] w fun e w' => e = .returned (.tuple #[]) ∧ w' = w := by
  go_enter Tryz.func229, Tryz.ntmps229
  go_wp2
  refine wp_loop_rounds 1 ?_
  rw [rounds_succ]
  go_wp2_with (go_at_call 241; refine (insertionA_none _ _ _ _).mono ?_; rintro e w' ⟨rfl, rfl⟩)
  (try simp only [Exit.inBlock, Exit.then]); refine bodyPost_ret (results_none rfl _ _ _) rfl ?_
  exact ⟨rfl, rfl⟩
theorem bitsLen_zero (w : World) : Calls Tryz.prog 121 #[.int .u64 0] w fun e w' => e = .returned (.int .i64 (Lib.bitLen 0 : Nat)) ∧ w' = w :=
  Any.bits_Len (SlLaysF0.n15.bits (P := Tryz.prog) (ρ := Tryz.sortA_ren) { Tryz.sortA with }) 0 w (by omega) (by omega)
theorem sortA_none (p : Option Addr) (cap : Nat) (fv : Value) (w : World) :
    Calls Tryz.prog 199 #[.slice p 0 cap, fv] w fun e w' => e = .returned (.tuple #[]) ∧ w' = w := by
  go_enter Tryz.func199, Tryz.ntmps199
  go_wp2_with (first | (go_at_call 121; refine (bitsLen_zero _).mono ?_; rintro e w' ⟨rfl, rfl⟩) | (go_at_call 229; refine (pdqA_none _ _ _ _ _).mono ?_; rintro e w' ⟨rfl, rfl⟩))
  go_end0
  exact ⟨rfl, rfl⟩

/-! sorting actors -/
theorem ltA_of (a b : Ac) : ltOf cmpA a b = decide (ltA a b) := by
  unfold ltOf
  rw [Bool.eq_iff_iff]
  simp [cmpA_neg]
theorem swoA : Sort.SWO (ltOf cmpA) where
  irrefl x := by rw [ltA_of]; simpa using ltA_irrefl x
  trans x y z h1 h2 := by rw [ltA_of] at *; simp at *; exact ltA_trans h1 h2
  ntrans x y z h1 h2 := by rw [ltA_of] at *; simp at *; unfold ltA at *; omega
theorem cmpLaysA (blk off size : Nat) (w : World) : CmpLays Tryz.prog 122 #[] acell 2 cmpA blk off size w :=
  fun _ _ _ _ x y => compare_any x.1 x.2 y.1 y.2 _
theorem sortA_any (blk cap base : Nat) (l : List Ac) (w : World) (h : w.ownsRow base 24 2 (.slice (some ⟨blk, 0, none⟩) l.length cap) l.length (acells l)) (hl : l.length ≤ 1100000) :
    Calls Tryz.prog 199 #[.slice (some ⟨blk, 0, none⟩) l.length cap, .func (.func 122) #[] #[]] w fun e w' => e = .returned (.tuple #[]) ∧
      ∃ l', l'.Perm l ∧ l'.Pairwise (fun x y => ¬ ltA y x) ∧ w'.ownsRow base 24 2 (.slice (some ⟨blk, 0, none⟩) l.length cap) l.length (acells l') ∧ Chg [blk] w w' := by
  have hk : ∀ x, (acell x).length = 2 := fun _ => rfl
  obtain ⟨hH, hlt⟩ := holdsK_of hk (by omega) h
  have hcon := AnyQ.slices_SortFunc Tryz.sortA 2 Tryz.isAgg24 Tryz.sizeOf24 acell hk (fun x v hv => by simp [acell] at hv; rcases hv with rfl | rfl <;> rfl) cmpA swoA 122 #[] blk 0 cap l.toArray w (enters_of Tryz.func122 (by kernel_rfl) rfl) (cmpLaysA blk 0 _ w) hH hlt (by simp; omega)
  change Calls Tryz.prog 199 _ _ _ at hcon
  have e1 : l.toArray.size = l.length := by simp
  rw [e1] at hcon
  refine hcon.mono ?_
  rintro e w' ⟨rfl, d', n, os, hp, hs, rfl⟩
  have hperm : d'.toList.Perm l := by have := permIn_list (d := l.toArray) (by rw [e1]; exact hp); simpa using this
  have hlen : d'.toList.length = l.length := hperm.length_eq
  obtain ⟨h1, h2⟩ := sorted_owns (n := n) (os := os) hk (by omega) hlen h
  refine ⟨rfl, d'.toList, hperm, ?_, by simpa [acells] using h1, by simpa using h2⟩
  have := sortedIn_list (lt := ltOf cmpA) (by rw [← hlen]; simp) hs
  refine this.imp fun {x y} hxy => ?_
  rw [ltA_of] at hxy
  simpa using hxy

theorem rising_of_sorted {l : List Ac} (hn : l.Nodup) (h : l.Pairwise fun x y => ¬ ltA y x) : l.Pairwise ltA := by
  have h2 : l.Pairwise fun x y => x ≠ y := hn
  refine (h.and h2).imp fun {x y} ⟨h1, h3⟩ => ?_
  rcases ltA_total x y h3 with e | e
  · exact e
  · exact absurd e h1

/-- slices.SortedFunc(maps.Keys(m), compare) -/
theorem sortedFunc_keys (Bm b nn : Nat) (f : Ac → Option Value) (w : World) (hm : w.heap[Bm]? = some (.cells #[.map (some b)] 150 (0, 0))) (hown : MapF w Tryz.prog 24 mkA b nn f) (hN : nn ≤ 1100000) :
    Calls Tryz.prog 148 #[.func (.func 200) #[] #[.pointer (some ⟨Bm, 0, none⟩)], .func (.func 122) #[] #[]] w fun e w' =>
      ∃ a c ss, e = .returned (.slice a (List.length ss) c) ∧ KeysIn f nn ss ∧ ss.Pairwise ltA ∧ w'.ownsRow w.heap.size 24 2 (.slice a ss.length c) ss.length (acells ss) ∧ Below w.heap.size w w' := by
  have Hc := Lib.hid (collect_keys Bm b nn f w hm hown hN)
  clear hm hown
  go_enter Tryz.func148, Tryz.ntmps148
  go_wp2_with fail
  refine Hc.out.mono ?_
  rintro e w1 ⟨a, c, ss, rfl, hK, hrow, hB⟩
  clear Hc
  by_cases hss : ss = []
  · subst hss
    have Hrow := Lib.hid hrow
    clear hrow
    go_wp2_with (go_at_call 199; refine (sortA_none _ _ _ _).mono ?_; rintro e w' ⟨rfl, rfl⟩)
    go_ret
    exact ⟨a, c, [], rfl, hK, List.Pairwise.nil, Hrow.out, hB⟩
  · obtain ⟨g, rfl, hg⟩ : ∃ g, a = some ⟨g, 0, none⟩ ∧ w.heap.size ≤ g := by
      rcases hrow.2 with ⟨h1, h2⟩ | ⟨g, cap, cur, h1, h2, _⟩
      · exact absurd (List.eq_nil_of_length_eq_zero h2) hss
      · simp at h1; exact ⟨g, h1.1, h2⟩
    have Hs := Lib.hid (sortA_any g c w.heap.size ss w1 hrow (Nat.le_trans hK.1 hN))
    clear hrow
    go_wp2_with fail
    refine Hs.out.mono ?_
    rintro e w2 ⟨rfl, l', hp, hs, hrow2, hc2⟩
    have hl : l'.length = ss.length := hp.length_eq
    have Hrow := Lib.hid hrow2
    have Hl := Lib.hid hl
    clear Hs hrow2 hl
    go_wp2_with fail
    go_ret
    refine ⟨some ⟨g, 0, none⟩, c, l', by rw [Hl.out]; rfl, ⟨by rw [Hl.out]; exact hK.1, hp.nodup_iff.2 hK.2.1, fun a ha => hK.2.2.1 a (hp.mem_iff.1 ha), fun a ha => by rw [hp.mem_iff]; exact hK.2.2.2 a ha⟩, rising_of_sorted (hp.nodup_iff.2 hK.2.1) hs, by rw [Hl.out]; exact Hrow.out, hB.trans (hc2.below hB.size (by simpa using hg))⟩
end Go.Proofs.YtaandcblndldmaaGreat

/- DotF -/
namespace Go.Proofs.YtaandcblndldmaaGreat
open Go.RowKit
set_option linter.unusedVariables false
set_option linter.unusedSimpArgs false

theorem Tryz.info_dot : (Tryz.prog.info? 49).map (fun i => (i.zero, i.size, i.bytes)) = some (some (.agg #[.int .u8 0, .int .u32 0, .int .u64 0]), 3, 16) := by kernel_rfl

theorem keys_any (mb : Option Nat) (w : World) : Calls Tryz.prog 149 #[.map mb] w fun e w' => e = .returned (.func (.func 200) #[] #[.pointer (some ⟨w.heap.size, 0, none⟩)]) ∧ w' = w.alloc (.cells #[.map mb] 150) := by
  go_enter Tryz.func149, Tryz.ntmps149
  go_wp2
  go_ret
  exact ⟨rfl, rfl⟩

theorem acells_at {v : List Ac} {k : Nat} {d : Ac} (h : v[k]? = some d) : ∀ j, j < 2 → (acells v)[k * 2 + j]? = (acell d)[j]? := fun j hj => flatMap_at (enc := acell) (k := 2) (fun _ => rfl) v k j d h hj
theorem Sl.actor_at {w : World} {a : Option Addr} {n c : Nat} {v : List Ac} (h : Sl w 2 a n c (acells v)) {k : Nat} {d : Ac} (hd : v[k]? = some d) :
    ∃ ad, a = some ad ∧ w.cell? (ad.add (k * 2)) = some (.int .u8 d.1) ∧ w.cell? ⟨(ad.add (k * 2)).block, (ad.add (k * 2)).off + 1, none⟩ = some (.int .u32 d.2) := by
  have hk : k < v.length := (List.getElem?_eq_some_iff.1 hd).1
  obtain ⟨hl, _, _, ⟨_, h0, _⟩ | ⟨ad, rfl, hc⟩⟩ := h
  · rw [acells_length] at hl; omega
  · have h0 := hc (k * 2) (.int .u8 d.1) (by simpa [acell] using acells_at hd 0 (by omega))
    have h1 := hc (k * 2 + 1) (.int .u32 d.2) (by simpa [acell] using acells_at hd 1 (by omega))
    rw [← Go.Deep.add_add] at h1
    exact ⟨ad, rfl, h0, h1⟩

/-- what is laid of the first k keys -/
def laid (g : Ac → Int) (ss : List Ac) (k : Nat) : List Dt := ((ss.take k).filter fun a => decide (0 < g a)).map fun a => (a, g a)
theorem laid_succ {g : Ac → Int} {ss : List Ac} {k : Nat} {x : Ac} (h : ss[k]? = some x) : laid g ss (k + 1) = if 0 < g x then laid g ss k ++ [(x, g x)] else laid g ss k := by
  unfold laid
  rw [take_snoc' h, List.filter_append, List.map_append]
  by_cases hx : 0 < g x <;> simp [hx]
theorem laid_length (g : Ac → Int) (ss : List Ac) (k : Nat) : (laid g ss k).length ≤ k := by
  unfold laid
  rw [List.length_map]
  exact Nat.le_trans (List.length_filter_le _ _) (List.length_take_le _ _)

set_option maxHeartbeats 1000000 in
theorem vector_any (b n : Nat) (g : Ac → Int) (w : World) (hN : NumsAt w b n g) (hg : okN g) (hn : n ≤ 1100000) :
    Calls Tryz.prog 109 #[.map (some b)] w fun e w' => ∃ a c, e = .returned (.slice a (vecOf g).length c) ∧ w'.ownsRow w.heap.size 49 3 (.slice a (vecOf g).length c) (vecOf g).length (dcells (vecOf g)) ∧ Below w.heap.size w w' := by
  obtain ⟨i0, hi0, hz0, hz1, hz2⟩ := info_parts Tryz.info_dot
  have HN := Lib.hid hN
  have Hg := Lib.hid hg
  obtain ⟨f, hM, hf⟩ := hN
  have HM := Lib.hid hM
  have Hf := Lib.hid hf
  clear hM hf hg
  go_enter Tryz.func109, Tryz.ntmps109
  go_wp2_with (go_at_call 149; refine (keys_any _ _).mono ?_; rintro e w' ⟨rfl, rfl⟩)
  refine (sortedFunc_keys w.heap.size b n f _ (heap_new _ _) (HM.out.alloc _) hn).mono ?_
  rintro e w2 ⟨a, c, ss, rfl, hK, hR, hrow, hB⟩
  obtain ⟨_, hz, hB2⟩ := new1 hB
  have HN2 := Lib.hid (HN.out.below hB2)
  have Hrow := Lib.hid (Sl.of_owns hrow)
  have hlen := hK.1
  have HR := Lib.hid hR
  have HK := Lib.hid hK
  have HB2 := Lib.hid hB2
  clear hK hR hrow hB hB2 HN HM
  go_wp2_with fail
  go_loopw [2, 9] (fun v i wr => ∃ (k : Nat) (va : Option Addr) (vc : Nat), k ≤ ss.length ∧ i = .int .i64 k ∧ v = .slice va (laid g ss k).length vc ∧ wr.ownsRow w2.heap.size 49 3 (.slice va (laid g ss k).length vc) (laid g ss k).length (dcells (laid g ss k)) ∧ Below w2.heap.size w2 wr) (fun _ i _ => ss.length - (intOf i).toNat)
  case atStart => exact ⟨0, none, 0, Nat.zero_le _, rfl, rfl, World.ownsRow_nil _ _ _ _, Below.refl _ _⟩
  case round =>
    obtain ⟨k, va, vc, hk, rfl, rfl, hown, hbel⟩ := hrel
    have Hown := Lib.hid hown
    have Hbel := Lib.hid hbel
    have hs := hbel.size
    have hll := laid_length g ss k
    clear hown hbel
    by_cases hlt : k < ss.length
    · obtain ⟨⟨r, i⟩, hx⟩ : ∃ x, ss[k]? = some x := ⟨ss[k], by simp [hlt]⟩
      have hok := HK.out.2.2.1 _ (List.mem_of_getElem? hx)
      obtain ⟨ad, had, c0, c1⟩ := Sl.actor_at (Hrow.out.below Hbel.out) hx
      have had' := had
      subst had'
      have Hl := Lib.hid (laid_succ (g := g) hx)
      dsimp only at c0 c1
      have HN3 := Lib.hid ((HN2.out.below Hbel.out).alloc (.cells #[.int .u8 r, .int .u32 i] 24))
      clear hx had
      by_cases hp : 0 < g (r, i)
      · have Hl' : Hid (laid g ss (k + 1) = laid g ss k ++ [((r, i), g (r, i))]) := by have := Hl.out; rw [if_pos hp] at this; exact Lib.hid this
        clear Hl
        go_wp2_with (at_lookup; go_must (refine wpList_look_N rfl _ _ rfl _ _ _ rfl HN3.out r i rfl hok ?_))
        refine region_text [([0, 1, 2, 3], false), ([4], true), ([5, 6, 7, 8], false)] mixed (by kernel_rfl) ?_
        simp only [wpSegs, List.map_cons, List.map_nil, List.getD_cons_succ, List.getD_cons_zero]
        go_wp2_with (at_lookup; go_must (refine wpList_look_N rfl _ _ rfl _ _ _ rfl HN3.out r i rfl hok ?_))
        refine And.intro (Agree.refl _) ?_
        go_wp2_with (at_builtin; go_must (refine wpList_append_sl rfl _ _ 28 rfl w2.heap.size 49 i0 (.agg #[.int .u8 0, .int .u32 0, .int .u64 0]) 3 16 Tryz.underlying28 hi0 hz0 hz1 hz2 rfl (by decide) va (laid g ss k).length vc (dcells (laid g ss k)) rfl ?c0 (some ⟨wr.heap.size + 1, 0, none⟩) 1 1 (dcell ((r, i), g (r, i))) rfl ?c1 ?c2 ?c3 ?c4 ?c5 ?_))
        case c0 => exact (Hown.out.alloc _).alloc _
        case c1 => exact Sl.blk (C := #[.int .u8 r, .int .u32 i, .int .u64 (g (r, i))]) (heap_new2 wr _ _) rfl (by decide)
        case c2 => exact dcells_one [((r, i), g (r, i))]
        case c3 => unfold maxLen; omega
        case c4 => omega
        case c5 => simp; omega
        intro a' c' w3 hown3 hchg hob
        have Ho3 : Hid (w3.ownsRow w2.heap.size 49 3 (.slice a' (laid g ss (k + 1)).length c') (laid g ss (k + 1)).length (dcells (laid g ss (k + 1)))) := by
          rw [Hl'.out, dcells_snoc]; exact Lib.hid (by simpa using hown3)
        have Hb3 : Hid (Below w2.heap.size w2 w3) := Lib.hid ((((Hbel.out.alloc hs _).alloc (by simp; omega) _).drew).trans (hchg.below (by simp; omega) (fun x hx => (owns_lt Hown.out x hx).1)))
        clear hown3 hchg hob
        go_wp2_with fail
        refine And.intro (by kernel_rfl) ?_
        go_wp2_with fail
        go_roundw
        case rel => exact ⟨k + 1, a', c', by omega, by go_num, by rw [Hl'.out]; simp, Ho3.out, Hb3.out⟩
        case measure => simp [intOf]; omega
      · have Hl' : Hid (laid g ss (k + 1) = laid g ss k) := by have := Hl.out; rw [if_neg hp] at this; exact Lib.hid this
        clear Hl
        go_wp2_with (at_lookup; go_must (refine wpList_look_N rfl _ _ rfl _ _ _ rfl HN3.out r i rfl hok ?_))
        go_roundw
        case rel => exact ⟨k + 1, va, vc, by omega, by go_num, by rw [Hl'.out], by rw [Hl'.out]; exact Hown.out.alloc _, Hbel.out.alloc hs _⟩
        case measure => simp [intOf]; omega
    · have he : laid g ss k = vecOf g := by
        unfold laid
        rw [List.take_of_length_le (by omega)]
        refine vecOf_keys Hg.out HR.out fun a ha => ?_
        have hoka : okA a := by
          have h1 := (mem_allA a).1 ((Hg.out a).2.2 ha)
          have h2 := (mayA_iff a).1 h1.2
          unfold okA; omega
        rw [HK.out.2.2.2 a hoka]
        rcases Hf.out a hoka with ⟨_, h⟩ | h
        · omega
        · rw [h]; rfl
      have Ho : Hid (wr.ownsRow w2.heap.size 49 3 (.slice va (vecOf g).length vc) (vecOf g).length (dcells (vecOf g))) := by have := Hown.out; rw [he] at this; exact Lib.hid this
      have He := Lib.hid he
      clear he Hown
      go_wp2_with fail
      go_ret
      exact ⟨va, vc, by rw [← He.out]; rfl, owns_base Ho.out (by omega), HB2.out.trans (Hbel.out.mono (by omega))⟩
end Go.Proofs.YtaandcblndldmaaGreat

/- DotG -/
namespace Go.Proofs.YtaandcblndldmaaGreat
open Go.RowKit
set_option linter.unusedVariables false
set_option linter.unusedSimpArgs false

theorem join1_any (x y : Int) (w : World) : Calls Tryz.prog 112 #[.int .u64 x, .int .u64 y] w fun e w' => e = .returned (.int .u64 (max x y)) ∧ w = w' := by
  go_enter Tryz.func112, Tryz.ntmps112
  go_wp2
  go_ret
  exact ⟨rfl, rfl⟩
theorem meet1_any (x y : Int) (w : World) : Calls Tryz.prog 186 #[.int .u64 x, .int .u64 y] w fun e w' => e = .returned (.int .u64 (min x y)) ∧ w = w' := by
  go_enter Tryz.func186, Tryz.ntmps186
  go_wp2
  go_ret
  exact ⟨rfl, rfl⟩

/-- what is laid while the first map is gone through; while the second is -/
def part1 (op : Int → Int → Int) (fa : Ac → Option Value) (f g : Ac → Int) (left : Ac → Bool) (x : Ac) : Int := if (fa x).isSome = true ∧ left x = false then op (f x) (g x) else 0
def part2 (op : Int → Int → Int) (fa fb : Ac → Option Value) (f g : Ac → Int) (left : Ac → Bool) (x : Ac) : Int := if (fa x).isSome = true ∨ ((fb x).isSome = true ∧ left x = false) then op (f x) (g x) else 0
theorem part1_step {op : Int → Int → Int} {fa : Ac → Option Value} {f g : Ac → Int} {left : Ac → Bool} {c : Ac} {v : Value} (hv : fa c = some v) (x : Ac) :
    (if x = c then op (f c) (g c) else part1 op fa f g left x) = part1 op fa f g (fun y => left y && !decide (y = c)) x := by
  unfold part1
  by_cases e : x = c
  · subst e; simp [hv]
  · simp [e]
theorem part2_step {op : Int → Int → Int} {fa fb : Ac → Option Value} {f g : Ac → Int} {left : Ac → Bool} {c : Ac} {v : Value} (hv : fb c = some v) (x : Ac) :
    (if x = c then op (f c) (g c) else part2 op fa fb f g left x) = part2 op fa fb f g (fun y => left y && !decide (y = c)) x := by
  unfold part2
  by_cases e : x = c
  · subst e; simp [hv]
  · simp [e]

theorem RangeF.drew' {w : World} {P : Program} {k : TypeId} {α : Type} {mk : α → Value} {b n r : Nat} {f : α → Option Value} {left : α → Bool} {cnt : Nat} (h : RangeF w P k mk b r n f left cnt) : RangeF w.drew P k mk b r n f left cnt := h.chg (F := []) (Chg.drew _ _) (by simp) (by simp)
set_option maxHeartbeats 2000000 in
theorem both_any (fn : Nat) (op : Int → Int → Int) (h00 : op 0 0 = 0) (hop : ∀ x y w, Calls Tryz.prog fn #[.int .u64 x, .int .u64 y] w fun e w' => e = .returned (.int .u64 (op x y)) ∧ w = w')
    (he : ∀ args w, (callFunc fn args).run Tryz.prog w = .ok (.enter fn args) w)
    (ba bb na nb : Nat) (f g : Ac → Int) (w : World) (hA : NumsAt w ba na f) (hB : NumsAt w bb nb g) (hna : na ≤ 1100000) (hnb : nb ≤ 1100000) :
    Calls Tryz.prog 110 #[.map (some ba), .map (some bb), .func (.func fn) #[] #[]] w fun e w' => ∃ b n, e = .returned (.map (some b)) ∧ w.heap.size ≤ b ∧ n ≤ na + nb ∧ NumsAt w' b n (fun x => op (f x) (g x)) ∧ Below w.heap.size w w' := by
  have hmm := @run_makeMap Tryz.prog
  have la := hA.lt
  have lb := hB.lt
  have HA := Lib.hid hA
  have HB := Lib.hid hB
  have Hop := Lib.hid hop
  obtain ⟨fa, hMa, hfa⟩ := hA
  obtain ⟨fb, hMb, hfb⟩ := hB
  have HMa := Lib.hid hMa
  have HMb := Lib.hid hMb
  have Hfa := Lib.hid hfa
  have Hfb := Lib.hid hfb
  clear hMa hMb hfa hfb hop
  go_enter Tryz.func110, Tryz.ntmps110
  go_wp2_with (at_range; go_must (refine wpList_range_F keysA rfl _ _ rfl _ Tryz.underlying150 ba na fa rfl (HMa.out.alloc _) ?_))
  intro w0 cnt0 hrg0 hcn0 hg0 hs0
  have hb0 : Below w.heap.size w w0 := ((Below.refl _ w).alloc (Nat.le_refl _) _).grown hg0 (by simp) (by simp)
  have hN0 : NumsAt w0 w.heap.size 0 (part1 op fa f g (fun a => (fa a).isSome)) := by
    refine ((NumsAt.made w).chg (F := []) (Chg.grown hg0) (by simp)).congr fun a _ => ?_
    unfold part1
    rw [if_neg (fun h => by have h1 := h.1; have h2 := h.2; dsimp only at h2; rw [h1] at h2; cases h2)]
  have HN0 := Lib.hid hN0
  have Hb0 := Lib.hid hb0
  have Hrg0 := Lib.hid hrg0
  clear hg0 hs0 hN0 hb0 hrg0 hmm
  go_wp2_with fail
  go_loopw [8, 9] (fun _ _ wr => ∃ (left : Ac → Bool) (cnt n : Nat), RangeF wr Tryz.prog 24 mkA ba (w.heap.size + 1) na fa left cnt ∧ n + cnt ≤ na ∧ NumsAt wr w.heap.size n (part1 op fa f g left) ∧ Below w.heap.size w wr) (fun _ _ wr => wr.rangeLeft ba (w.heap.size + 1))
  case atStart => exact ⟨_, cnt0, 0, Hrg0.out, by omega, HN0.out, Hb0.out⟩
  case round =>
    obtain ⟨left, cnt, n, hrg, hcn, hN, hb⟩ := hrel
    have Hrg := Lib.hid hrg
    have HN := Lib.hid hN
    have Hb := Lib.hid hb
    have hs := hb.size
    have hrl := hrg.lt
    clear hN hb HN0 Hb0 Hrg0 hcn0
    go_wp2_with (at_next; go_must (refine wpList_next_A rfl _ rfl ba (w.heap.size + 1) na fa left cnt rfl hrg ?_ ?_))
    · intro hl
      clear hrg
      go_wp2_with (at_range; go_must (refine wpList_range_F keysA rfl _ _ rfl _ Tryz.underlying150 bb nb fb rfl (HMb.out.below Hb.out) ?_))
      intro v0 ct0 hrg0 hct0 hg0 hs0
      have hv0 : Below w.heap.size w v0 := Hb.out.grown hg0 hs (by simp)
      have hN0 : NumsAt v0 w.heap.size n (part2 op fa fb f g (fun a => (fb a).isSome)) := by
        refine (HN.out.chg (F := []) (Chg.grown hg0) (by simp)).congr fun a ha => ?_
        unfold part1 part2
        rw [hl a ha]
        by_cases h : (fa a).isSome = true
        · rw [if_pos ⟨h, rfl⟩, if_pos (.inl h)]
        · rw [if_neg (fun k => h k.1), if_neg (fun k => by
            rcases k with k | ⟨k1, k2⟩
            · exact h k
            · dsimp only at k2; rw [k1] at k2; cases k2)]
      have KN0 := Lib.hid hN0
      have Kb0 := Lib.hid hv0
      have Krg0 := Lib.hid hrg0
      have Hl := Lib.hid hl
      have hsz0 : wr.heap.size < v0.heap.size := by omega
      clear hg0 hs0 hN0 hv0 hrg0 hl
      go_wp2_with fail
      go_loopw [10, 11] (fun _ _ wx => ∃ (left : Ac → Bool) (cnt m : Nat), RangeF wx Tryz.prog 24 mkA bb wr.heap.size nb fb left cnt ∧ m + cnt ≤ na + nb ∧ NumsAt wx w.heap.size m (part2 op fa fb f g left) ∧ Below w.heap.size w wx) (fun _ _ wx => wx.rangeLeft bb wr.heap.size)
      case atStart => exact ⟨_, ct0, n, Krg0.out, by omega, KN0.out, Kb0.out⟩
      case round =>
        obtain ⟨left2, cnt2, m, hrg, hcm, hN, hb⟩ := hrel
        have Krg := Lib.hid hrg
        have KN := Lib.hid hN
        have Kb := Lib.hid hb
        have ks := hb.size
        have krl := hrg.lt
        clear hN hb KN0 Kb0 Krg0 hct0
        go_wp2_with (at_next; go_must (refine wpList_next_A rfl _ rfl _ _ _ _ _ _ rfl hrg ?_ ?_))
        · intro hl2
          clear hrg
          have KNe := Lib.hid (KN.out.congr (g' := fun x => op (f x) (g x)) fun a ha => by
            unfold part2
            rw [hl2 a ha]
            by_cases h : (fa a).isSome = true ∨ ((fb a).isSome = true ∧ false = false)
            · rw [if_pos h]
            · rw [if_neg h]
              have h1 : f a = 0 := by
                rcases Hfa.out a ha with ⟨_, e⟩ | e
                · exact e
                · exact absurd (.inl (by rw [e]; rfl)) h
              have h2 : g a = 0 := by
                rcases Hfb.out a ha with ⟨_, e⟩ | e
                · exact e
                · exact absurd (.inr ⟨by rw [e]; rfl, rfl⟩) h
              rw [h1, h2, h00])
          clear hl2
          go_wp2_with fail
          go_ret
          exact ⟨w.heap.size, m, rfl, Nat.le_refl _, by omega, KNe.out, Kb.out⟩
        · intro rr ii v w1 cnt1 hX hen
          clear hrg
          have hok := hX.ok
          have hlt1 := hX.lt
          obtain rfl : v = .int .u64 (g (rr, ii)) := by
            have h := hX.val
            rcases Hfb.out _ hok with ⟨h1, _⟩ | h1
            · rw [h1] at h; cases h
            · rw [h1] at h; exact (Option.some.inj h).symm
          have KX := Lib.hid hX
          have hc1 := Chg.grown hX.grown
          simp only [Option.toList_some] at hc1
          have hs1 := hc1.size
          have KN1 := Lib.hid ((KN.out.chg hc1 (by simp; omega)).alloc (.cells #[.int .u8 rr, .int .u32 ii] 24))
          have hb1 : Below w.heap.size w w1 := Kb.out.trans (hc1.below ks (by simpa using hs))
          have KA1 := Lib.hid ((HA.out.below hb1).alloc (.cells #[.int .u8 rr, .int .u32 ii] 24))
          have Krg1 := Lib.hid (hX.rng.alloc (.cells #[.int .u8 rr, .int .u32 ii] 24))
          have Kb1 := Lib.hid (hb1.alloc (by omega) (.cells #[.int .u8 rr, .int .u32 ii] 24))
          clear hX hc1 hb1
          go_wp2_with fail
          refine region_text [([0, 1, 2, 3, 4, 6], false), ([5], true), ([7], true), ([8], false)] mixed (by kernel_rfl) ?_
          simp only [wpSegs, List.map_cons, List.map_nil, List.getD_cons_succ, List.getD_cons_zero]
          go_wp2_with (at_lookup; go_must (refine wpList_look_N rfl _ _ rfl _ _ _ rfl KA1.out rr ii rfl hok ?_))
          refine And.intro (Agree.refl _) ?_
          go_wp2_with fail
          refine (Hop.out _ _ _).mono ?_
          rintro e w' ⟨rfl, rfl⟩
          go_wp2_with fail
          refine And.intro (Agree.refl _) ?_
          go_wp2_with (at_mapUpdate; go_must (refine wpList_update_N rfl _ _ _ rfl _ _ _ rfl KN1.out (by omega) rr ii _ rfl hok rfl ?_))
          intro w2 hN2 hC2
          have KN2 := Lib.hid (hN2.congr fun a _ => part2_step KX.out.val a)
          have Krg2 := Lib.hid (Krg1.out.drew'.chg hC2 (by simp; omega) (by simp; omega))
          have Kb2 := Lib.hid (Kb1.out.drew.trans (hC2.below (by simp; omega) (by simp)))
          clear hN2 hC2 hen
          go_wp2_with fail
          refine And.intro (by kernel_rfl) ?_
          go_wp2_with fail
          go_roundw
          case rel => exact ⟨_, cnt1, m + 1, Krg2.out, by omega, KN2.out, Kb2.out⟩
          case measure => rw [Krg2.out.left_eq, Krg.out.left_eq]; exact hlt1
    · intro rr ii v w1 cnt1 hX hen
      clear hrg
      have hok := hX.ok
      have hlt1 := hX.lt
      obtain rfl : v = .int .u64 (f (rr, ii)) := by
        have h := hX.val
        rcases Hfa.out _ hok with ⟨h1, _⟩ | h1
        · rw [h1] at h; cases h
        · rw [h1] at h; exact (Option.some.inj h).symm
      have HX := Lib.hid hX
      have hc1 : Chg [w.heap.size + 1] wr w1 := Chg.grown hX.grown
      have hs1 := hc1.size
      have HN1 := Lib.hid ((HN.out.chg hc1 (by simp)).alloc (.cells #[.int .u8 rr, .int .u32 ii] 24))
      have hb1 : Below w.heap.size w w1 := Hb.out.trans (hc1.below hs (by simp))
      have HB1 := Lib.hid ((HB.out.below hb1).alloc (.cells #[.int .u8 rr, .int .u32 ii] 24))
      have Hrg1 := Lib.hid (hX.rng.alloc (.cells #[.int .u8 rr, .int .u32 ii] 24))
      have Hb1 := Lib.hid (hb1.alloc (by omega) (.cells #[.int .u8 rr, .int .u32 ii] 24))
      clear hX hc1 hb1
      go_wp2_with fail
      refine region_text [([0, 1, 2, 3, 4, 5], false), ([6], true), ([7], true), ([8], false)] mixed (by kernel_rfl) ?_
      simp only [wpSegs, List.map_cons, List.map_nil, List.getD_cons_succ, List.getD_cons_zero]
      go_wp2_with (at_lookup; go_must (refine wpList_look_N rfl _ _ rfl _ _ _ rfl HB1.out rr ii rfl hok ?_))
      refine And.intro (Agree.refl _) ?_
      go_wp2_with fail
      refine (Hop.out _ _ _).mono ?_
      rintro e w' ⟨rfl, rfl⟩
      go_wp2_with fail
      refine And.intro (Agree.refl _) ?_
      go_wp2_with (at_mapUpdate; go_must (refine wpList_update_N rfl _ _ _ rfl _ _ _ rfl HN1.out (by omega) rr ii _ rfl hok rfl ?_))
      intro w2 hN2 hC2
      have HN2 := Lib.hid (hN2.congr fun a _ => part1_step HX.out.val a)
      have Hrg2 := Lib.hid (Hrg1.out.drew'.chg hC2 (by simp; omega) (by simp))
      have Hb2 := Lib.hid (Hb1.out.drew.trans (hC2.below (by simp; omega) (by simp)))
      clear hN2 hC2 hen
      go_wp2_with fail
      refine And.intro (by kernel_rfl) ?_
      go_wp2_with fail
      go_roundw
      case rel => exact ⟨_, cnt1, n + 1, Hrg2.out, by omega, HN2.out, Hb2.out⟩
      case measure => rw [Hrg2.out.left_eq, Hrg.out.left_eq]; exact hlt1
end Go.Proofs.YtaandcblndldmaaGreat

/- DotH -/
namespace Go.Proofs.YtaandcblndldmaaGreat
open Go.RowKit
set_option linter.unusedVariables false
set_option linter.unusedSimpArgs false

/-- a call returns the vector v in memory of its own -/
def VecTo (w : World) (v : List Dt) (e : Ending) (w' : World) : Prop :=
  ∃ a c, e = .returned (.slice a v.length c) ∧ w'.ownsRow w.heap.size 49 3 (.slice a v.length c) v.length (dcells v) ∧ Below w.heap.size w w'
theorem vec_of {w : World} {base : Nat} {a : Option Addr} {c : Nat} {v : List Dt} (h : w.ownsRow base 49 3 (.slice a v.length c) v.length (dcells v)) : Vec w a c v := Sl.of_owns h
theorem VecTo.from {w w1 w2 : World} {v : List Dt} {e : Ending} (h : VecTo w1 v e w2) (hb : Below w.heap.size w w1) : VecTo w v e w2 := by
  obtain ⟨a, c, h1, h2, h3⟩ := h
  exact ⟨a, c, h1, owns_base h2 hb.size, hb.trans (h3.mono hb.size)⟩

theorem canon_any (a : Option Addr) (c : Nat) (v : List Dt) (w : World) (hv : Vec w a c v) (hok : okV v) (hn : v.length ≤ 1100000) :
    Calls Tryz.prog 107 #[.slice a v.length c] w (VecTo w (canonV v)) := by
  go_enter Tryz.func107, Tryz.ntmps107
  go_wp2_with fail
  refine (numbers_any a c v w hv hok hn).mono ?_
  rintro e w1 ⟨b, n, rfl, hb, hn1, hN, hB⟩
  have HN := Lib.hid hN
  clear hN
  go_wp2_with fail
  refine (vector_any b n _ w1 HN.out (okN_getN hok) (by omega)).mono ?_
  rintro e w2 hV
  have HV := Lib.hid (VecTo.from (v := canonV v) hV hB)
  obtain ⟨a2, c2, rfl, _⟩ := hV
  clear HN
  go_wp2_with fail
  go_ret
  exact HV.out

theorem get_any (a : Option Addr) (c : Nat) (v : List Dt) (r i : Int) (w : World) (hv : Vec w a c v) (hok : okV v) (hn : v.length ≤ 1100000) (hA : okA (r, i)) :
    Calls Tryz.prog 49 #[.slice a v.length c, .agg #[.int .u8 r, .int .u32 i]] w fun e w' => e = .returned (.int .u64 (getN v (r, i))) ∧ Below w.heap.size w w' := by
  have Hv := Lib.hid hv
  clear hv
  go_enter Tryz.func49, Tryz.ntmps49
  go_wp2_with fail
  refine region_text [([0, 2], false), ([1], true), ([3, 4], false)] mixed (by kernel_rfl) ?_
  simp only [wpSegs, List.map_cons, List.map_nil, List.getD_cons_succ, List.getD_cons_zero]
  go_wp2_with fail
  refine (numbers_any a c v _ (Hv.out.below ?hb) hok hn).mono ?_
  case hb => exact ((Below.refl _ _).alloc (Nat.le_refl _) _).drew
  rintro e w1 ⟨b, n, rfl, hb, hn1, hN, hB⟩
  have HN := Lib.hid hN
  clear hN
  go_wp2_with fail
  refine And.intro (Agree.of_below hB) ?_
  have HB := Lib.hid ((((Below.refl _ _).alloc (Nat.le_refl _) _).drew).trans (hB.mono (by simp)) : Below w.heap.size w w1)
  clear hB
  go_wp2_with (at_lookup; go_must (refine wpList_look_N rfl _ _ rfl _ _ _ rfl HN.out r i rfl hA ?_))
  refine And.intro (by kernel_rfl) ?_
  go_wp2_with fail
  go_ret
  exact ⟨rfl, HB.out⟩

theorem join_any (a b : Option Addr) (c d : Nat) (v u : List Dt) (w : World) (hv : Vec w a c v) (hu : Vec w b d u) (hok : okV v) (hok2 : okV u) (hn : v.length ≤ 500000) (hm : u.length ≤ 500000) :
    Calls Tryz.prog 48 #[.slice a v.length c, .slice b u.length d] w (VecTo w (joinV v u)) := by
  go_enter Tryz.func48, Tryz.ntmps48
  go_wp2_with fail
  refine (numbers_any a c v w hv hok (by omega)).mono ?_
  rintro e w1 ⟨b1, n1, rfl, hb1, hn1, hN1, hB1⟩
  have HN1 := Lib.hid hN1
  clear hN1
  go_wp2_with fail
  refine (numbers_any b d u w1 (hu.below hB1) hok2 (by omega)).mono ?_
  rintro e w2 ⟨b2, n2, rfl, hb2, hn2, hN2, hB2⟩
  have HN2 := Lib.hid hN2
  have s1 := hB1.size
  have HB2 := Lib.hid (hB1.trans (hB2.mono s1))
  have HN1' := Lib.hid (HN1.out.below hB2)
  clear hN2 HN1 hB1 hB2
  go_wp2_with fail
  refine (both_any 112 max (by decide) join1_any (enters_of Tryz.func112 (by kernel_rfl) rfl) b1 b2 n1 n2 (getN v) (getN u) w2 HN1'.out HN2.out (by omega) (by omega)).mono ?_
  rintro e w3 ⟨b3, n3, rfl, hb3, hn3, hN3, hB3⟩
  have HN3 := Lib.hid hN3
  have HB3 := Lib.hid (HB2.out.trans (hB3.mono HB2.out.size))
  clear hN3 hB3 HB2 HN1' HN2
  go_wp2_with fail
  refine (vector_any b3 n3 _ w3 HN3.out (okN_max (okN_getN hok) (okN_getN hok2)) (by omega)).mono ?_
  rintro e w4 hV
  have HV := Lib.hid (VecTo.from (v := joinV v u) hV HB3.out)
  obtain ⟨a2, c2, rfl, _⟩ := hV
  clear HN3
  go_wp2_with fail
  go_ret
  exact HV.out

theorem meet_any (a b : Option Addr) (c d : Nat) (v u : List Dt) (w : World) (hv : Vec w a c v) (hu : Vec w b d u) (hok : okV v) (hok2 : okV u) (hn : v.length ≤ 500000) (hm : u.length ≤ 500000) :
    Calls Tryz.prog 134 #[.slice a v.length c, .slice b u.length d] w (VecTo w (meetV v u)) := by
  go_enter Tryz.func134, Tryz.ntmps134
  go_wp2_with fail
  refine (numbers_any a c v w hv hok (by omega)).mono ?_
  rintro e w1 ⟨b1, n1, rfl, hb1, hn1, hN1, hB1⟩
  have HN1 := Lib.hid hN1
  clear hN1
  go_wp2_with fail
  refine (numbers_any b d u w1 (hu.below hB1) hok2 (by omega)).mono ?_
  rintro e w2 ⟨b2, n2, rfl, hb2, hn2, hN2, hB2⟩
  have HN2 := Lib.hid hN2
  have s1 := hB1.size
  have HB2 := Lib.hid (hB1.trans (hB2.mono s1))
  have HN1' := Lib.hid (HN1.out.below hB2)
  clear hN2 HN1 hB1 hB2
  go_wp2_with fail
  refine (both_any 186 min (by decide) meet1_any (enters_of Tryz.func186 (by kernel_rfl) rfl) b1 b2 n1 n2 (getN v) (getN u) w2 HN1'.out HN2.out (by omega) (by omega)).mono ?_
  rintro e w3 ⟨b3, n3, rfl, hb3, hn3, hN3, hB3⟩
  have HN3 := Lib.hid hN3
  have HB3 := Lib.hid (HB2.out.trans (hB3.mono HB2.out.size))
  clear hN3 hB3 HB2 HN1' HN2
  go_wp2_with fail
  refine (vector_any b3 n3 _ w3 HN3.out (okN_min (okN_getN hok) (okN_getN hok2)) (by omega)).mono ?_
  rintro e w4 hV
  have HV := Lib.hid (VecTo.from (v := meetV v u) hV HB3.out)
  obtain ⟨a2, c2, rfl, _⟩ := hV
  clear HN3
  go_wp2_with fail
  go_ret
  exact HV.out

set_option maxHeartbeats 1000000 in
theorem within_any (a b : Option Addr) (c d : Nat) (v u : List Dt) (w : World) (hv : Vec w a c v) (hu : Vec w b d u) (hok : okV v) (hok2 : okV u) (hn : v.length ≤ 1100000) (hm : u.length ≤ 1100000) :
    Calls Tryz.prog 81 #[.slice a v.length c, .slice b u.length d] w fun e w' => e = .returned (.bool (withinV v u)) ∧ Below w.heap.size w w' := by
  go_enter Tryz.func81, Tryz.ntmps81
  go_wp2_with fail
  refine (numbers_any b d u w hu hok2 (by omega)).mono ?_
  rintro e w1 ⟨b1, n1, rfl, hb1, hn1, hN1, hB1⟩
  have HN1 := Lib.hid hN1
  clear hN1
  go_wp2_with fail
  refine (numbers_any a c v w1 (hv.below hB1) hok (by omega)).mono ?_
  rintro e w2 ⟨b2, n2, rfl, hb2, hn2, hN2, hB2⟩
  have s1 := hB1.size
  have s2 := hB2.size
  have HB2 := Lib.hid (hB1.trans (hB2.mono s1))
  have HN1' := Lib.hid (HN1.out.below hB2)
  have l1 := HN1.out.lt
  obtain ⟨fa, hMa, hfa⟩ := hN2
  have HMa := Lib.hid hMa
  have Hfa := Lib.hid hfa
  clear hMa hfa HN1 hB1 hB2
  go_wp2_with (at_range; go_must (refine wpList_range_F keysA rfl _ _ rfl _ Tryz.underlying150 b2 n2 fa rfl HMa.out ?_))
  intro w0 cnt0 hrg0 hcn0 hg0 hs0
  have hb0 : Below w2.heap.size w2 w0 := (Below.refl _ _).grown hg0 (Nat.le_refl _) (by simp)
  have Hb0 := Lib.hid hb0
  have Hrg0 := Lib.hid hrg0
  clear hg0 hs0 hb0 hrg0
  go_wp2_with fail
  go_loopw [6, 7] (fun _ _ wr => ∃ (left : Ac → Bool) (cnt : Nat), RangeF wr Tryz.prog 24 mkA b2 w2.heap.size n2 fa left cnt ∧ (∀ x, okA x → left x = false → getN v x ≤ getN u x) ∧ Below w2.heap.size w2 wr) (fun _ _ wr => wr.rangeLeft b2 w2.heap.size)
  case atStart =>
    refine ⟨_, cnt0, Hrg0.out, fun x hx hl => ?_, Hb0.out⟩
    rcases Hfa.out x hx with ⟨_, h⟩ | h
    · rw [h]; exact (getN_bd u x).1
    · rw [h] at hl; cases hl
  case round =>
    obtain ⟨left, cnt, hrg, hle, hb⟩ := hrel
    have Hrg := Lib.hid hrg
    have Hle := Lib.hid hle
    have Hb := Lib.hid hb
    have hs := hb.size
    clear hle hb Hb0 Hrg0 hcn0
    go_wp2_with (at_next; go_must (refine wpList_next_A rfl _ rfl _ _ _ _ _ _ rfl hrg ?_ ?_))
    · intro hl
      clear hrg
      have hw : withinV v u = true := (withinV_iff hok).2 fun x => by
        by_cases hx : 0 < getN v x
        · have h1 := (mem_allA x).1 (getN_all hok hx)
          have h2 := (mayA_iff x).1 h1.2
          have hokx : okA x := by unfold okA; omega
          exact Hle.out x hokx (hl x hokx)
        · have := (getN_bd u x).1; omega
      have Hw := Lib.hid hw
      clear hw hl
      go_wp2_with fail
      go_ret
      exact ⟨by rw [Hw.out]; rfl, HB2.out.trans (Hb.out.mono (by omega))⟩
    · intro rr ii vv w3 cnt1 hX hen
      clear hrg
      have hok3 := hX.ok
      have hlt1 := hX.lt
      obtain rfl : vv = .int .u64 (getN v (rr, ii)) := by
        have h := hX.val
        rcases Hfa.out _ hok3 with ⟨h1, _⟩ | h1
        · rw [h1] at h; cases h
        · rw [h1] at h; exact (Option.some.inj h).symm
      have HX := Lib.hid hX
      have hc1 := Chg.grown hX.grown
      simp only [Option.toList_some] at hc1
      have hb1 : Below w2.heap.size w2 w3 := Hb.out.trans (hc1.below hs (by simp))
      have HN3 := Lib.hid ((HN1'.out.below hb1).alloc (.cells #[.int .u8 rr, .int .u32 ii] 24))
      have Hrg1 := Lib.hid (hX.rng.alloc (.cells #[.int .u8 rr, .int .u32 ii] 24))
      have Hb1 := Lib.hid (hb1.alloc hb1.size (.cells #[.int .u8 rr, .int .u32 ii] 24))
      clear hX hc1 hb1
      by_cases hgt : getN u (rr, ii) < getN v (rr, ii)
      · have hw : withinV v u = false := by
          cases h : withinV v u with
          | false => rfl
          | true => have := (withinV_iff hok).1 h (rr, ii); omega
        have Hw := Lib.hid hw
        clear hw
        go_wp2_with (at_lookup; go_must (refine wpList_look_N rfl _ _ rfl _ _ _ rfl HN3.out rr ii rfl hok3 ?_))
        go_ret
        exact ⟨by rw [Hw.out]; rfl, HB2.out.trans (Hb1.out.mono (by omega))⟩
      · go_wp2_with (at_lookup; go_must (refine wpList_look_N rfl _ _ rfl _ _ _ rfl HN3.out rr ii rfl hok3 ?_))
        go_roundw
        case rel =>
          refine ⟨_, cnt1, Hrg1.out, fun x hx hl => ?_, Hb1.out⟩
          by_cases e : x = (rr, ii)
          · subst e; omega
          · exact Hle.out x hx (by simpa [e] using hl)
        case measure => rw [Hrg1.out.left_eq, Hrg.out.left_eq]; exact hlt1
end Go.Proofs.YtaandcblndldmaaGreat

/- Vec3 -/
/- CodeA -/
namespace Go.Proofs.YtaandcblndldmaaGreat
open Go.RowKit
set_option linter.unusedVariables false
set_option linter.unusedSimpArgs false

theorem Tryz.info_u8 : (Tryz.prog.info? 5).map (fun i => (i.zero, i.size, i.bytes)) = some (some (.int .u8 0), 1, 1) := by kernel_rfl

/-- a number's bytes -/
def numB (n : Nat) : List UInt8 := if n ≤ 127 then [UInt8.ofNat n] else UInt8.ofNat (n % 128 + 128) :: numB (n / 128)
termination_by n
decreasing_by omega
theorem numB_small {n : Nat} (h : n ≤ 127) : numB n = [UInt8.ofNat n] := by rw [numB, if_pos h]
theorem numB_big {n : Nat} (h : ¬ n ≤ 127) : numB n = UInt8.ofNat (n % 128 + 128) :: numB (n / 128) := by rw [numB, if_neg h]
theorem numB_len (n : Nat) (h : n < 18446744073709551616) : (numB n).length ≤ 10 := by
  have key : ∀ k n, n < 128 ^ k → (numB n).length ≤ max k 1 := by
    intro k
    induction k with
    | zero => intro n h; rw [numB_small (by simp at h; omega)]; simp
    | succ k ih =>
      intro n h
      by_cases hs : n ≤ 127
      · rw [numB_small hs]; simp
      · rw [numB_big hs]
        have := ih (n / 128) (by rw [Nat.pow_succ] at h; omega)
        have hk : 1 ≤ k := by
          rcases Nat.eq_zero_or_pos k with rfl | h'
          · simp at h; omega
          · exact h'
        simp only [List.length_cons]; omega
  exact key 10 n (by omega)

theorem or128_fin : ∀ x : Fin 256, bits BinOp.or IntKind.u8 ((x.val : Nat) : Int) 128 = ((x.val % 128 + 128 : Nat) : Int) := by decide +kernel
theorem or128 (n : Nat) : bits BinOp.or IntKind.u8 ((n : Int) % 256) 128 = ((n % 128 + 128 : Nat) : Int) := by
  have h := or128_fin ⟨n % 256, Nat.mod_lt _ (by decide)⟩
  have e : ((n % 256 : Nat) : Int) = (n : Int) % 256 := by omega
  dsimp only at h
  rw [e] at h
  rw [h]
  congr 1
  omega
theorem u8_ofNat {n : Nat} (h : n < 256) : ((UInt8.ofNat n).toNat : Int) = (n : Int) := by rw [UInt8.toNat_ofNat']; omega
theorem one_u8 (w : World) (t : TypeId) {n : Nat} (h : n < 256) : Sl (w.alloc (.cells #[.int .u8 (n : Int)] t)) 1 (some ⟨w.heap.size, 0, none⟩) 1 1 (u8s [UInt8.ofNat n]) := by
  have e : u8s [UInt8.ofNat n] = [.int .u8 (n : Int)] := by simp only [u8s, List.map_cons, List.map_nil, u8_ofNat h]
  rw [e]
  exact Sl.blk (C := #[.int .u8 (n : Int)]) (heap_new w _) rfl (by decide)
theorem u8s_snoc (bs : List UInt8) (x : UInt8) : u8s (bs ++ [x]) = u8s bs ++ u8s [x] := by simp [u8s]

set_option maxHeartbeats 1000000 in
theorem num_any (a : Option Addr) (m c base : Nat) (bs : List UInt8) (n : Nat) (w : World) (h : w.ownsRow base 5 1 (.slice a m c) m (u8s bs)) (hb : base ≤ w.heap.size) (hm : m ≤ 1000000000) (hn : n < 18446744073709551616) :
    Calls Tryz.prog 165 #[.slice a m c, .int .u64 n] w fun e w' => ∃ a' c', e = .returned (.slice a' (m + (numB n).length) c') ∧ w'.ownsRow base 5 1 (.slice a' (m + (numB n).length) c') (m + (numB n).length) (u8s (bs ++ numB n)) ∧ Chg (ob a) w w' ∧ (∀ k ∈ ob a', k ∈ ob a ∨ w.heap.size ≤ k) := by
  obtain ⟨i0, hi0, hz0, hz1, hz2⟩ := info_parts Tryz.info_u8
  have H := Lib.hid h
  clear h
  go_enter Tryz.func165, Tryz.ntmps165
  go_wp2_with fail
  go_loopw [0, 1] (fun b k wr => ∃ (a1 : Option Addr) (c1 : Nat) (bs1 : List UInt8) (n1 : Nat), b = .slice a1 bs1.length c1 ∧ k = .int .u64 n1 ∧ n1 ≤ n ∧ Hid (bs1 ++ numB n1 = bs ++ numB n) ∧ bs1.length ≤ m + 10 ∧ wr.ownsRow base 5 1 (.slice a1 bs1.length c1) bs1.length (u8s bs1) ∧ Chg (ob a) w wr ∧ (∀ k ∈ ob a1, k ∈ ob a ∨ w.heap.size ≤ k)) (fun _ k _ => (intOf k).toNat)
  case atStart =>
    have hl : bs.length = m := by have := H.out.1; rw [u8s_length] at this; omega
    subst hl
    exact ⟨a, c, bs, n, rfl, rfl, Nat.le_refl _, Lib.hid rfl, by omega, H.out, Chg.refl _ _, fun k hk => .inl hk⟩
  case round =>
    obtain ⟨a1, c1, bs1, n1, rfl, rfl, hle, heq, hl1, hown, hC, hob⟩ := hrel
    have Hown := Lib.hid hown
    have HC := Lib.hid hC
    have Hob := Lib.hid hob
    have hs := hC.size
    clear hown hC hob
    by_cases hbig : n1 ≤ 127
    · have hbig' : ¬ (127 : Int) < (n1 : Int) := by omega
      go_wp2_with (at_builtin; go_must (refine wpList_append_sl rfl _ _ 100 rfl base 5 i0 (.int .u8 0) 1 1 Tryz.underlying100 hi0 hz0 hz1 hz2 rfl (by decide) a1 bs1.length c1 (u8s bs1) rfl (Hown.out.alloc _) (some ⟨wr.heap.size, 0, none⟩) 1 1 (u8s [UInt8.ofNat n1]) rfl ?c1 ?c2 ?c3 ?c4 ?c5 ?_))
      case c1 => exact one_u8 wr _ (by omega)
      case c2 => exact u8s_one _
      case c3 => unfold maxLen; omega
      case c4 => omega
      case c5 => omega
      intro a' c' w' hown' hC' hob'
      have hfin : bs1 ++ [UInt8.ofNat n1] = bs ++ numB n := by have := heq.out; rwa [numB_small hbig] at this
      have hlen : bs1.length + 1 = m + (numB n).length := by
        have h1 := congrArg List.length hfin
        have h2 := H.out.1
        rw [u8s_length] at h2
        simp at h1; omega
      have Hfin := Lib.hid hfin
      have Hlen := Lib.hid hlen
      have Hown' := Lib.hid hown'
      have HC' : Hid (Chg (ob a) w w') := Lib.hid ((HC.out.trans (Chg.alloc (ob a) wr _) (fun _ h _ => h)).trans hC' (fun x hx hl => by rcases Hob.out x hx with h | h; exact h; omega))
      have Hob' : Hid (∀ k ∈ ob a', k ∈ ob a ∨ w.heap.size ≤ k) := Lib.hid fun k hk => by
        rcases hob' k hk with h | h
        · exact Hob.out k h
        · right; omega
      clear hfin hlen hown' hC' hob' HC Hob
      go_wp2_with fail
      go_ret
      exact ⟨a', c', by rw [← Hlen.out]; rfl, by have := Hown'.out; rw [← u8s_snoc, Hfin.out] at this; rw [← Hlen.out]; exact this, HC'.out, Hob'.out⟩
    · have hbig' : (127 : Int) < (n1 : Int) := by omega
      go_wp2_with (at_builtin; go_must (refine wpList_append_sl rfl _ _ 100 rfl base 5 i0 (.int .u8 0) 1 1 Tryz.underlying100 hi0 hz0 hz1 hz2 rfl (by decide) a1 bs1.length c1 (u8s bs1) rfl (Hown.out.alloc _) (some ⟨wr.heap.size, 0, none⟩) 1 1 (u8s [UInt8.ofNat (n1 % 128 + 128)]) rfl ?d1 ?d2 ?d3 ?d4 ?d5 ?_))
      case d1 =>
        rw [or128]
        exact one_u8 wr _ (by omega)
      case d2 => exact u8s_one _
      case d3 => unfold maxLen; omega
      case d4 => omega
      case d5 => rw [World.size_alloc]; omega
      intro a' c' w' hown' hC' hob'
      have hfin : (bs1 ++ [UInt8.ofNat (n1 % 128 + 128)]) ++ numB (n1 / 128) = bs ++ numB n := by have := heq.out; rw [numB_big hbig] at this; simpa using this
      have hlen : (bs1 ++ [UInt8.ofNat (n1 % 128 + 128)]).length ≤ m + 10 := by
        have h1 := congrArg List.length hfin
        have h2 := H.out.1
        have h3 := numB_len n hn
        rw [u8s_length] at h2
        simp at h1 ⊢; omega
      have Hfin := Lib.hid hfin
      have Hown' := Lib.hid hown'
      have HC' : Hid (Chg (ob a) w w') := Lib.hid ((HC.out.trans (Chg.alloc (ob a) wr _) (fun _ h _ => h)).trans hC' (fun x hx hl => by rcases Hob.out x hx with h | h; exact h; omega))
      have Hob' : Hid (∀ k ∈ ob a', k ∈ ob a ∨ w.heap.size ≤ k) := Lib.hid fun k hk => by
        rcases hob' k hk with h | h
        · exact Hob.out k h
        · right; omega
      clear hfin hown' hC' hob' HC Hob
      go_wp2_with fail
      go_roundw
      case rel => exact ⟨a', c', bs1 ++ [UInt8.ofNat (n1 % 128 + 128)], n1 / 128, by simp, by simp, by omega, Hfin, hlen, by have := Hown'.out; rw [← u8s_snoc] at this; simpa using this, HC'.out, Hob'.out⟩
      case measure => simp [intOf]; omega
end Go.Proofs.YtaandcblndldmaaGreat

/- StrA -/
namespace Go.Proofs.YtaandcblndldmaaGreat
open Go.RowKit
set_option linter.unusedVariables false
set_option linter.unusedSimpArgs false
/-- a string of bytes -/
def strOf (bs : List UInt8) : ByteArray := ⟨bs.toArray⟩
theorem strOf_toList (bs : List UInt8) : (strOf bs).toList = bs := ByteArray.toList_mk bs
attribute [go_sem] strOf_toList
end Go.Proofs.YtaandcblndldmaaGreat

/- DotI -/
namespace Go.Proofs.YtaandcblndldmaaGreat
open Go.RowKit
set_option linter.unusedVariables false
set_option linter.unusedSimpArgs false

/-- a dot's bytes, a vector's bytes -/
def dotB (d : Dt) : List UInt8 := numB d.1.1.toNat ++ numB d.1.2.toNat ++ numB d.2.toNat
def dotsB (v : List Dt) : List UInt8 := v.flatMap dotB
theorem dotsB_snoc (v : List Dt) (d : Dt) : dotsB (v ++ [d]) = dotsB v ++ dotB d := by simp [dotsB]

theorem dotB_len {d : Dt} (h : okD d) : (dotB d).length ≤ 30 := by
  obtain ⟨⟨h1, h2⟩, h3⟩ := h
  have a := numB_len d.1.1.toNat (by omega)
  have b := numB_len d.1.2.toNat (by omega)
  have c := numB_len d.2.toNat (by omega)
  simp only [dotB, List.length_append]; omega
theorem dotsB_len {v : List Dt} (h : okV v) : (dotsB v).length ≤ v.length * 30 := by
  induction v with
  | nil => simp [dotsB]
  | cons d v ih =>
    have h1 := dotB_len (h d (by simp))
    have h2 := ih fun x hx => h x (by simp [hx])
    simp only [dotsB, List.flatMap_cons, List.length_append, List.length_cons] at h2 ⊢; omega
theorem okV_take {v : List Dt} (h : okV v) (k : Nat) : okV (v.take k) := fun d hd => h d (List.mem_of_mem_take hd)

end Go.Proofs.YtaandcblndldmaaGreat

/- DotJ -/
namespace Go.Proofs.YtaandcblndldmaaGreat
open Go.RowKit
set_option linter.unusedVariables false
set_option linter.unusedSimpArgs false

theorem take_ext {α : Type} {v u : List α} (k : Nat) (hl : v.length = u.length) (hk : v.length ≤ k) (h : v.take k = u.take k) : v = u := by
  rw [List.take_of_length_le hk, List.take_of_length_le (by omega)] at h
  exact h

theorem below_drewN {B : Nat} {w w' : World} (h : Below B w w') (n : Nat) : Below B w (w'.drewN n) := ⟨h.os, h.tape, h.output, h.size, h.block⟩
set_option maxHeartbeats 1000000 in
theorem same_any (a b : Option Addr) (c d : Nat) (v u : List Dt) (w : World) (hv : Vec w a c v) (hu : Vec w b d u) (hn : v.length ≤ 1100000) (hm : u.length ≤ 1100000) :
    Calls Tryz.prog 15 #[.slice a v.length c, .slice b u.length d] w fun e w' => e = .returned (.bool (decide (v = u))) ∧ Below w.heap.size w w' := by
  have Hv := Lib.hid hv
  have Hu := Lib.hid hu
  clear hv hu
  by_cases hl : v.length = u.length
  · have Hl := Lib.hid hl
    rw [← hl]
    clear hl
    go_enter Tryz.func15, Tryz.ntmps15
    go_wp2_with fail
    go_loopw [5] (fun i wr => ∃ k : Nat, k ≤ v.length ∧ i = .int .i64 k ∧ Hid (v.take k = u.take k) ∧ Below w.heap.size w wr) (fun i _ => v.length - (intOf i).toNat)
    case atStart => exact ⟨0, Nat.zero_le _, rfl, Lib.hid (by simp), Below.refl _ _⟩
    case round =>
      obtain ⟨k, hk, rfl, heq, hb⟩ := hrel
      have Hb := Lib.hid hb
      clear hb
      by_cases hlt : k < v.length
      · have hlu : k < u.length := by have := Hl.out; omega
        obtain ⟨⟨⟨r, i⟩, s⟩, hx⟩ : ∃ x, v[k]? = some x := ⟨v[k], by simp [hlt]⟩
        obtain ⟨⟨⟨r', i'⟩, s'⟩, hy⟩ : ∃ x, u[k]? = some x := ⟨u[k], by simp [hlu]⟩
        obtain ⟨ad, had, d0, d1, d2, hlt0⟩ := (Hv.out.below Hb.out).at hx
        obtain ⟨ae, hae, e0, e1, e2, hlt1⟩ := (Hu.out.below Hb.out).at hy
        have had' := had
        have hae' := hae
        subst had' hae'
        dsimp only at d0 d1 d2 e0 e1 e2
        have Hx := Lib.hid hx
        have Hy := Lib.hid hy
        clear hx hy had hae
        by_cases hr : r = r'
        · subst hr
          by_cases hi : i = i'
          · subst hi
            by_cases hs : s = s'
            · subst hs
              go_wp2_with fail
              go_quiet (fail)
              go_wp2_with fail
              go_roundw
              case rel => exact ⟨k + 1, by omega, by go_num, Lib.hid (by rw [take_snoc' Hx.out, take_snoc' Hy.out, heq.out]), below_drewN Hb.out _⟩
              case measure => simp [intOf]; omega
            · have He := Lib.hid (show decide (v = u) = false by simp; intro e; subst e; have := Hx.out.symm.trans Hy.out; simp at this; exact hs this)
              go_wp2_with fail
              go_quiet (fail)
              go_wp2_with fail
              go_ret
              exact ⟨by rw [He.out]; rfl, below_drewN Hb.out _⟩
          · have He := Lib.hid (show decide (v = u) = false by simp; intro e; subst e; have := Hx.out.symm.trans Hy.out; simp at this; exact hi this.1)
            go_wp2_with fail
            go_quiet (fail)
            go_wp2_with fail
            go_ret
            exact ⟨by rw [He.out]; rfl, below_drewN Hb.out _⟩
        · have He := Lib.hid (show decide (v = u) = false by simp; intro e; subst e; have := Hx.out.symm.trans Hy.out; simp at this; exact hr this.1.1)
          go_wp2_with fail
          go_quiet (fail)
          go_wp2_with fail
          go_ret
          exact ⟨by rw [He.out]; rfl, below_drewN Hb.out _⟩
      · have he : v = u := take_ext k Hl.out (by omega) heq.out
        have He := Lib.hid (show decide (v = u) = true by simpa using he)
        clear he
        go_wp2_with fail
        go_ret
        exact ⟨by rw [He.out]; rfl, Hb.out⟩
  · have he : decide (v = u) = false := by simp; intro e; exact hl (by rw [e])
    have He := Lib.hid he
    have hl' : ((v.length : Int) != (u.length : Int)) = true := by simp; omega
    clear he
    go_enter Tryz.func15, Tryz.ntmps15
    go_wp2_with fail
    go_ret
    exact ⟨by rw [He.out]; rfl, Below.refl _ _⟩
end Go.Proofs.YtaandcblndldmaaGreat

/- DotK -/
namespace Go.Proofs.YtaandcblndldmaaGreat
open Go.RowKit
set_option linter.unusedVariables false
set_option linter.unusedSimpArgs false

def kA : List Dt := [((0, 1), 3)]
def kB : List Dt := [((0, 1), 2), ((1, 1), 5)]
def kJ : List Dt := [((0, 1), 3), ((1, 1), 5)]
def kM : List Dt := [((0, 1), 2)]
theorem okK : okV kA ∧ okV kB ∧ okV kJ ∧ okV kM := by
  refine ⟨?_, ?_, ?_, ?_⟩ <;> intro d hd <;> simp [kA, kB, kJ, kM] at hd
  · subst hd; unfold okD okA; decide
  · rcases hd with rfl | rfl <;> (unfold okD okA; decide)
  · rcases hd with rfl | rfl <;> (unfold okD okA; decide)
  · subst hd; unfold okD okA; decide
end Go.Proofs.YtaandcblndldmaaGreat
