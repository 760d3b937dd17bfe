/- dot.vector. -/
import Derived.Test.YtblahapjdgncfaaDotE
import Derived.Test.YtblahapjdgncfaaMemD
namespace Go.Proofs.Ytblahapjdgncfaa
open Go.RowKit
set_option linter.unusedVariables false
set_option linter.unusedSimpArgs false

theorem Try.info_dot : (Try.prog.info? 34).map (fun i => (i.zero, i.size, i.bytes)) = some (some (.agg #[.int .u8 0, .int .u32 0, .int .u64 0]), 3, 16) := by kernel_rfl

theorem keys_any (mb : Option Nat) (w : World) : Calls Try.prog 82 #[.map mb] w fun e w' => e = .returned (.func (.func 90) #[] #[.pointer (some ⟨w.heap.size, 0, none⟩)]) ∧ w' = w.alloc (.cells #[.map mb] 85) := by
  go_enter Try.func82, Try.ntmps82
  go_wp2
  go_ret
  exact ⟨rfl, rfl⟩

theorem acells_at {v : List Ac} {k : Nat} {d : Ac} (h : v[k]? = some d) : ∀ j, j < 2 → (acells v)[k * 2 + j]? = (acell d)[j]? := fun j hj => flatMap_at (enc := acell) (k := 2) (fun _ => rfl) v k j d h hj
theorem Sl.actor_at {w : World} {a : Option Addr} {n c : Nat} {v : List Ac} (h : Sl w 2 a n c (acells v)) {k : Nat} {d : Ac} (hd : v[k]? = some d) :
    ∃ ad, a = some ad ∧ w.cell? (ad.add (k * 2)) = some (.int .u8 d.1) ∧ w.cell? ⟨(ad.add (k * 2)).block, (ad.add (k * 2)).off + 1, none⟩ = some (.int .u32 d.2) := by
  have hk : k < v.length := (List.getElem?_eq_some_iff.1 hd).1
  obtain ⟨hl, _, _, ⟨_, h0, _⟩ | ⟨ad, rfl, hc⟩⟩ := h
  · rw [acells_length] at hl; omega
  · have h0 := hc (k * 2) (.int .u8 d.1) (by simpa [acell] using acells_at hd 0 (by omega))
    have h1 := hc (k * 2 + 1) (.int .u32 d.2) (by simpa [acell] using acells_at hd 1 (by omega))
    rw [← Go.Deep.add_add] at h1
    exact ⟨ad, rfl, h0, h1⟩

/-- what is laid of the first k keys -/
def laid (g : Ac → Int) (ss : List Ac) (k : Nat) : List Dt := ((ss.take k).filter fun a => decide (0 < g a)).map fun a => (a, g a)
theorem laid_succ {g : Ac → Int} {ss : List Ac} {k : Nat} {x : Ac} (h : ss[k]? = some x) : laid g ss (k + 1) = if 0 < g x then laid g ss k ++ [(x, g x)] else laid g ss k := by
  unfold laid
  rw [take_snoc' h, List.filter_append, List.map_append]
  by_cases hx : 0 < g x <;> simp [hx]
theorem laid_length (g : Ac → Int) (ss : List Ac) (k : Nat) : (laid g ss k).length ≤ k := by
  unfold laid
  rw [List.length_map]
  exact Nat.le_trans (List.length_filter_le _ _) (List.length_take_le _ _)

set_option maxHeartbeats 1000000 in
theorem vector_any (b n : Nat) (g : Ac → Int) (w : World) (hN : NumsAt w b n g) (hg : okN g) (hn : n ≤ 1000000) :
    Calls Try.prog 61 #[.map (some b)] w fun e w' => ∃ a c, e = .returned (.slice a (vecOf g).length c) ∧ w'.ownsRow w.heap.size 34 3 (.slice a (vecOf g).length c) (vecOf g).length (dcells (vecOf g)) ∧ Below w.heap.size w w' := by
  obtain ⟨i0, hi0, hz0, hz1, hz2⟩ := info_parts Try.info_dot
  have HN := Lib.hid hN
  have Hg := Lib.hid hg
  obtain ⟨f, hM, hf⟩ := hN
  have HM := Lib.hid hM
  have Hf := Lib.hid hf
  clear hM hf hg
  go_enter Try.func61, Try.ntmps61
  go_wp2_with (go_at_call 82; refine (keys_any _ _).mono ?_; rintro e w' ⟨rfl, rfl⟩)
  refine (sortedFunc_keys w.heap.size b n f _ (heap_new _ _) (HM.out.alloc _) hn).mono ?_
  rintro e w2 ⟨a, c, ss, rfl, hK, hR, hrow, hB⟩
  obtain ⟨_, hz, hB2⟩ := new1 hB
  have HN2 := Lib.hid (HN.out.below hB2)
  have Hrow := Lib.hid (Sl.of_owns hrow)
  have hlen := hK.1
  have HR := Lib.hid hR
  have HK := Lib.hid hK
  have HB2 := Lib.hid hB2
  clear hK hR hrow hB hB2 HN HM
  go_wp2_with fail
  go_loopw [2, 9] (fun v i wr => ∃ (k : Nat) (va : Option Addr) (vc : Nat), k ≤ ss.length ∧ i = .int .i64 k ∧ v = .slice va (laid g ss k).length vc ∧ wr.ownsRow w2.heap.size 34 3 (.slice va (laid g ss k).length vc) (laid g ss k).length (dcells (laid g ss k)) ∧ Below w2.heap.size w2 wr) (fun _ i _ => ss.length - (intOf i).toNat)
  case atStart => exact ⟨0, none, 0, Nat.zero_le _, rfl, rfl, World.ownsRow_nil _ _ _ _, Below.refl _ _⟩
  case round =>
    obtain ⟨k, va, vc, hk, rfl, rfl, hown, hbel⟩ := hrel
    have Hown := Lib.hid hown
    have Hbel := Lib.hid hbel
    have hs := hbel.size
    have hll := laid_length g ss k
    clear hown hbel
    by_cases hlt : k < ss.length
    · obtain ⟨⟨r, i⟩, hx⟩ : ∃ x, ss[k]? = some x := ⟨ss[k], by simp [hlt]⟩
      have hok := HK.out.2.2.1 _ (List.mem_of_getElem? hx)
      obtain ⟨ad, had, c0, c1⟩ := Sl.actor_at (Hrow.out.below Hbel.out) hx
      have had' := had
      subst had'
      have Hl := Lib.hid (laid_succ (g := g) hx)
      dsimp only at c0 c1
      have HN3 := Lib.hid ((HN2.out.below Hbel.out).alloc (.cells #[.int .u8 r, .int .u32 i] 31))
      clear hx had
      by_cases hp : 0 < g (r, i)
      · have Hl' : Hid (laid g ss (k + 1) = laid g ss k ++ [((r, i), g (r, i))]) := by have := Hl.out; rw [if_pos hp] at this; exact Lib.hid this
        clear Hl
        go_wp2_with (at_lookup; go_must (refine wpList_look_N rfl _ _ rfl _ _ _ rfl HN3.out r i rfl hok ?_))
        refine region_text [([0, 1, 2, 3], false), ([4], true), ([5, 6, 7, 8], false)] mixed (by kernel_rfl) ?_
        simp only [wpSegs, List.map_cons, List.map_nil, List.getD_cons_succ, List.getD_cons_zero]
        go_wp2_with (at_lookup; go_must (refine wpList_look_N rfl _ _ rfl _ _ _ rfl HN3.out r i rfl hok ?_))
        refine And.intro (Agree.refl _) ?_
        go_wp2_with (at_builtin; go_must (refine wpList_append_sl rfl _ _ 23 rfl w2.heap.size 34 i0 (.agg #[.int .u8 0, .int .u32 0, .int .u64 0]) 3 16 Try.underlying23 hi0 hz0 hz1 hz2 rfl (by decide) va (laid g ss k).length vc (dcells (laid g ss k)) rfl ?c0 (some ⟨wr.heap.size + 1, 0, none⟩) 1 1 (dcell ((r, i), g (r, i))) rfl ?c1 ?c2 ?c3 ?c4 ?c5 ?_))
        case c0 => exact (Hown.out.alloc _).alloc _
        case c1 => exact Sl.blk (C := #[.int .u8 r, .int .u32 i, .int .u64 (g (r, i))]) (heap_new2 wr _ _) rfl (by decide)
        case c2 => exact dcells_one [((r, i), g (r, i))]
        case c3 => unfold maxLen; omega
        case c4 => omega
        case c5 => simp; omega
        intro a' c' w3 hown3 hchg hob
        have Ho3 : Hid (w3.ownsRow w2.heap.size 34 3 (.slice a' (laid g ss (k + 1)).length c') (laid g ss (k + 1)).length (dcells (laid g ss (k + 1)))) := by
          rw [Hl'.out, dcells_snoc]; exact Lib.hid (by simpa using hown3)
        have Hb3 : Hid (Below w2.heap.size w2 w3) := Lib.hid ((((Hbel.out.alloc hs _).alloc (by simp; omega) _).drew).trans (hchg.below (by simp; omega) (fun x hx => (owns_lt Hown.out x hx).1)))
        clear hown3 hchg hob
        go_wp2_with fail
        refine And.intro (by kernel_rfl) ?_
        go_wp2_with fail
        go_roundw
        case rel => exact ⟨k + 1, a', c', by omega, by go_num, by rw [Hl'.out]; simp, Ho3.out, Hb3.out⟩
        case measure => simp [intOf]; omega
      · have Hl' : Hid (laid g ss (k + 1) = laid g ss k) := by have := Hl.out; rw [if_neg hp] at this; exact Lib.hid this
        clear Hl
        go_wp2_with (at_lookup; go_must (refine wpList_look_N rfl _ _ rfl _ _ _ rfl HN3.out r i rfl hok ?_))
        go_roundw
        case rel => exact ⟨k + 1, va, vc, by omega, by go_num, by rw [Hl'.out], by rw [Hl'.out]; exact Hown.out.alloc _, Hbel.out.alloc hs _⟩
        case measure => simp [intOf]; omega
    · have he : laid g ss k = vecOf g := by
        unfold laid
        rw [List.take_of_length_le (by omega)]
        refine vecOf_keys Hg.out HR.out fun a ha => ?_
        have hoka : okA a := by
          have h1 := (mem_allA a).1 ((Hg.out a).2.2 ha)
          have h2 := (mayA_iff a).1 h1.2
          unfold okA; omega
        rw [HK.out.2.2.2 a hoka]
        rcases Hf.out a hoka with ⟨_, h⟩ | h
        · omega
        · rw [h]; rfl
      have Ho : Hid (wr.ownsRow w2.heap.size 34 3 (.slice va (vecOf g).length vc) (vecOf g).length (dcells (vecOf g))) := by have := Hown.out; rw [he] at this; exact Lib.hid this
      have He := Lib.hid he
      clear he Hown
      go_wp2_with fail
      go_ret
      exact ⟨va, vc, by rw [← He.out]; rfl, owns_base Ho.out (by omega), HB2.out.trans (Hbel.out.mono (by omega))⟩
end Go.Proofs.Ytblahapjdgncfaa
