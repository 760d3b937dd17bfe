/- The reference's query: Once, May, Same. | The reference's query: May, Same. -/
import Derived.Test.YtmabjghjkgicgaaGreatMeanZ
/- AskA -/
namespace Go.Proofs.YtmabjghjkgicgaaGreat
open Go.RowKit
set_option linter.unusedVariables false
set_option linter.unusedSimpArgs false

theorem str_one {w : World} {b : Nat} (s : ByteArray) (h : w.heap[b]? = some (.cells #[.string s] 9 (0, 0))) : Strs w (some ⟨b, 0, none⟩) 1 [s] := Sl.blk (C := #[.string s]) h rfl (by show 1 ≤ maxLen; unfold maxLen; omega)
theorem once_at {l : List ByteArray} {q : Nat} {s : ByteArray} (hl : ∀ x ∈ l.take q, ltS x s = true) {x : ByteArray} (hx : l[q]? = some x) (he : x = s) : onceP l s = l := by
  unfold onceP
  rw [if_pos (by rw [← he]; exact List.mem_of_getElem? hx)]
theorem once_not {l : List ByteArray} {q : Nat} {s : ByteArray} (hR : risesS l) (hl : ∀ x ∈ l.take q, ltS x s = true) (h : q = l.length ∨ ∃ x, l[q]? = some x ∧ ltS x s = false ∧ x ≠ s) (hq : q ≤ l.length) : l.take q ++ s :: l.drop q = onceP l s := by
  have hsuf : ∀ y ∈ l.drop q, ltS s y = true := by
    intro y hy
    rcases h with h | ⟨x, hx, hxs, hne⟩
    · rw [h, List.drop_length] at hy; cases hy
    · have e : l.drop q = x :: l.drop (q + 1) := by rw [← (List.getElem?_eq_some_iff.1 hx).2, List.getElem_cons_drop]
      have hsx : ltS s x = true := by
        cases e2 : ltS s x with
        | true => rfl
        | false => exact absurd (ltS_total hxs e2) hne
      rw [e] at hy
      rcases List.mem_cons.1 hy with rfl | hy
      · exact hsx
      · have hT' : risesS (l.take q ++ x :: l.drop (q + 1)) := by rw [← e, List.take_append_drop]; exact hR
        exact ltS_trans hsx ((List.pairwise_cons.1 (List.pairwise_append.1 hT').2.1).1 y hy)
  have hn : s ∉ l := by
    intro hm
    rw [← List.take_append_drop q l] at hm
    rcases List.mem_append.1 hm with hm | hm
    · have := hl s hm; rw [ltS_irrefl] at this; cases this
    · have := hsuf s hm; rw [ltS_irrefl] at this; cases this
  have key : ∀ (A B : List ByteArray), (∀ x ∈ A, ltS x s = true) → (∀ y ∈ B, ltS s y = true) → (A ++ B).takeWhile (fun y => ltS y s) = A ∧ (A ++ B).dropWhile (fun y => ltS y s) = B := by
    intro A B hA hB
    induction A with
    | nil =>
      cases B with
      | nil => exact ⟨rfl, rfl⟩
      | cons b B =>
        have := ltS_asymm (hB b (.head _))
        exact ⟨List.takeWhile_cons_of_neg (by simp [this]), List.dropWhile_cons_of_neg (by simp [this])⟩
    | cons a A ih =>
      have h1 := hA a (.head _)
      obtain ⟨i1, i2⟩ := ih fun x hx => hA x (.tail _ hx)
      exact ⟨by rw [List.cons_append, List.takeWhile_cons_of_pos (p := fun y => ltS y s) h1, i1], by rw [List.cons_append, List.dropWhile_cons_of_pos (p := fun y => ltS y s) h1, i2]⟩
  obtain ⟨k1, k2⟩ := key _ _ hl hsuf
  rw [List.take_append_drop] at k1 k2
  unfold onceP
  rw [if_neg hn, k1, k2]
def OnceTo (w : World) (base : Nat) (l : List ByteArray) (s : ByteArray) (e : Ending) (w' : World) : Prop :=
  ∃ a' c' l', e = .returned (.slice a' (List.length l') c') ∧ OwnS w' base a' c' l' ∧ (risesS l → l' = onceP l s) ∧ Below w.heap.size w w' ∧ l'.length ≤ l.length + 1
set_option maxRecDepth 100000 in
set_option maxHeartbeats 1000000 in
theorem once_any (base : Nat) (a : Option Addr) (c : Nat) (l : List ByteArray) (s : ByteArray) (w : World) (h : OwnS w base a c l) (hb : base ≤ w.heap.size) (hn : l.length ≤ 100000) :
    Calls Tryz.prog 31 #[.slice a l.length c, .string s] w (OnceTo w base l s) := by
  have H := Lib.hid h
  have hlen := h.strs.2.1
  have hcap := h.strs.2.2.1
  unfold maxLen at hcap
  clear h
  go_enter Tryz.func31, Tryz.ntmps31
  go_wp2_with fail
  go_loopw [5, 6] (fun out i wr => ∃ (q : Nat) (oa : Option Addr) (oc : Nat) (V : List ByteArray), q ≤ l.length ∧ i = .int .i64 q ∧ out = .slice oa V.length oc ∧ Hid (V = l.take q) ∧ Hid (∀ x ∈ V, ltS x s = true) ∧ Hid (OwnS wr w.heap.size oa oc V) ∧ Hid (Below w.heap.size w wr)) (fun _ i _ => l.length - (intOf i).toNat)
  case atStart => exact ⟨0, none, 0, [], Nat.zero_le _, rfl, rfl, Lib.hid rfl, Lib.hid (by simp), Lib.hid (OwnS.nil _ _), Lib.hid (Below.refl _ _)⟩
  case round =>
    obtain ⟨q, oa, oc, V, hq, rfl, rfl, HV, HL, HO, HB⟩ := hrel
    have hVl : V.length ≤ 100000 := by rw [HV.out, List.length_take]; omega
    have hsz := HB.out.size
    by_cases hlt : q < l.length
    · obtain ⟨x, hx⟩ : ∃ x, l[q]? = some x := ⟨l[q], by simp [hlt]⟩
      obtain ⟨ad, had, c0, hlb⟩ := (H.out.strs.below HB.out).at hx
      subst had
      have Hx := Lib.hid hx
      clear hx
      cases hc : Op.bytesLess x.toList s.toList with
      | true =>
        have Hc := Lib.hid (show ltS x s = true from hc)
        go_wp2_with (at_builtin; go_must (refine wpList_appS rfl _ _ rfl w.heap.size oa oc V rfl ?o1 (some ⟨wr.heap.size, 0, none⟩) 1 [x] rfl ?s1 ?n1 ?b1 ?_))
        case o1 => exact HO.out.below ((Below.refl _ _).alloc (Nat.le_refl _) _)
        case s1 => exact str_one x (heap_new wr _)
        case n1 => simp; omega
        case b1 => simp; omega
        intro v' a' c' w2 hv' ho2 hb2 _
        have hW : Below wr.heap.size wr (wr.alloc (.cells #[.string x] 9)) := (Below.refl _ _).alloc (Nat.le_refl _) _
        have HO2 := Lib.hid ho2
        have HB2 := Lib.hid ((below2 HB.out hW hsz).trans hb2)
        have HV2 := Lib.hid (show v' = l.take (q + 1) by rw [hv', HV.out, take_snoc' Hx.out])
        have HL2 := Lib.hid (show ∀ y ∈ v', ltS y s = true from fun y hy => by
          rw [hv', List.mem_append, List.mem_singleton] at hy
          rcases hy with hy | rfl
          · exact HL.out y hy
          · exact Hc.out)
        clear hv' ho2 hb2 hW
        go_wp2_with fail
        go_roundw
        case rel => exact ⟨q + 1, a', c', v', by omega, by go_num, rfl, HV2, HL2, HO2, HB2⟩
        case measure => simp [intOf]; omega
      | false =>
        have Hc := Lib.hid (show ltS x s = false from hc)
        by_cases he : x = s
        · have q1 : (x.toList == s.toList) = true := by rw [he]; simp
          have HF := Lib.hid (once_at (l := l) (q := q) (by rw [← HV.out]; exact HL.out) Hx.out he)
          have HO3 := Lib.hid (show OwnS wr base (some ad) c l from H.out.below HB.out)
          clear he
          go_wp2_with fail
          go_ret
          exact ⟨some ad, c, l, rfl, HO3.out, fun _ => HF.out.symm, HB.out, by omega⟩
        · have q1 : (x.toList == s.toList) = false := by rw [beq_bytes]; simpa using he
          have He := Lib.hid he
          clear he
          obtain ⟨ra, rc, u, hu, hrunS, hSs⟩ := cutS (some ad) c l q (by omega) hlen
          have hu2 : u = l.drop q := hu
          have Hu := Lib.hid hu2
          have hul : u.length ≤ 100000 := by rw [hu2, List.length_drop]; omega
          clear hu hu2
          go_wp2_with fail
          refine region_text [([0, 1, 4, 5, 6, 2, 3, 7, 8], false)] mixed (by kernel_rfl) ?_
          simp only [wpSegs, List.map_cons, List.map_nil, List.getD_cons_succ, List.getD_cons_zero]
          go_wp2_with (at_builtin; go_must (refine wpList_appS rfl _ _ rfl w.heap.size oa oc V rfl ?o1 (some ⟨wr.heap.size, 0, none⟩) 1 [s] rfl ?s1 ?n1 ?b1 ?_))
          case o1 => exact HO.out.below (((Below.refl _ _).alloc (Nat.le_refl _) _).drew)
          case s1 => exact str_one s (heap_new wr _)
          case n1 => simp; omega
          case b1 => simp; omega
          intro v1 a1 c1 w5 hv1 ho1 hb1 hC1
          have hs5 : wr.heap.size + 1 ≤ w5.heap.size := by have := hC1.size; simp at this; omega
          have hWe : Below wr.heap.size wr (wr.alloc (.cells #[.string s] 9)).drew := ((Below.refl _ _).alloc (Nat.le_refl _) _).drew
          have HB5 := Lib.hid (show Below w.heap.size w w5 from (below2 HB.out hWe HB.out.size).trans hb1)
          have Ho1 := Lib.hid ho1
          have Hv1 := Lib.hid hv1
          have hl1 : v1.length ≤ 100001 := by rw [hv1]; simp; omega
          have H5 := Lib.hid (hSs w5 (H.out.strs.below HB5.out))
          clear hv1 ho1 hb1 hC1 hWe
          go_wp2_with (at_builtin; go_must (refine wpList_appS rfl _ _ rfl w.heap.size a1 c1 v1 rfl ?o2 ra rc u rfl ?s2 ?n2 ?b2 ?_))
          case o2 => exact Ho1.out
          case s2 => exact H5.out
          case n2 => omega
          case b2 => omega
          intro v2 a2 c2 w6 hv2 ho2 hb2 _
          have HB6 := Lib.hid (HB5.out.trans hb2)
          have Hv2 := Lib.hid (show v2 = l.take q ++ s :: l.drop q by rw [hv2, Hv1.out, HV.out, Hu.out]; simp)
          have Ho2 := Lib.hid ho2
          clear hv2 ho2 hb2
          go_wp2_with fail
          refine And.intro (by kernel_rfl) ?_
          go_wp2_with fail
          go_ret
          exact ⟨a2, c2, v2, rfl, Ho2.out.base hb, fun hR => by rw [Hv2.out]; exact once_not hR (by rw [← HV.out]; exact HL.out) (.inr ⟨x, Hx.out, Hc.out, He.out⟩) (by omega), HB6.out, by rw [Hv2.out]; simp; omega⟩
    · skip
      obtain ⟨ra, rc, u, hu, hrunS, hSs⟩ := cutS a c l q (by omega) hlen
      have hu2 : u = l.drop q := hu
      have Hu := Lib.hid hu2
      have hul : u.length ≤ 100000 := by rw [hu2, List.length_drop]; omega
      clear hu hu2
      go_wp2_with fail
      refine region_text [([0, 1, 4, 5, 6, 2, 3, 7, 8], false)] mixed (by kernel_rfl) ?_
      simp only [wpSegs, List.map_cons, List.map_nil, List.getD_cons_succ, List.getD_cons_zero]
      go_wp2_with (at_builtin; go_must (refine wpList_appS rfl _ _ rfl w.heap.size oa oc V rfl ?o1 (some ⟨wr.heap.size, 0, none⟩) 1 [s] rfl ?s1 ?n1 ?b1 ?_))
      case o1 => exact HO.out.below (((Below.refl _ _).alloc (Nat.le_refl _) _).drew)
      case s1 => exact str_one s (heap_new wr _)
      case n1 => simp; omega
      case b1 => simp; omega
      intro v1 a1 c1 w5 hv1 ho1 hb1 hC1
      have hs5 : wr.heap.size + 1 ≤ w5.heap.size := by have := hC1.size; simp at this; omega
      have hWe : Below wr.heap.size wr (wr.alloc (.cells #[.string s] 9)).drew := ((Below.refl _ _).alloc (Nat.le_refl _) _).drew
      have HB5 := Lib.hid (show Below w.heap.size w w5 from (below2 HB.out hWe HB.out.size).trans hb1)
      have Ho1 := Lib.hid ho1
      have Hv1 := Lib.hid hv1
      have hl1 : v1.length ≤ 100001 := by rw [hv1]; simp; omega
      have H5 := Lib.hid (hSs w5 (H.out.strs.below HB5.out))
      clear hv1 ho1 hb1 hC1 hWe
      go_wp2_with (at_builtin; go_must (refine wpList_appS rfl _ _ rfl w.heap.size a1 c1 v1 rfl ?o2 ra rc u rfl ?s2 ?n2 ?b2 ?_))
      case o2 => exact Ho1.out
      case s2 => exact H5.out
      case n2 => omega
      case b2 => omega
      intro v2 a2 c2 w6 hv2 ho2 hb2 _
      have HB6 := Lib.hid (HB5.out.trans hb2)
      have Hv2 := Lib.hid (show v2 = l.take q ++ s :: l.drop q by rw [hv2, Hv1.out, HV.out, Hu.out]; simp)
      have Ho2 := Lib.hid ho2
      clear hv2 ho2 hb2
      go_wp2_with fail
      refine And.intro (by kernel_rfl) ?_
      go_wp2_with fail
      go_ret
      exact ⟨a2, c2, v2, rfl, Ho2.out.base hb, fun hR => by rw [Hv2.out]; exact once_not hR (by rw [← HV.out]; exact HL.out) (.inl (by omega)) (by omega), HB6.out, by rw [Hv2.out]; simp; omega⟩

end Go.Proofs.YtmabjghjkgicgaaGreat

/- AskB -/
namespace Go.Proofs.YtmabjghjkgicgaaGreat
open Go.RowKit
set_option linter.unusedVariables false
set_option linter.unusedSimpArgs false

/-- a query that may be -/
def MayQ (k : Int) (P : List ByteArray) : Prop := 1 ≤ k ∧ k ≤ 5 ∧ (PathP P ∨ (k = 5 ∧ P = []))
set_option maxRecDepth 100000 in
set_option maxHeartbeats 1000000 in
theorem qmay_any (k : Int) (pa : Option Addr) (pc : Nat) (P : List ByteArray) (w : World) (hP : Strs w pa pc P) :
    Calls Tryz.prog 28 #[.agg #[.int .u8 k, .slice pa P.length pc]] w (IsTo w (MayQ k P)) := by
  have HP := Lib.hid hP
  clear hP
  have hB0 : Below w.heap.size w (w.alloc (.cells #[.int .u8 k, .slice pa P.length pc] 56)) := (Below.refl _ _).alloc (Nat.le_refl _) _
  have HB0 := Lib.hid hB0
  clear hB0
  by_cases h1 : 1 ≤ k
  · have e1 : decide (k < 1) = false := by simpa using h1
    by_cases h2 : k ≤ 5
    · have e2 : decide (5 < k) = false := by simpa using h2
      go_enter Tryz.func28, Tryz.ntmps28
      go_wp2_with fail
      refine (mayPathX_any pa pc P _ (HP.out.below HB0.out)).mono ?_
      intro e w1 hto
      obtain ⟨z, rfl, hz, hb⟩ := hto
      obtain ⟨x0, s0, B0⟩ := new1 hb
      have HB := Lib.hid B0
      have Hz := Lib.hid hz
      have d0 := cells_at x0
      clear hz hb x0 B0
      cases z with
      | true =>
        have Hq := Lib.hid (show MayQ k P from ⟨h1, h2, .inl (Hz.out.1 rfl)⟩)
        go_wp2_with fail
        go_ret
        exact yes_name Hq.out HB.out
      | false =>
        have hn : ¬ PathP P := fun h => by have := Hz.out.2 h; cases this
        have Hn := Lib.hid hn
        clear hn
        by_cases h5 : k = 5
        · subst h5
          by_cases hl : P = []
          · have Hq := Lib.hid (show MayQ 5 P from ⟨h1, h2, .inr ⟨rfl, hl⟩⟩)
            subst hl
            go_wp2_with fail
            go_ret
            exact yes_name Hq.out HB.out
          · have Hq := Lib.hid (show ¬ MayQ 5 P from fun h => h.2.2.elim Hn.out fun g => hl g.2)
            have e5 : ((P.length : Int) == 0) = false := by
              cases P with
              | nil => exact absurd rfl hl
              | cons a b => simp; omega
            clear hl
            go_wp2_with fail
            go_ret
            exact no_name Hq.out HB.out
        · have Hq := Lib.hid (show ¬ MayQ k P from fun h => h.2.2.elim Hn.out fun g => h5 g.1)
          have e5 : (k == 5) = false := by simpa using h5
          clear h5
          go_wp2_with fail
          go_ret
          exact no_name Hq.out HB.out
    · have Hq := Lib.hid (show ¬ MayQ k P from fun h => h2 h.2.1)
      have e2 : decide (5 < k) = true := by simp; omega
      go_enter Tryz.func28, Tryz.ntmps28
      go_wp2_with fail
      all_goals (go_ret; exact no_name Hq.out HB0.out)
  · have Hq := Lib.hid (show ¬ MayQ k P from fun h => h1 h.1)
    have e1 : decide (k < 1) = true := by simp; omega
    go_enter Tryz.func28, Tryz.ntmps28
    go_wp2_with fail
    all_goals (go_ret; exact no_name Hq.out HB0.out)
set_option maxRecDepth 100000 in
set_option maxHeartbeats 1000000 in
theorem qsame_any (is : Bool) (n : Int) (a b : Option Addr) (c d : Nat) (L : List ByteArray) (w : World) (hA : Strs w a c L) (hB : Strs w b d L) :
    Calls Tryz.prog 14 #[.agg #[.bool is, .int .i64 n, .slice a L.length c], .agg #[.bool is, .int .i64 n, .slice b L.length d]] w fun e w' => e = .returned (.bool true) ∧ Below w.heap.size w w' := by
  have HA := Lib.hid hA
  have HB := Lib.hid hB
  have hl := hA.2.1
  have hc := hA.2.2.1
  unfold maxLen at hc
  clear hA hB
  have hW0 : Below w.heap.size w ((w.alloc (.cells #[.bool is, .int .i64 n, .slice a L.length c] 52)).alloc (.cells #[.bool is, .int .i64 n, .slice b L.length d] 52)) := ((Below.refl _ _).alloc (Nat.le_refl _) _).alloc (by simp) _
  have HW0 := Lib.hid hW0
  clear hW0
  go_enter Tryz.func14, Tryz.ntmps14
  go_wp2_with fail
  go_loopw [5] (fun i wr => ∃ q : Nat, q ≤ L.length ∧ i = .int .i64 q ∧ Hid (Below ((w.alloc (.cells #[.bool is, .int .i64 n, .slice a L.length c] 52)).alloc (.cells #[.bool is, .int .i64 n, .slice b L.length d] 52)).heap.size ((w.alloc (.cells #[.bool is, .int .i64 n, .slice a L.length c] 52)).alloc (.cells #[.bool is, .int .i64 n, .slice b L.length d] 52)) wr)) (fun i _ => L.length - (intOf i).toNat)
  case atStart => exact ⟨0, Nat.zero_le _, rfl, Lib.hid (Below.refl _ _)⟩
  case round =>
    obtain ⟨q, hq, rfl, HR⟩ := hrel
    obtain ⟨x0, x1, s1, B0⟩ := new2 HR.out
    have HB0 := Lib.hid B0
    have d0 := cells_at x0
    have d1 := cells_at x1
    clear x0 x1 B0
    by_cases hlt : q < L.length
    · obtain ⟨x, hx⟩ : ∃ x, L[q]? = some x := ⟨L[q], by simp [hlt]⟩
      obtain ⟨ad, had, c0, hlb⟩ := (HA.out.below HB0.out).at hx
      obtain ⟨ae, hae, c1, hle⟩ := (HB.out.below HB0.out).at hx
      subst had hae
      clear hx
      go_wp2_with fail
      refine region_text [([0, 1, 2, 3, 4, 5, 6, 7, 8, 9, 10], false)] mixed (by kernel_rfl) ?_
      simp only [wpSegs, List.map_cons, List.map_nil, List.getD_cons_succ, List.getD_cons_zero]
      go_wp2_with fail
      refine And.intro (by kernel_rfl) ?_
      go_wp2_with fail
      go_roundw
      case rel => exact ⟨q + 1, by omega, by go_num, Lib.hid HR.out.drew⟩
      case measure => simp [intOf]; omega
    · go_wp2_with fail
      go_ret
      exact ⟨rfl, HB0.out⟩
end Go.Proofs.YtmabjghjkgicgaaGreat
