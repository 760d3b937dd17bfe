/- The reference's Take (varveref17). Printed by wip/tools/gentake17.py. -/
import Derived.Test.YtblahapjdgncfaaMatM
import Derived.Test.YtblahapjdgncfaaMatD
import Derived.Test.YtblahapjdgncfaaVec5
import Derived.Test.YtblahapjdgncfaaBase
import Derived.Deep.CutBlock
namespace Go.Proofs.Ytblahapjdgncfaa
open Go.RowKit
set_option linter.unusedVariables false
set_option linter.unusedSimpArgs false

theorem rmono {w : World} {F G : Nat → Prop} {pw n : Nat} {L : List Ak} (h : RefR w F pw n L) (hF : ∀ k, F k → G k) : RefR w G pw n L := by
  obtain ⟨la, lc, h⟩ := h
  obtain ⟨h1, h2, h3, h4, h5⟩ := h.rd
  refine ⟨la, lc, h.blk, ⟨h1, h2, h3, h4, fun i y hy => ?_⟩, hF _ h.hF, fun k hk => ⟨hF _ (h.hla k hk).1, (h.hla k hk).2⟩⟩
  obtain ⟨ad, cs, h6, h7, h8, ai, ci, av, cv, rfl, hi, hv, hf⟩ := h5 i y hy
  exact ⟨ad, _, h6, h7, h8, ai, ci, av, cv, rfl, hi, hv, fun k hk => ⟨hF _ (hf k hk).1, (hf k hk).2⟩⟩
/-- what the reference's list is behind Take -/
def nextL (n : Int) (L : List Ak) (a : Ak) : List Ak := if takesM n (RL L) a = true then L ++ [ownK a] else L
theorem RL_next {n : Int} {L : List Ak} {a : Ak} (h0 : 0 ≤ a.r) : RL (nextL n L a) = nextM n (RL L) a := by
  unfold nextL nextM
  split
  · funext k
    show rowL (L ++ [ownK a]) k = putM (RL L) a k
    rw [rowL_snoc]
    unfold putM
    by_cases e : k = a.r.toNat
    · rw [if_pos e, if_pos (show (ownK a).r = k by show a.r = k; omega)]
    · rw [if_neg e, if_neg (show ¬ (ownK a).r = k by show ¬ a.r = k; omega)]; rfl
  · rfl

theorem Try.info_u32' : (Try.prog.info? 29).map (fun i => (i.zero, i.size, i.bytes)) = some (some (.int .u32 0), 1, 4) := by kernel_rfl
theorem Try.info_ack : (Try.prog.info? 51).map (fun i => (i.zero, i.size, i.bytes)) = some (some (.agg #[.int .u8 0, .int .u32 0, .slice none 0 0, .slice none 0 0]), 4, 56) := by kernel_rfl
theorem four_one (k i : Int) (s t : Option Addr × Nat × Nat) : ∀ u ∈ [Value.int .u8 k, .int .u32 i, .slice s.1 s.2.1 s.2.2, .slice t.1 t.2.1 t.2.2], u.oneCell' = true := by
  intro u hu
  simp at hu
  rcases hu with rfl | rfl | rfl | rfl <;> rfl
theorem rtake_end {w w6 w8 : World} {F : Nat → Prop} {pw n k : Nat} {L : List Ak} {la : Option Addr} {lc : Nat} {CS : List (List Value)} {i : Int} {l : List Int} {v : List Dt} {a4 a5 a8 : Option Addr} {c4 c5 c8 : Nat}
    (hB6 : Below w.heap.size w w6) (hB8 : Below w6.heap.size w6 w8) (h : RefAt w F pw n L la lc) (hc : Cut 4 (RefRd w F pw) L CS) (he : takesM n (RL L) ⟨k, i, l, v⟩ = true)
    (h8 : w8.ownsRow w.heap.size 51 4 (.slice a8 (L.length + 1) c8) (L.length + 1) (CS.flatten ++ [.int .u8 k, .int .u32 i, .slice a5 l.length c5, .slice a4 (canonV v).length c4]))
    (h5 : w6.ownsRow (w.heap.size + 1) 29 1 (.slice a5 l.length c5) l.length (ucells l)) (h4 : w6.ownsRow (w.heap.size + 1) 34 3 (.slice a4 (canonV v).length c4) (canonV v).length (dcells (canonV v))) :
    RefR (w8.setCell ⟨pw, 1, none⟩ (.slice a8 (L.length + 1) c8)) (fun b => F b ∨ w.heap.size ≤ b ∧ b < (w8.setCell ⟨pw, 1, none⟩ (.slice a8 (L.length + 1) c8)).heap.size) pw n (nextL n L ⟨k, i, l, v⟩) ∧ Chg [pw] w (w8.setCell ⟨pw, 1, none⟩ (.slice a8 (L.length + 1) c8)) := by
  have hlt := heap_lt h.blk
  have hsz := World.size_setCell w8 ⟨pw, 1, none⟩ (.slice a8 (L.length + 1) c8)
  have h68 := hB8.size
  have hB : Below w.heap.size w w8 := hB6.trans (hB8.mono hB6.size)
  have hb8 := (hB.block _ hlt).trans h.blk
  have C1 : Chg [pw] w8 (w8.setCell ⟨pw, 1, none⟩ (.slice a8 (L.length + 1) c8)) := Chg.setCell w8 ⟨pw, 1, none⟩ _
  have CC : Chg [pw] w (w8.setCell ⟨pw, 1, none⟩ (.slice a8 (L.length + 1) c8)) := (Chg.of_below (F := [pw]) hB).trans C1 (by simp)
  have o8 := owns_chg h8 C1 (fun b hb => by have := (owns_lt h8 b hb).1; simp; omega)
  have o5 := owns_chg (owns_chg (F := []) h5 (Chg.of_below hB8) (by simp)) C1 (fun b hb => by have := (owns_lt h5 b hb).1; simp; omega)
  have o4 := owns_chg (owns_chg (F := []) h4 (Chg.of_below hB8) (by simp)) C1 (fun b hb => by have := (owns_lt h4 b hb).1; simp; omega)
  refine ⟨⟨a8, c8, ?_, ?_, .inl h.hF, fun b hb => ?_⟩, CC⟩
  · unfold nextL
    rw [if_pos he, heap_setCell_same _ _ 1 _ _ _ hb8]
    simp
  · unfold nextL
    rw [if_pos he]
    have hcut : Cut 4 (RefRd (w8.setCell ⟨pw, 1, none⟩ (.slice a8 (L.length + 1) c8)) (fun b => F b ∨ w.heap.size ≤ b ∧ b < (w8.setCell ⟨pw, 1, none⟩ (.slice a8 (L.length + 1) c8)).heap.size) pw) (L ++ [ownK ⟨k, i, l, v⟩]) (CS ++ [[.int .u8 k, .int .u32 i, .slice a5 l.length c5, .slice a4 (canonV v).length c4]]) := by
      refine Cut.snoc (hc.imp ?_) rfl ⟨a5, c5, a4, c4, rfl, u32_of o5, vec_of o4, fun b hb => ?_⟩
      · rintro cs y ⟨ai, ci, av, cv, rfl, hi, hv, hf⟩
        refine ⟨ai, ci, av, cv, rfl, Sl.chg hi CC (fun b hb => by simpa using (hf b (by simp [hb])).2), Sl.chg hv CC (fun b hb => by simpa using (hf b (by simp [hb])).2), fun b hb => ⟨.inl (hf b hb).1, (hf b hb).2⟩⟩
      · rcases List.mem_append.1 hb with hb | hb
        · have := owns_lt h5 b hb; exact ⟨.inr ⟨by omega, by rw [hsz]; omega⟩, by omega⟩
        · have := owns_lt h4 b hb; exact ⟨.inr ⟨by omega, by rw [hsz]; omega⟩, by omega⟩
    have hl : (L ++ [ownK ⟨k, i, l, v⟩]).length = L.length + 1 := by simp
    rw [hl]
    refine hcut.rdl ?_ hl
    rw [List.flatten_append]
    simpa using Sl.of_owns o8
  · have := owns_lt h8 b hb
    exact ⟨.inr ⟨this.1, by rw [hsz]; exact this.2⟩, by omega⟩

set_option maxRecDepth 100000 in
set_option maxHeartbeats 8000000 in
theorem rtake_strong (k : Nat) (i : Int) (ai av : Option Addr) (ci cv : Nat) (l : List Int) (v : List Dt) (pw n : Nat) (L : List Ak) (F : Nat → Prop) (w : World) (hM : RefR w F pw n L) (hL : L.length ≤ 900) (hr : ∀ a ∈ L, okA (a.r, a.i)) (hR : okR n (RL L)) (hi : U32 w ai ci l) (hv : Vec w av cv v) (hk : k ≤ 255) (hok : okV v) (hn : l.length ≤ 1000000) (hm : v.length ≤ 1000000) :
    Calls Try.prog 47 #[.pointer (some ⟨pw, 0, none⟩), .agg #[.int .u8 k, .int .u32 i, .slice ai l.length ci, .slice av v.length cv]] w fun e w' =>
      e = .returned (.bool (takesM n (RL L) ⟨k, i, l, v⟩)) ∧ RefR w' (fun b => F b ∨ w.heap.size ≤ b ∧ b < w'.heap.size) pw n (nextL n L ⟨k, i, l, v⟩) ∧ Chg [pw] w w' := by
  have Hi := Lib.hid hi
  have Hv := Lib.hid hv
  have HM := Lib.hid hM
  obtain ⟨la, lc, h⟩ := hM
  have H := Lib.hid h
  have hlt := heap_lt h.blk
  have q0 := cells_at h.blk
  have Hr := Lib.hid hr
  obtain ⟨i0, hi0, hz0, hz1, hz2⟩ := info_parts Try.info_u32
  obtain ⟨j0, hj0, jz0, jz1, jz2⟩ := info_parts Try.info_ack
  obtain ⟨CS, hcut, hsl⟩ := h.rd.cut (by decide)
  have HCut := Lib.hid hcut
  have HSL := Lib.hid hsl
  have Hone := Lib.hid (hcut.one (fun cs y => by rintro ⟨ai, ci, av, cv, rfl, _⟩; exact four_one _ _ (ai, _, ci) (av, _, cv)))
  clear hi hv h hr hcut hsl
  go_enter Try.func47, Try.ntmps47
  go_wp2_with fail
  refine region_text [([0, 1, 2, 3, 4, 5, 6], false)] mixed (by kernel_rfl) ?_
  simp only [wpSegs, List.map_cons, List.map_nil, List.getD_cons_succ, List.getD_cons_zero]
  go_wp2_with fail
  refine (rmayK_any k i ai av ci cv v.length l v n _ (Hi.out.below ?hb) hk hn).mono ?_
  case hb => exact ((Below.refl _ _).alloc (Nat.le_refl _) _).drew
  rintro e w1 ⟨rfl, hb1⟩
  obtain ⟨hx0, hz, hB1⟩ := new1 (((Below.refl _ _).drew).trans hb1)
  have HB1 := Lib.hid hB1
  have q1 := cells_at ((hB1.block _ hlt).trans H.out.blk)
  have d1 := cells_at hx0
  have Hx0 := Lib.hid hx0
  clear hb1 hx0 hB1 q0
  cases hmk : mayK ⟨k, i, l, v⟩ n with
  | false =>
    have He := Lib.hid (show takesM n (RL L) ⟨k, i, l, v⟩ = false by simp [takesM, hmk])
    clear hmk
    go_wp2_with fail
    refine And.intro (by kernel_rfl) ?_
    go_wp2_with fail
    go_ret
    exact ⟨by rw [He.out]; rfl, by unfold nextL; rw [He.out]; exact rmono (HM.out.below HB1.out) (fun _ h => .inl h), Chg.of_below HB1.out⟩
  | true =>
    have Hmk := Lib.hid hmk
    clear hmk
    go_wp2_with fail
    refine And.intro (by kernel_rfl) ?_
    go_wp2_with fail
    refine (rrow_any k pw n L F _ (HM.out.below HB1.out) (by omega) Hr.out).mono ?_
    rintro e w2 (⟨hno, rfl, hb2⟩ | ⟨o, ho, oi, oc, ov, od, rfl, hu0, hv0, hb2⟩)
    · have He := Lib.hid (takes_new (n := n) (R := RL L) (a := ⟨k, i, l, v⟩) Hmk.out (by simpa [RL] using hno))
      go_upto_region 4 with (fail)
      have hb3 := hb2.trans (((Below.refl _ w2).alloc (Nat.le_refl _) (.cells #[.int .u8 0, .int .u32 0, .slice none 0 0, .slice none 0 0] 51)).mono hb2.size)
      generalize w2.alloc (.cells #[.int .u8 0, .int .u32 0, .slice none 0 0, .slice none 0 0] 51) = w3 at *
      have HB3 := Lib.hid (HB1.out.trans (hb3.mono HB1.out.size))
      have hx3 := (hb3.block _ (heap_lt Hx0.out)).trans Hx0.out
      have d3 := cells_at hx3
      have f3 := free_at hx3
      have Hx3 := Lib.hid hx3
      clear hno hb2 hb3 hx3 d1 q1 HB1 Hx0
      go_wp2_with fail
      refine (rcanon_any av cv v _ (Hv.out.below HB3.out) hok hm).mono ?_
      rintro e w4 ⟨a4, c4, rfl, ho4, hb4⟩
      have hsX := HB3.out.size
      have hx4 := (hb4.block _ (heap_lt Hx3.out)).trans Hx3.out
      have HB4 := Lib.hid (HB3.out.trans (hb4.mono hsX))
      have Ho4 := Lib.hid (owns_base ho4 (show w.heap.size + 1 ≤ _ from heap_lt Hx3.out))
      have Hx4 := Lib.hid hx4
      have d4 := cells_at hx4
      have f4 := free_at hx4
      have hs4 : w.heap.size + 1 ≤ w4.heap.size := heap_lt hx4
      clear ho4 hb4 hx4 d3 f3 HB3 Hx3
      go_upto_region 9 with (fail)
      have hx5 : (w4.setCell ⟨w.heap.size, 3, none⟩ (.slice a4 (canonV v).length c4)).heap[w.heap.size]? = some (.cells #[.int .u8 k, .int .u32 i, .slice ai l.length ci, .slice a4 (canonV v).length c4] 51 (0, 0)) := by
        rw [heap_setCell_same _ _ 3 _ _ _ Hx4.out]; rfl
      have hB5 := HB4.out.setCell (p := ⟨w.heap.size, 3, none⟩) (Nat.le_refl _) (.slice a4 (canonV v).length c4)
      have ho4b := owns_chg Ho4.out (Chg.setCell w4 ⟨w.heap.size, 3, none⟩ (.slice a4 (canonV v).length c4)) (fun b hb => by have := (owns_lt Ho4.out b hb).1; simp; omega)
      clear d4 f4 Hx4 HB4 Ho4 hs4
      generalize w4.setCell ⟨w.heap.size, 3, none⟩ (.slice a4 (canonV v).length c4) = v5 at *
      have hlx5 := heap_lt hx5
      have dd5 := cells_at hx5
      have ff5 := free_at hx5
      have HX5 := Lib.hid hx5
      have HV5 := Lib.hid hB5
      have HO5 := Lib.hid ho4b
      clear hx5 hB5 ho4b
      go_wp2_with (at_builtin; go_must (refine wpList_append_sl rfl _ _ 45 rfl v5.heap.size 29 i0 (.int .u32 0) 1 4 Try.underlying45 hi0 hz0 hz1 hz2 rfl (by decide) (some ⟨v5.heap.size, 0, none⟩) 0 0 [] rfl ?o1 ai l.length ci (ucells l) rfl ?s1 ?t1 ?c1 ?d1 ?e1 ?_))
      case o1 => exact World.ownsRow_made v5 #[] 0 (Nat.le_refl _) (by decide) rfl
      case s1 => exact Hi.out.below (HV5.out.alloc HV5.out.size _)
      case t1 => exact ucells_one _
      case c1 => unfold maxLen; omega
      case d1 => omega
      case e1 => first | (simp; done) | (simp; omega)
      intro a5 c5 w5 ho5 hC5 hob5
      try simp only [Nat.zero_add, List.nil_append] at ho5
      try simp only [Nat.zero_add]
      have hB5 : Below v5.heap.size v5 w5 := ((Below.refl _ _).alloc (Nat.le_refl _) _).trans (hC5.below (by simp) (by simp [ob]))
      have hx5 := (hB5.block _ hlx5).trans HX5.out
      have Ho4b := Lib.hid (owns_chg (F := []) HO5.out (Chg.of_below hB5) (by simp))
      have HB5 := Lib.hid (HV5.out.trans (hB5.mono HV5.out.size))
      have Ho5 := Lib.hid (owns_base (base' := w.heap.size + 1) ho5 hlx5)
      have Hx5 := Lib.hid hx5
      have d5 := cells_at hx5
      have f5 := free_at hx5
      have hs5 : w.heap.size + 1 ≤ w5.heap.size := heap_lt hx5
      clear ho5 hC5 hob5 hx5 hB5 dd5 ff5 HX5 HV5 HO5
      go_upto_region 10 with (fail)
      have hx6 : (w5.setCell ⟨w.heap.size, 2, none⟩ (.slice a5 l.length c5)).heap[w.heap.size]? = some (.cells #[.int .u8 k, .int .u32 i, .slice a5 l.length c5, .slice a4 (canonV v).length c4] 51 (0, 0)) := by
        rw [heap_setCell_same _ _ 2 _ _ _ Hx5.out]; rfl
      have hB6 := HB5.out.setCell (p := ⟨w.heap.size, 2, none⟩) (Nat.le_refl _) (.slice a5 l.length c5)
      have ho4c := owns_chg Ho4b.out (Chg.setCell w5 ⟨w.heap.size, 2, none⟩ (.slice a5 l.length c5)) (fun b hb => by have := (owns_lt Ho4b.out b hb).1; simp; omega)
      have ho5c := owns_chg Ho5.out (Chg.setCell w5 ⟨w.heap.size, 2, none⟩ (.slice a5 l.length c5)) (fun b hb => by have := (owns_lt Ho5.out b hb).1; simp; omega)
      clear d5 f5 Hx5 HB5 Ho5 Ho4b
      generalize w5.setCell ⟨w.heap.size, 2, none⟩ (.slice a5 l.length c5) = w6 at *
      have hq6 := (hB6.block _ hlt).trans H.out.blk
      have hs6 : w.heap.size + 1 ≤ w6.heap.size := heap_lt hx6
      have hne : pw ≠ w.heap.size := by omega
      have Hx6 := Lib.hid hx6
      have Hq6 := Lib.hid hq6
      have HB6 := Lib.hid hB6
      have Ho4c := Lib.hid ho4c
      have Ho5c := Lib.hid ho5c
      have HS6 := Lib.hid (HSL.out.below hB6)
      have d6 := cells_at hx6
      have q6 := cells_at hq6
      clear hx6 hq6 hB6 ho4c ho5c
      refine region_tree_at (fun q => q = pw ∨ q = w.heap.size) (.seg [0, 2, 3, 4, 5, 7] false (.fork (.seg [1] false (.fork (.seg [6] true (.seg [8, 9, 10, 11, 12] false .done)) (.seg [8] false (.seg [6] true (.seg [9, 10, 11, 12] false .done))))) (.seg [8, 1] false (.seg [6] true (.seg [9, 10, 11, 12] false .done))))) mixed (by kernel_rfl) ?_
      simp only [wpSgB, List.map_cons, List.map_nil, List.getD_cons_succ, List.getD_cons_zero]
      go_wp2_with fail
      refine And.intro ?_ ?_
      · go_wp2_with fail
        refine And.intro ?_ ?_
        · skip
          go_wp2_with (at_builtin; go_must (refine wpList_append_sl rfl _ _ 44 rfl w6.heap.size 51 j0 (.agg #[.int .u8 0, .int .u32 0, .slice none 0 0, .slice none 0 0]) 4 56 Try.underlying44 hj0 jz0 jz1 jz2 rfl (by decide) (some ⟨w6.heap.size, 0, none⟩) 0 0 [] rfl ?o2 la L.length lc CS.flatten rfl ?s2 ?t2 ?c2 ?d2 ?e2 ?_))
          case o2 =>
            exact World.ownsRow_made w6 #[] 0 (Nat.le_refl _) (by decide) rfl
          case s2 => exact HS6.out.below ((Below.refl _ w6).alloc (Nat.le_refl _) _).drew
          case t2 => exact Hone.out
          case c2 => unfold maxLen; omega
          case d2 => omega
          case e2 => first | (simp; done) | (simp; omega)
          intro a7 c7 w7 ho7 hC7 hob7
          try simp only [Nat.zero_add, List.nil_append] at ho7
          try simp only [Nat.zero_add]
          have hB7 : Below w6.heap.size w6 w7 := ((Below.refl _ w6).alloc (Nat.le_refl _) _).drew.trans (hC7.below (by simp <;> omega) (by simp [ob]))
          have hHeld := held_two (p := pw) (q := w.heap.size) ((((Below.refl _ w6).alloc (Nat.le_refl _) _).drew.block _ (Nat.lt_of_lt_of_le hlt (by omega))).trans Hq6.out) ((((Below.refl _ w6).alloc (Nat.le_refl _) _).drew.block _ (by omega)).trans Hx6.out) hC7 (by simp [ob]; omega) (by simp [ob]; omega)
          have Ho7 := Lib.hid ho7
          have HB7 := Lib.hid hB7
          clear ho7 hC7 hob7 hB7
          go_wp2_with fail
          refine And.intro hHeld ?_
          clear hHeld
          have hq7 := (HB7.out.block _ (Nat.lt_of_lt_of_le hlt (by omega))).trans Hq6.out
          have q7 := cells_at hq7
          have g7 := free_at hq7
          have Hq7 := Lib.hid hq7
          have hs7 := HB7.out.size
          clear hq7
          go_wp2_with (at_builtin; go_must (refine wpList_append_sl rfl _ _ 44 rfl w6.heap.size 51 j0 (.agg #[.int .u8 0, .int .u32 0, .slice none 0 0, .slice none 0 0]) 4 56 Try.underlying44 hj0 jz0 jz1 jz2 rfl (by decide) a7 L.length c7 CS.flatten rfl (Ho7.out.alloc _) (some ⟨w7.heap.size, 0, none⟩) 1 1 [.int .u8 k, .int .u32 i, .slice a5 l.length c5, .slice a4 (canonV v).length c4] rfl ?s3 ?t3 ?c3 ?d3 ?e3 ?_))
          case s3 => exact Sl.blk (C := #[.int .u8 k, .int .u32 i, .slice a5 l.length c5, .slice a4 (canonV v).length c4]) (heap_new w7 _) rfl (by decide)
          case t3 => exact four_one _ _ (a5, _, c5) (a4, _, c4)
          case c3 => unfold maxLen; omega
          case d3 => omega
          case e3 => first | omega | (simp; omega)
          intro a8 c8 w8 ho8 hC8 hob8
          have hlt7 := owns_lt Ho7.out
          have HB8 : Hid (Below w6.heap.size w6 w8) := Lib.hid ((HB7.out.alloc hs7 _).trans (hC8.below (by simp; omega) (fun x hx => (hlt7 x hx).1)))
          have ho8' := owns_base (base' := w.heap.size) ho8 (by omega)
          have Ho8 := Lib.hid ho8'
          have hq8 := (HB8.out.block _ (Nat.lt_of_lt_of_le hlt (by omega))).trans Hq6.out
          have q8 := cells_at hq8
          have g8 := free_at hq8
          clear ho8 ho8' hC8 hob8 hq8 q7 g7
          go_wp2_with fail
          refine And.intro (And.intro (by kernel_rfl) ?rds) ?_
          case rds => exact reads_of ⟨trivial, trivial, trivial, trivial, trivial, .inl rfl, trivial, .inr rfl, trivial, trivial, trivial, trivial, trivial, trivial⟩
          skip
          go_wp2_with fail
          go_ret
          exact ⟨by rw [He.out]; rfl, rtake_end HB6.out HB8.out H.out HCut.out He.out Ho8.out Ho5c.out Ho4c.out⟩
        · skip
          go_wp2_with (at_builtin; go_must (refine wpList_append_sl rfl _ _ 44 rfl w6.heap.size 51 j0 (.agg #[.int .u8 0, .int .u32 0, .slice none 0 0, .slice none 0 0]) 4 56 Try.underlying44 hj0 jz0 jz1 jz2 rfl (by decide) (some ⟨w6.heap.size, 0, none⟩) 0 0 [] rfl ?o2 la L.length lc CS.flatten rfl ?s2 ?t2 ?c2 ?d2 ?e2 ?_))
          case o2 =>
            exact (World.ownsRow_made w6 #[] 0 (Nat.le_refl _) (by decide) rfl).alloc _
          case s2 => exact HS6.out.below (((Below.refl _ w6).alloc (Nat.le_refl _) _).alloc (by simp) _).drew
          case t2 => exact Hone.out
          case c2 => unfold maxLen; omega
          case d2 => omega
          case e2 => first | (simp; done) | (simp; omega)
          intro a7 c7 w7 ho7 hC7 hob7
          try simp only [Nat.zero_add, List.nil_append] at ho7
          try simp only [Nat.zero_add]
          have hB7 : Below w6.heap.size w6 w7 := (((Below.refl _ w6).alloc (Nat.le_refl _) _).alloc (by simp) _).drew.trans (hC7.below (by simp <;> omega) (by simp [ob]))
          have hHeld := held_two (p := pw) (q := w.heap.size) (((((Below.refl _ w6).alloc (Nat.le_refl _) _).alloc (by simp) _).drew.block _ (Nat.lt_of_lt_of_le hlt (by omega))).trans Hq6.out) (((((Below.refl _ w6).alloc (Nat.le_refl _) _).alloc (by simp) _).drew.block _ (by omega)).trans Hx6.out) hC7 (by simp [ob]; omega) (by simp [ob]; omega)
          have Ho7 := Lib.hid ho7
          have HB7 := Lib.hid hB7
          have hbd : w7.heap[w6.heap.size + 1]? = some (.cells #[.int .u8 k, .int .u32 i, .slice a5 l.length c5, .slice a4 (canonV v).length c4] 51 (0, 0)) := heap_chg (w := ((w6.alloc (.cells #[] 51)).alloc (.cells #[.int .u8 k, .int .u32 i, .slice a5 l.length c5, .slice a4 (canonV v).length c4] 51)).drew) (by exact heap_new2 w6 _ _) hC7 (by simp [ob])
          have Hbd := Lib.hid hbd
          clear hbd
          clear ho7 hC7 hob7 hB7
          go_wp2_with fail
          refine And.intro hHeld ?_
          clear hHeld
          have hq7 := (HB7.out.block _ (Nat.lt_of_lt_of_le hlt (by omega))).trans Hq6.out
          have q7 := cells_at hq7
          have g7 := free_at hq7
          have Hq7 := Lib.hid hq7
          have hs7 := HB7.out.size
          clear hq7
          go_wp2_with (at_builtin; go_must (refine wpList_append_sl rfl _ _ 44 rfl w6.heap.size 51 j0 (.agg #[.int .u8 0, .int .u32 0, .slice none 0 0, .slice none 0 0]) 4 56 Try.underlying44 hj0 jz0 jz1 jz2 rfl (by decide) a7 L.length c7 CS.flatten rfl Ho7.out (some ⟨w6.heap.size + 1, 0, none⟩) 1 1 [.int .u8 k, .int .u32 i, .slice a5 l.length c5, .slice a4 (canonV v).length c4] rfl ?s3 ?t3 ?c3 ?d3 ?e3 ?_))
          case s3 => exact Sl.blk (C := #[.int .u8 k, .int .u32 i, .slice a5 l.length c5, .slice a4 (canonV v).length c4]) Hbd.out rfl (by decide)
          case t3 => exact four_one _ _ (a5, _, c5) (a4, _, c4)
          case c3 => unfold maxLen; omega
          case d3 => omega
          case e3 => first | omega | (simp; omega)
          intro a8 c8 w8 ho8 hC8 hob8
          have hlt7 := owns_lt Ho7.out
          have HB8 : Hid (Below w6.heap.size w6 w8) := Lib.hid (HB7.out.trans (hC8.below hs7 (fun x hx => (hlt7 x hx).1)))
          have ho8' := owns_base (base' := w.heap.size) ho8 (by omega)
          have Ho8 := Lib.hid ho8'
          have hq8 := (HB8.out.block _ (Nat.lt_of_lt_of_le hlt (by omega))).trans Hq6.out
          have q8 := cells_at hq8
          have g8 := free_at hq8
          clear ho8 ho8' hC8 hob8 hq8 q7 g7
          go_wp2_with fail
          refine And.intro (And.intro (by kernel_rfl) ?rds) ?_
          case rds => exact reads_of ⟨trivial, trivial, trivial, trivial, trivial, .inl rfl, trivial, .inr rfl, trivial, trivial, trivial, trivial, trivial, trivial⟩
          skip
          go_wp2_with fail
          go_ret
          exact ⟨by rw [He.out]; rfl, rtake_end HB6.out HB8.out H.out HCut.out He.out Ho8.out Ho5c.out Ho4c.out⟩
      · skip
        go_wp2_with (at_builtin; go_must (refine wpList_append_sl rfl _ _ 44 rfl w6.heap.size 51 j0 (.agg #[.int .u8 0, .int .u32 0, .slice none 0 0, .slice none 0 0]) 4 56 Try.underlying44 hj0 jz0 jz1 jz2 rfl (by decide) (some ⟨w6.heap.size + 1, 0, none⟩) 0 0 [] rfl ?o2 la L.length lc CS.flatten rfl ?s2 ?t2 ?c2 ?d2 ?e2 ?_))
        case o2 =>
          have h1 := (owns_base (base' := w6.heap.size) (e := 51) (size := 4) (World.ownsRow_made (w6.alloc (.cells #[.int .u8 k, .int .u32 i, .slice a5 l.length c5, .slice a4 (canonV v).length c4] 51)) #[] 0 (Nat.le_refl _) (by decide) rfl) (by simp))
          rw [World.size_alloc] at h1
          exact h1
        case s2 => exact HS6.out.below (((Below.refl _ w6).alloc (Nat.le_refl _) _).alloc (by simp) _).drew
        case t2 => exact Hone.out
        case c2 => unfold maxLen; omega
        case d2 => omega
        case e2 => first | (simp; done) | (simp; omega)
        intro a7 c7 w7 ho7 hC7 hob7
        try simp only [Nat.zero_add, List.nil_append] at ho7
        try simp only [Nat.zero_add]
        have hB7 : Below w6.heap.size w6 w7 := (((Below.refl _ w6).alloc (Nat.le_refl _) _).alloc (by simp) _).drew.trans (hC7.below (by simp <;> omega) (by simp [ob]))
        have hHeld := held_two (p := pw) (q := w.heap.size) (((((Below.refl _ w6).alloc (Nat.le_refl _) _).alloc (by simp) _).drew.block _ (Nat.lt_of_lt_of_le hlt (by omega))).trans Hq6.out) (((((Below.refl _ w6).alloc (Nat.le_refl _) _).alloc (by simp) _).drew.block _ (by omega)).trans Hx6.out) hC7 (by simp [ob]; omega) (by simp [ob]; omega)
        have Ho7 := Lib.hid ho7
        have HB7 := Lib.hid hB7
        have hbd : w7.heap[w6.heap.size]? = some (.cells #[.int .u8 k, .int .u32 i, .slice a5 l.length c5, .slice a4 (canonV v).length c4] 51 (0, 0)) := heap_chg (w := ((w6.alloc (.cells #[.int .u8 k, .int .u32 i, .slice a5 l.length c5, .slice a4 (canonV v).length c4] 51)).alloc (.cells #[] 51)).drew) (by exact (heap_old _ _ (by simp)).trans (heap_new w6 _)) hC7 (by simp [ob])
        have Hbd := Lib.hid hbd
        clear hbd
        clear ho7 hC7 hob7 hB7
        go_wp2_with fail
        refine And.intro hHeld ?_
        clear hHeld
        have hq7 := (HB7.out.block _ (Nat.lt_of_lt_of_le hlt (by omega))).trans Hq6.out
        have q7 := cells_at hq7
        have g7 := free_at hq7
        have Hq7 := Lib.hid hq7
        have hs7 := HB7.out.size
        clear hq7
        go_wp2_with (at_builtin; go_must (refine wpList_append_sl rfl _ _ 44 rfl w6.heap.size 51 j0 (.agg #[.int .u8 0, .int .u32 0, .slice none 0 0, .slice none 0 0]) 4 56 Try.underlying44 hj0 jz0 jz1 jz2 rfl (by decide) a7 L.length c7 CS.flatten rfl Ho7.out (some ⟨w6.heap.size, 0, none⟩) 1 1 [.int .u8 k, .int .u32 i, .slice a5 l.length c5, .slice a4 (canonV v).length c4] rfl ?s3 ?t3 ?c3 ?d3 ?e3 ?_))
        case s3 => exact Sl.blk (C := #[.int .u8 k, .int .u32 i, .slice a5 l.length c5, .slice a4 (canonV v).length c4]) Hbd.out rfl (by decide)
        case t3 => exact four_one _ _ (a5, _, c5) (a4, _, c4)
        case c3 => unfold maxLen; omega
        case d3 => omega
        case e3 => first | omega | (simp; omega)
        intro a8 c8 w8 ho8 hC8 hob8
        have hlt7 := owns_lt Ho7.out
        have HB8 : Hid (Below w6.heap.size w6 w8) := Lib.hid (HB7.out.trans (hC8.below hs7 (fun x hx => (hlt7 x hx).1)))
        have ho8' := owns_base (base' := w.heap.size) ho8 (by omega)
        have Ho8 := Lib.hid ho8'
        have hq8 := (HB8.out.block _ (Nat.lt_of_lt_of_le hlt (by omega))).trans Hq6.out
        have q8 := cells_at hq8
        have g8 := free_at hq8
        clear ho8 ho8' hC8 hob8 hq8 q7 g7
        go_wp2_with fail
        refine And.intro (And.intro (by kernel_rfl) ?rds) ?_
        case rds => exact reads_of ⟨trivial, trivial, trivial, trivial, trivial, .inl rfl, trivial, .inr rfl, trivial, trivial, trivial, trivial, trivial, trivial⟩
        skip
        go_wp2_with fail
        go_ret
        exact ⟨by rw [He.out]; rfl, rtake_end HB6.out HB8.out H.out HCut.out He.out Ho8.out Ho5c.out Ho4c.out⟩
    · go_upto_region 4 with (fail)
      have hb3 := hb2.trans (((Below.refl _ w2).alloc (Nat.le_refl _) (.cells #[.int .u8 o.r, .int .u32 o.i, .slice oi o.incs.length oc, .slice ov o.vv.length od] 51)).mono hb2.size)
      have hn3 := heap_new w2 (.cells #[.int .u8 o.r, .int .u32 o.i, .slice oi o.incs.length oc, .slice ov o.vv.length od] 51)
      have hu3 := hu0.below ((Below.refl _ w2).alloc (Nat.le_refl _) (.cells #[.int .u8 o.r, .int .u32 o.i, .slice oi o.incs.length oc, .slice ov o.vv.length od] 51))
      have hv3 := hv0.below ((Below.refl _ w2).alloc (Nat.le_refl _) (.cells #[.int .u8 o.r, .int .u32 o.i, .slice oi o.incs.length oc, .slice ov o.vv.length od] 51))
      generalize w2.alloc (.cells #[.int .u8 o.r, .int .u32 o.i, .slice oi o.incs.length oc, .slice ov o.vv.length od] 51) = w3 at *
      have HB3 := Lib.hid (HB1.out.trans (hb3.mono HB1.out.size))
      have hx3 := (hb3.block _ (heap_lt Hx0.out)).trans Hx0.out
      have d3 := cells_at hx3
      have f3 := free_at hx3
      have Hx3 := Lib.hid hx3
      have m3 := cells_at hn3
      have Hn3 := Lib.hid hn3
      have Hu3 := Lib.hid hu3
      have Hv3 := Lib.hid hv3
      have Ho := Lib.hid (hR k o ho)
      have HRk := Lib.hid (show RL L k = some o from ho)
      clear ho hu0 hv0 hb2 hb3 hx3 hn3 hu3 hv3 d1 q1 HB1 Hx0
      by_cases hgt : i < o.i
      · have He := Lib.hid (takes_bar (n := n) (R := RL L) (a := ⟨k, i, l, v⟩) (by simpa using HRk.out) (show bars o ⟨k, i, l, v⟩ = true by simp [bars, hgt]))
        go_wp2_with fail
        go_ret
        exact ⟨by rw [He.out]; rfl, by unfold nextL; rw [He.out]; exact rmono (HM.out.below HB3.out) (fun _ h => .inl h), Chg.of_below HB3.out⟩
      · have hgt' : decide (i < o.i) = false := by simpa using hgt
        by_cases heq : o.i = i
        · have heq' : (o.i == i) = true := by simpa using heq
          have Hok := Lib.hid Ho.out.2.2.2.1
          have hol : o.incs.length ≤ 1000000 := by have := ((mayIncs_iff o.incs n).1 Ho.out.2.2.2.2.1).2.2.1; have := ((mayIncs_iff o.incs n).1 Ho.out.2.2.2.2.1).2.1; omega
          have hov : o.vv.length ≤ 1000000 := by rw [← Ho.out.2.2.2.2.2]; exact Nat.le_trans (vecOf_length _) (by decide)
          go_wp2_with fail
          refine (rwithinI_any oi ai oc ci o.incs l _ Hu3.out (Hi.out.below HB3.out) hol hn).mono ?_
          rintro e w4 ⟨rfl, hb4⟩
          have HB4 := Lib.hid (HB3.out.trans (hb4.mono HB3.out.size))
          have hx4 := (hb4.block _ (heap_lt Hx3.out)).trans Hx3.out
          have d4 := cells_at hx4
          have Hx4 := Lib.hid hx4
          have hn4 := (hb4.block _ (heap_lt Hn3.out)).trans Hn3.out
          have m4 := cells_at hn4
          have Hv4 := Lib.hid (Hv3.out.below hb4)
          clear hb4 hx4 hn4 d3 f3 m3 HB3 Hx3 Hn3 Hu3 Hv3
          cases hwi : withinI o.incs l with
          | false =>
            have He := Lib.hid (takes_bar (n := n) (R := RL L) (a := ⟨k, i, l, v⟩) (by simpa using HRk.out) (show bars o ⟨k, i, l, v⟩ = true by simp [bars, heq, hwi]))
            clear hwi
            go_wp2_with fail
            go_ret
            exact ⟨by rw [He.out]; rfl, by unfold nextL; rw [He.out]; exact rmono (HM.out.below HB4.out) (fun _ h => .inl h), Chg.of_below HB4.out⟩
          | true =>
            have Hwi := Lib.hid hwi
            clear hwi
            go_wp2_with fail
            refine (rwithin_any ov av od cv o.vv v _ Hv4.out (Hv.out.below HB4.out) Hok.out hov hm).mono ?_
            rintro e w5 ⟨rfl, hb5⟩
            have HB5 := Lib.hid (HB4.out.trans (hb5.mono HB4.out.size))
            have hx5 := (hb5.block _ (heap_lt Hx4.out)).trans Hx4.out
            have d5 := cells_at hx5
            have f5 := free_at hx5
            have Hx5 := Lib.hid hx5
            clear hb5 hx5 d4 m4 HB4 Hx4 Hv4
            cases hwv : withinV o.vv v with
            | false =>
              have He := Lib.hid (takes_bar (n := n) (R := RL L) (a := ⟨k, i, l, v⟩) (by simpa using HRk.out) (show bars o ⟨k, i, l, v⟩ = true by simp [bars, heq, hwv]))
              clear hwv
              go_wp2_with fail
              go_ret
              exact ⟨by rw [He.out]; rfl, by unfold nextL; rw [He.out]; exact rmono (HM.out.below HB5.out) (fun _ h => .inl h), Chg.of_below HB5.out⟩
            | true =>
              have He := Lib.hid (takes_old (n := n) (R := RL L) (a := ⟨k, i, l, v⟩) Hmk.out (by simpa using HRk.out) (show bars o ⟨k, i, l, v⟩ = false by simp [bars, hgt, heq, hwv, Hwi.out]))
              clear hwv
              go_wp2_with fail
              refine (rcanon_any av cv v _ (Hv.out.below HB5.out) hok hm).mono ?_
              rintro e w4 ⟨a4, c4, rfl, ho4, hb4⟩
              have hsX := HB5.out.size
              have hx4 := (hb4.block _ (heap_lt Hx5.out)).trans Hx5.out
              have HB4 := Lib.hid (HB5.out.trans (hb4.mono hsX))
              have Ho4 := Lib.hid (owns_base ho4 (show w.heap.size + 1 ≤ _ from heap_lt Hx5.out))
              have Hx4 := Lib.hid hx4
              have d4 := cells_at hx4
              have f4 := free_at hx4
              have hs4 : w.heap.size + 1 ≤ w4.heap.size := heap_lt hx4
              clear ho4 hb4 hx4 d5 f5 HB5 Hx5
              go_upto_region 9 with (fail)
              have hx5 : (w4.setCell ⟨w.heap.size, 3, none⟩ (.slice a4 (canonV v).length c4)).heap[w.heap.size]? = some (.cells #[.int .u8 k, .int .u32 i, .slice ai l.length ci, .slice a4 (canonV v).length c4] 51 (0, 0)) := by
                rw [heap_setCell_same _ _ 3 _ _ _ Hx4.out]; rfl
              have hB5 := HB4.out.setCell (p := ⟨w.heap.size, 3, none⟩) (Nat.le_refl _) (.slice a4 (canonV v).length c4)
              have ho4b := owns_chg Ho4.out (Chg.setCell w4 ⟨w.heap.size, 3, none⟩ (.slice a4 (canonV v).length c4)) (fun b hb => by have := (owns_lt Ho4.out b hb).1; simp; omega)
              clear d4 f4 Hx4 HB4 Ho4 hs4
              generalize w4.setCell ⟨w.heap.size, 3, none⟩ (.slice a4 (canonV v).length c4) = v5 at *
              have hlx5 := heap_lt hx5
              have dd5 := cells_at hx5
              have ff5 := free_at hx5
              have HX5 := Lib.hid hx5
              have HV5 := Lib.hid hB5
              have HO5 := Lib.hid ho4b
              clear hx5 hB5 ho4b
              go_wp2_with (at_builtin; go_must (refine wpList_append_sl rfl _ _ 45 rfl v5.heap.size 29 i0 (.int .u32 0) 1 4 Try.underlying45 hi0 hz0 hz1 hz2 rfl (by decide) (some ⟨v5.heap.size, 0, none⟩) 0 0 [] rfl ?o1 ai l.length ci (ucells l) rfl ?s1 ?t1 ?c1 ?d1 ?e1 ?_))
              case o1 => exact World.ownsRow_made v5 #[] 0 (Nat.le_refl _) (by decide) rfl
              case s1 => exact Hi.out.below (HV5.out.alloc HV5.out.size _)
              case t1 => exact ucells_one _
              case c1 => unfold maxLen; omega
              case d1 => omega
              case e1 => first | (simp; done) | (simp; omega)
              intro a5 c5 w5 ho5 hC5 hob5
              try simp only [Nat.zero_add, List.nil_append] at ho5
              try simp only [Nat.zero_add]
              have hB5 : Below v5.heap.size v5 w5 := ((Below.refl _ _).alloc (Nat.le_refl _) _).trans (hC5.below (by simp) (by simp [ob]))
              have hx5 := (hB5.block _ hlx5).trans HX5.out
              have Ho4b := Lib.hid (owns_chg (F := []) HO5.out (Chg.of_below hB5) (by simp))
              have HB5 := Lib.hid (HV5.out.trans (hB5.mono HV5.out.size))
              have Ho5 := Lib.hid (owns_base (base' := w.heap.size + 1) ho5 hlx5)
              have Hx5 := Lib.hid hx5
              have d5 := cells_at hx5
              have f5 := free_at hx5
              have hs5 : w.heap.size + 1 ≤ w5.heap.size := heap_lt hx5
              clear ho5 hC5 hob5 hx5 hB5 dd5 ff5 HX5 HV5 HO5
              go_upto_region 10 with (fail)
              have hx6 : (w5.setCell ⟨w.heap.size, 2, none⟩ (.slice a5 l.length c5)).heap[w.heap.size]? = some (.cells #[.int .u8 k, .int .u32 i, .slice a5 l.length c5, .slice a4 (canonV v).length c4] 51 (0, 0)) := by
                rw [heap_setCell_same _ _ 2 _ _ _ Hx5.out]; rfl
              have hB6 := HB5.out.setCell (p := ⟨w.heap.size, 2, none⟩) (Nat.le_refl _) (.slice a5 l.length c5)
              have ho4c := owns_chg Ho4b.out (Chg.setCell w5 ⟨w.heap.size, 2, none⟩ (.slice a5 l.length c5)) (fun b hb => by have := (owns_lt Ho4b.out b hb).1; simp; omega)
              have ho5c := owns_chg Ho5.out (Chg.setCell w5 ⟨w.heap.size, 2, none⟩ (.slice a5 l.length c5)) (fun b hb => by have := (owns_lt Ho5.out b hb).1; simp; omega)
              clear d5 f5 Hx5 HB5 Ho5 Ho4b
              generalize w5.setCell ⟨w.heap.size, 2, none⟩ (.slice a5 l.length c5) = w6 at *
              have hq6 := (hB6.block _ hlt).trans H.out.blk
              have hs6 : w.heap.size + 1 ≤ w6.heap.size := heap_lt hx6
              have hne : pw ≠ w.heap.size := by omega
              have Hx6 := Lib.hid hx6
              have Hq6 := Lib.hid hq6
              have HB6 := Lib.hid hB6
              have Ho4c := Lib.hid ho4c
              have Ho5c := Lib.hid ho5c
              have HS6 := Lib.hid (HSL.out.below hB6)
              have d6 := cells_at hx6
              have q6 := cells_at hq6
              clear hx6 hq6 hB6 ho4c ho5c
              refine region_tree_at (fun q => q = pw ∨ q = w.heap.size) (.seg [0, 2, 3, 4, 5, 7] false (.fork (.seg [1] false (.fork (.seg [6] true (.seg [8, 9, 10, 11, 12] false .done)) (.seg [8] false (.seg [6] true (.seg [9, 10, 11, 12] false .done))))) (.seg [8, 1] false (.seg [6] true (.seg [9, 10, 11, 12] false .done))))) mixed (by kernel_rfl) ?_
              simp only [wpSgB, List.map_cons, List.map_nil, List.getD_cons_succ, List.getD_cons_zero]
              go_wp2_with fail
              refine And.intro ?_ ?_
              · go_wp2_with fail
                refine And.intro ?_ ?_
                · skip
                  go_wp2_with (at_builtin; go_must (refine wpList_append_sl rfl _ _ 44 rfl w6.heap.size 51 j0 (.agg #[.int .u8 0, .int .u32 0, .slice none 0 0, .slice none 0 0]) 4 56 Try.underlying44 hj0 jz0 jz1 jz2 rfl (by decide) (some ⟨w6.heap.size, 0, none⟩) 0 0 [] rfl ?o2 la L.length lc CS.flatten rfl ?s2 ?t2 ?c2 ?d2 ?e2 ?_))
                  case o2 =>
                    exact World.ownsRow_made w6 #[] 0 (Nat.le_refl _) (by decide) rfl
                  case s2 => exact HS6.out.below ((Below.refl _ w6).alloc (Nat.le_refl _) _).drew
                  case t2 => exact Hone.out
                  case c2 => unfold maxLen; omega
                  case d2 => omega
                  case e2 => first | (simp; done) | (simp; omega)
                  intro a7 c7 w7 ho7 hC7 hob7
                  try simp only [Nat.zero_add, List.nil_append] at ho7
                  try simp only [Nat.zero_add]
                  have hB7 : Below w6.heap.size w6 w7 := ((Below.refl _ w6).alloc (Nat.le_refl _) _).drew.trans (hC7.below (by simp <;> omega) (by simp [ob]))
                  have hHeld := held_two (p := pw) (q := w.heap.size) ((((Below.refl _ w6).alloc (Nat.le_refl _) _).drew.block _ (Nat.lt_of_lt_of_le hlt (by omega))).trans Hq6.out) ((((Below.refl _ w6).alloc (Nat.le_refl _) _).drew.block _ (by omega)).trans Hx6.out) hC7 (by simp [ob]; omega) (by simp [ob]; omega)
                  have Ho7 := Lib.hid ho7
                  have HB7 := Lib.hid hB7
                  clear ho7 hC7 hob7 hB7
                  go_wp2_with fail
                  refine And.intro hHeld ?_
                  clear hHeld
                  have hq7 := (HB7.out.block _ (Nat.lt_of_lt_of_le hlt (by omega))).trans Hq6.out
                  have q7 := cells_at hq7
                  have g7 := free_at hq7
                  have Hq7 := Lib.hid hq7
                  have hs7 := HB7.out.size
                  clear hq7
                  go_wp2_with (at_builtin; go_must (refine wpList_append_sl rfl _ _ 44 rfl w6.heap.size 51 j0 (.agg #[.int .u8 0, .int .u32 0, .slice none 0 0, .slice none 0 0]) 4 56 Try.underlying44 hj0 jz0 jz1 jz2 rfl (by decide) a7 L.length c7 CS.flatten rfl (Ho7.out.alloc _) (some ⟨w7.heap.size, 0, none⟩) 1 1 [.int .u8 k, .int .u32 i, .slice a5 l.length c5, .slice a4 (canonV v).length c4] rfl ?s3 ?t3 ?c3 ?d3 ?e3 ?_))
                  case s3 => exact Sl.blk (C := #[.int .u8 k, .int .u32 i, .slice a5 l.length c5, .slice a4 (canonV v).length c4]) (heap_new w7 _) rfl (by decide)
                  case t3 => exact four_one _ _ (a5, _, c5) (a4, _, c4)
                  case c3 => unfold maxLen; omega
                  case d3 => omega
                  case e3 => first | omega | (simp; omega)
                  intro a8 c8 w8 ho8 hC8 hob8
                  have hlt7 := owns_lt Ho7.out
                  have HB8 : Hid (Below w6.heap.size w6 w8) := Lib.hid ((HB7.out.alloc hs7 _).trans (hC8.below (by simp; omega) (fun x hx => (hlt7 x hx).1)))
                  have ho8' := owns_base (base' := w.heap.size) ho8 (by omega)
                  have Ho8 := Lib.hid ho8'
                  have hq8 := (HB8.out.block _ (Nat.lt_of_lt_of_le hlt (by omega))).trans Hq6.out
                  have q8 := cells_at hq8
                  have g8 := free_at hq8
                  clear ho8 ho8' hC8 hob8 hq8 q7 g7
                  go_wp2_with fail
                  refine And.intro (And.intro (by kernel_rfl) ?rds) ?_
                  case rds => exact reads_of ⟨trivial, trivial, trivial, trivial, trivial, .inl rfl, trivial, .inr rfl, trivial, trivial, trivial, trivial, trivial, trivial⟩
                  skip
                  go_wp2_with fail
                  go_ret
                  exact ⟨by rw [He.out]; rfl, rtake_end HB6.out HB8.out H.out HCut.out He.out Ho8.out Ho5c.out Ho4c.out⟩
                · skip
                  go_wp2_with (at_builtin; go_must (refine wpList_append_sl rfl _ _ 44 rfl w6.heap.size 51 j0 (.agg #[.int .u8 0, .int .u32 0, .slice none 0 0, .slice none 0 0]) 4 56 Try.underlying44 hj0 jz0 jz1 jz2 rfl (by decide) (some ⟨w6.heap.size, 0, none⟩) 0 0 [] rfl ?o2 la L.length lc CS.flatten rfl ?s2 ?t2 ?c2 ?d2 ?e2 ?_))
                  case o2 =>
                    exact (World.ownsRow_made w6 #[] 0 (Nat.le_refl _) (by decide) rfl).alloc _
                  case s2 => exact HS6.out.below (((Below.refl _ w6).alloc (Nat.le_refl _) _).alloc (by simp) _).drew
                  case t2 => exact Hone.out
                  case c2 => unfold maxLen; omega
                  case d2 => omega
                  case e2 => first | (simp; done) | (simp; omega)
                  intro a7 c7 w7 ho7 hC7 hob7
                  try simp only [Nat.zero_add, List.nil_append] at ho7
                  try simp only [Nat.zero_add]
                  have hB7 : Below w6.heap.size w6 w7 := (((Below.refl _ w6).alloc (Nat.le_refl _) _).alloc (by simp) _).drew.trans (hC7.below (by simp <;> omega) (by simp [ob]))
                  have hHeld := held_two (p := pw) (q := w.heap.size) (((((Below.refl _ w6).alloc (Nat.le_refl _) _).alloc (by simp) _).drew.block _ (Nat.lt_of_lt_of_le hlt (by omega))).trans Hq6.out) (((((Below.refl _ w6).alloc (Nat.le_refl _) _).alloc (by simp) _).drew.block _ (by omega)).trans Hx6.out) hC7 (by simp [ob]; omega) (by simp [ob]; omega)
                  have Ho7 := Lib.hid ho7
                  have HB7 := Lib.hid hB7
                  have hbd : w7.heap[w6.heap.size + 1]? = some (.cells #[.int .u8 k, .int .u32 i, .slice a5 l.length c5, .slice a4 (canonV v).length c4] 51 (0, 0)) := heap_chg (w := ((w6.alloc (.cells #[] 51)).alloc (.cells #[.int .u8 k, .int .u32 i, .slice a5 l.length c5, .slice a4 (canonV v).length c4] 51)).drew) (by exact heap_new2 w6 _ _) hC7 (by simp [ob])
                  have Hbd := Lib.hid hbd
                  clear hbd
                  clear ho7 hC7 hob7 hB7
                  go_wp2_with fail
                  refine And.intro hHeld ?_
                  clear hHeld
                  have hq7 := (HB7.out.block _ (Nat.lt_of_lt_of_le hlt (by omega))).trans Hq6.out
                  have q7 := cells_at hq7
                  have g7 := free_at hq7
                  have Hq7 := Lib.hid hq7
                  have hs7 := HB7.out.size
                  clear hq7
                  go_wp2_with (at_builtin; go_must (refine wpList_append_sl rfl _ _ 44 rfl w6.heap.size 51 j0 (.agg #[.int .u8 0, .int .u32 0, .slice none 0 0, .slice none 0 0]) 4 56 Try.underlying44 hj0 jz0 jz1 jz2 rfl (by decide) a7 L.length c7 CS.flatten rfl Ho7.out (some ⟨w6.heap.size + 1, 0, none⟩) 1 1 [.int .u8 k, .int .u32 i, .slice a5 l.length c5, .slice a4 (canonV v).length c4] rfl ?s3 ?t3 ?c3 ?d3 ?e3 ?_))
                  case s3 => exact Sl.blk (C := #[.int .u8 k, .int .u32 i, .slice a5 l.length c5, .slice a4 (canonV v).length c4]) Hbd.out rfl (by decide)
                  case t3 => exact four_one _ _ (a5, _, c5) (a4, _, c4)
                  case c3 => unfold maxLen; omega
                  case d3 => omega
                  case e3 => first | omega | (simp; omega)
                  intro a8 c8 w8 ho8 hC8 hob8
                  have hlt7 := owns_lt Ho7.out
                  have HB8 : Hid (Below w6.heap.size w6 w8) := Lib.hid (HB7.out.trans (hC8.below hs7 (fun x hx => (hlt7 x hx).1)))
                  have ho8' := owns_base (base' := w.heap.size) ho8 (by omega)
                  have Ho8 := Lib.hid ho8'
                  have hq8 := (HB8.out.block _ (Nat.lt_of_lt_of_le hlt (by omega))).trans Hq6.out
                  have q8 := cells_at hq8
                  have g8 := free_at hq8
                  clear ho8 ho8' hC8 hob8 hq8 q7 g7
                  go_wp2_with fail
                  refine And.intro (And.intro (by kernel_rfl) ?rds) ?_
                  case rds => exact reads_of ⟨trivial, trivial, trivial, trivial, trivial, .inl rfl, trivial, .inr rfl, trivial, trivial, trivial, trivial, trivial, trivial⟩
                  skip
                  go_wp2_with fail
                  go_ret
                  exact ⟨by rw [He.out]; rfl, rtake_end HB6.out HB8.out H.out HCut.out He.out Ho8.out Ho5c.out Ho4c.out⟩
              · skip
                go_wp2_with (at_builtin; go_must (refine wpList_append_sl rfl _ _ 44 rfl w6.heap.size 51 j0 (.agg #[.int .u8 0, .int .u32 0, .slice none 0 0, .slice none 0 0]) 4 56 Try.underlying44 hj0 jz0 jz1 jz2 rfl (by decide) (some ⟨w6.heap.size + 1, 0, none⟩) 0 0 [] rfl ?o2 la L.length lc CS.flatten rfl ?s2 ?t2 ?c2 ?d2 ?e2 ?_))
                case o2 =>
                  have h1 := (owns_base (base' := w6.heap.size) (e := 51) (size := 4) (World.ownsRow_made (w6.alloc (.cells #[.int .u8 k, .int .u32 i, .slice a5 l.length c5, .slice a4 (canonV v).length c4] 51)) #[] 0 (Nat.le_refl _) (by decide) rfl) (by simp))
                  rw [World.size_alloc] at h1
                  exact h1
                case s2 => exact HS6.out.below (((Below.refl _ w6).alloc (Nat.le_refl _) _).alloc (by simp) _).drew
                case t2 => exact Hone.out
                case c2 => unfold maxLen; omega
                case d2 => omega
                case e2 => first | (simp; done) | (simp; omega)
                intro a7 c7 w7 ho7 hC7 hob7
                try simp only [Nat.zero_add, List.nil_append] at ho7
                try simp only [Nat.zero_add]
                have hB7 : Below w6.heap.size w6 w7 := (((Below.refl _ w6).alloc (Nat.le_refl _) _).alloc (by simp) _).drew.trans (hC7.below (by simp <;> omega) (by simp [ob]))
                have hHeld := held_two (p := pw) (q := w.heap.size) (((((Below.refl _ w6).alloc (Nat.le_refl _) _).alloc (by simp) _).drew.block _ (Nat.lt_of_lt_of_le hlt (by omega))).trans Hq6.out) (((((Below.refl _ w6).alloc (Nat.le_refl _) _).alloc (by simp) _).drew.block _ (by omega)).trans Hx6.out) hC7 (by simp [ob]; omega) (by simp [ob]; omega)
                have Ho7 := Lib.hid ho7
                have HB7 := Lib.hid hB7
                have hbd : w7.heap[w6.heap.size]? = some (.cells #[.int .u8 k, .int .u32 i, .slice a5 l.length c5, .slice a4 (canonV v).length c4] 51 (0, 0)) := heap_chg (w := ((w6.alloc (.cells #[.int .u8 k, .int .u32 i, .slice a5 l.length c5, .slice a4 (canonV v).length c4] 51)).alloc (.cells #[] 51)).drew) (by exact (heap_old _ _ (by simp)).trans (heap_new w6 _)) hC7 (by simp [ob])
                have Hbd := Lib.hid hbd
                clear hbd
                clear ho7 hC7 hob7 hB7
                go_wp2_with fail
                refine And.intro hHeld ?_
                clear hHeld
                have hq7 := (HB7.out.block _ (Nat.lt_of_lt_of_le hlt (by omega))).trans Hq6.out
                have q7 := cells_at hq7
                have g7 := free_at hq7
                have Hq7 := Lib.hid hq7
                have hs7 := HB7.out.size
                clear hq7
                go_wp2_with (at_builtin; go_must (refine wpList_append_sl rfl _ _ 44 rfl w6.heap.size 51 j0 (.agg #[.int .u8 0, .int .u32 0, .slice none 0 0, .slice none 0 0]) 4 56 Try.underlying44 hj0 jz0 jz1 jz2 rfl (by decide) a7 L.length c7 CS.flatten rfl Ho7.out (some ⟨w6.heap.size, 0, none⟩) 1 1 [.int .u8 k, .int .u32 i, .slice a5 l.length c5, .slice a4 (canonV v).length c4] rfl ?s3 ?t3 ?c3 ?d3 ?e3 ?_))
                case s3 => exact Sl.blk (C := #[.int .u8 k, .int .u32 i, .slice a5 l.length c5, .slice a4 (canonV v).length c4]) Hbd.out rfl (by decide)
                case t3 => exact four_one _ _ (a5, _, c5) (a4, _, c4)
                case c3 => unfold maxLen; omega
                case d3 => omega
                case e3 => first | omega | (simp; omega)
                intro a8 c8 w8 ho8 hC8 hob8
                have hlt7 := owns_lt Ho7.out
                have HB8 : Hid (Below w6.heap.size w6 w8) := Lib.hid (HB7.out.trans (hC8.below hs7 (fun x hx => (hlt7 x hx).1)))
                have ho8' := owns_base (base' := w.heap.size) ho8 (by omega)
                have Ho8 := Lib.hid ho8'
                have hq8 := (HB8.out.block _ (Nat.lt_of_lt_of_le hlt (by omega))).trans Hq6.out
                have q8 := cells_at hq8
                have g8 := free_at hq8
                clear ho8 ho8' hC8 hob8 hq8 q7 g7
                go_wp2_with fail
                refine And.intro (And.intro (by kernel_rfl) ?rds) ?_
                case rds => exact reads_of ⟨trivial, trivial, trivial, trivial, trivial, .inl rfl, trivial, .inr rfl, trivial, trivial, trivial, trivial, trivial, trivial⟩
                skip
                go_wp2_with fail
                go_ret
                exact ⟨by rw [He.out]; rfl, rtake_end HB6.out HB8.out H.out HCut.out He.out Ho8.out Ho5c.out Ho4c.out⟩
        · have heq' : (o.i == i) = false := by simpa using heq
          have He := Lib.hid (takes_old (n := n) (R := RL L) (a := ⟨k, i, l, v⟩) Hmk.out (by simpa using HRk.out) (show bars o ⟨k, i, l, v⟩ = false by simp [bars, hgt, heq]))
          clear Hn3 Hu3 Hv3
          go_wp2_with fail
          refine (rcanon_any av cv v _ (Hv.out.below HB3.out) hok hm).mono ?_
          rintro e w4 ⟨a4, c4, rfl, ho4, hb4⟩
          have hsX := HB3.out.size
          have hx4 := (hb4.block _ (heap_lt Hx3.out)).trans Hx3.out
          have HB4 := Lib.hid (HB3.out.trans (hb4.mono hsX))
          have Ho4 := Lib.hid (owns_base ho4 (show w.heap.size + 1 ≤ _ from heap_lt Hx3.out))
          have Hx4 := Lib.hid hx4
          have d4 := cells_at hx4
          have f4 := free_at hx4
          have hs4 : w.heap.size + 1 ≤ w4.heap.size := heap_lt hx4
          clear ho4 hb4 hx4 d3 f3 m3 HB3 Hx3
          go_upto_region 9 with (fail)
          have hx5 : (w4.setCell ⟨w.heap.size, 3, none⟩ (.slice a4 (canonV v).length c4)).heap[w.heap.size]? = some (.cells #[.int .u8 k, .int .u32 i, .slice ai l.length ci, .slice a4 (canonV v).length c4] 51 (0, 0)) := by
            rw [heap_setCell_same _ _ 3 _ _ _ Hx4.out]; rfl
          have hB5 := HB4.out.setCell (p := ⟨w.heap.size, 3, none⟩) (Nat.le_refl _) (.slice a4 (canonV v).length c4)
          have ho4b := owns_chg Ho4.out (Chg.setCell w4 ⟨w.heap.size, 3, none⟩ (.slice a4 (canonV v).length c4)) (fun b hb => by have := (owns_lt Ho4.out b hb).1; simp; omega)
          clear d4 f4 Hx4 HB4 Ho4 hs4
          generalize w4.setCell ⟨w.heap.size, 3, none⟩ (.slice a4 (canonV v).length c4) = v5 at *
          have hlx5 := heap_lt hx5
          have dd5 := cells_at hx5
          have ff5 := free_at hx5
          have HX5 := Lib.hid hx5
          have HV5 := Lib.hid hB5
          have HO5 := Lib.hid ho4b
          clear hx5 hB5 ho4b
          go_wp2_with (at_builtin; go_must (refine wpList_append_sl rfl _ _ 45 rfl v5.heap.size 29 i0 (.int .u32 0) 1 4 Try.underlying45 hi0 hz0 hz1 hz2 rfl (by decide) (some ⟨v5.heap.size, 0, none⟩) 0 0 [] rfl ?o1 ai l.length ci (ucells l) rfl ?s1 ?t1 ?c1 ?d1 ?e1 ?_))
          case o1 => exact World.ownsRow_made v5 #[] 0 (Nat.le_refl _) (by decide) rfl
          case s1 => exact Hi.out.below (HV5.out.alloc HV5.out.size _)
          case t1 => exact ucells_one _
          case c1 => unfold maxLen; omega
          case d1 => omega
          case e1 => first | (simp; done) | (simp; omega)
          intro a5 c5 w5 ho5 hC5 hob5
          try simp only [Nat.zero_add, List.nil_append] at ho5
          try simp only [Nat.zero_add]
          have hB5 : Below v5.heap.size v5 w5 := ((Below.refl _ _).alloc (Nat.le_refl _) _).trans (hC5.below (by simp) (by simp [ob]))
          have hx5 := (hB5.block _ hlx5).trans HX5.out
          have Ho4b := Lib.hid (owns_chg (F := []) HO5.out (Chg.of_below hB5) (by simp))
          have HB5 := Lib.hid (HV5.out.trans (hB5.mono HV5.out.size))
          have Ho5 := Lib.hid (owns_base (base' := w.heap.size + 1) ho5 hlx5)
          have Hx5 := Lib.hid hx5
          have d5 := cells_at hx5
          have f5 := free_at hx5
          have hs5 : w.heap.size + 1 ≤ w5.heap.size := heap_lt hx5
          clear ho5 hC5 hob5 hx5 hB5 dd5 ff5 HX5 HV5 HO5
          go_upto_region 10 with (fail)
          have hx6 : (w5.setCell ⟨w.heap.size, 2, none⟩ (.slice a5 l.length c5)).heap[w.heap.size]? = some (.cells #[.int .u8 k, .int .u32 i, .slice a5 l.length c5, .slice a4 (canonV v).length c4] 51 (0, 0)) := by
            rw [heap_setCell_same _ _ 2 _ _ _ Hx5.out]; rfl
          have hB6 := HB5.out.setCell (p := ⟨w.heap.size, 2, none⟩) (Nat.le_refl _) (.slice a5 l.length c5)
          have ho4c := owns_chg Ho4b.out (Chg.setCell w5 ⟨w.heap.size, 2, none⟩ (.slice a5 l.length c5)) (fun b hb => by have := (owns_lt Ho4b.out b hb).1; simp; omega)
          have ho5c := owns_chg Ho5.out (Chg.setCell w5 ⟨w.heap.size, 2, none⟩ (.slice a5 l.length c5)) (fun b hb => by have := (owns_lt Ho5.out b hb).1; simp; omega)
          clear d5 f5 Hx5 HB5 Ho5 Ho4b
          generalize w5.setCell ⟨w.heap.size, 2, none⟩ (.slice a5 l.length c5) = w6 at *
          have hq6 := (hB6.block _ hlt).trans H.out.blk
          have hs6 : w.heap.size + 1 ≤ w6.heap.size := heap_lt hx6
          have hne : pw ≠ w.heap.size := by omega
          have Hx6 := Lib.hid hx6
          have Hq6 := Lib.hid hq6
          have HB6 := Lib.hid hB6
          have Ho4c := Lib.hid ho4c
          have Ho5c := Lib.hid ho5c
          have HS6 := Lib.hid (HSL.out.below hB6)
          have d6 := cells_at hx6
          have q6 := cells_at hq6
          clear hx6 hq6 hB6 ho4c ho5c
          refine region_tree_at (fun q => q = pw ∨ q = w.heap.size) (.seg [0, 2, 3, 4, 5, 7] false (.fork (.seg [1] false (.fork (.seg [6] true (.seg [8, 9, 10, 11, 12] false .done)) (.seg [8] false (.seg [6] true (.seg [9, 10, 11, 12] false .done))))) (.seg [8, 1] false (.seg [6] true (.seg [9, 10, 11, 12] false .done))))) mixed (by kernel_rfl) ?_
          simp only [wpSgB, List.map_cons, List.map_nil, List.getD_cons_succ, List.getD_cons_zero]
          go_wp2_with fail
          refine And.intro ?_ ?_
          · go_wp2_with fail
            refine And.intro ?_ ?_
            · skip
              go_wp2_with (at_builtin; go_must (refine wpList_append_sl rfl _ _ 44 rfl w6.heap.size 51 j0 (.agg #[.int .u8 0, .int .u32 0, .slice none 0 0, .slice none 0 0]) 4 56 Try.underlying44 hj0 jz0 jz1 jz2 rfl (by decide) (some ⟨w6.heap.size, 0, none⟩) 0 0 [] rfl ?o2 la L.length lc CS.flatten rfl ?s2 ?t2 ?c2 ?d2 ?e2 ?_))
              case o2 =>
                exact World.ownsRow_made w6 #[] 0 (Nat.le_refl _) (by decide) rfl
              case s2 => exact HS6.out.below ((Below.refl _ w6).alloc (Nat.le_refl _) _).drew
              case t2 => exact Hone.out
              case c2 => unfold maxLen; omega
              case d2 => omega
              case e2 => first | (simp; done) | (simp; omega)
              intro a7 c7 w7 ho7 hC7 hob7
              try simp only [Nat.zero_add, List.nil_append] at ho7
              try simp only [Nat.zero_add]
              have hB7 : Below w6.heap.size w6 w7 := ((Below.refl _ w6).alloc (Nat.le_refl _) _).drew.trans (hC7.below (by simp <;> omega) (by simp [ob]))
              have hHeld := held_two (p := pw) (q := w.heap.size) ((((Below.refl _ w6).alloc (Nat.le_refl _) _).drew.block _ (Nat.lt_of_lt_of_le hlt (by omega))).trans Hq6.out) ((((Below.refl _ w6).alloc (Nat.le_refl _) _).drew.block _ (by omega)).trans Hx6.out) hC7 (by simp [ob]; omega) (by simp [ob]; omega)
              have Ho7 := Lib.hid ho7
              have HB7 := Lib.hid hB7
              clear ho7 hC7 hob7 hB7
              go_wp2_with fail
              refine And.intro hHeld ?_
              clear hHeld
              have hq7 := (HB7.out.block _ (Nat.lt_of_lt_of_le hlt (by omega))).trans Hq6.out
              have q7 := cells_at hq7
              have g7 := free_at hq7
              have Hq7 := Lib.hid hq7
              have hs7 := HB7.out.size
              clear hq7
              go_wp2_with (at_builtin; go_must (refine wpList_append_sl rfl _ _ 44 rfl w6.heap.size 51 j0 (.agg #[.int .u8 0, .int .u32 0, .slice none 0 0, .slice none 0 0]) 4 56 Try.underlying44 hj0 jz0 jz1 jz2 rfl (by decide) a7 L.length c7 CS.flatten rfl (Ho7.out.alloc _) (some ⟨w7.heap.size, 0, none⟩) 1 1 [.int .u8 k, .int .u32 i, .slice a5 l.length c5, .slice a4 (canonV v).length c4] rfl ?s3 ?t3 ?c3 ?d3 ?e3 ?_))
              case s3 => exact Sl.blk (C := #[.int .u8 k, .int .u32 i, .slice a5 l.length c5, .slice a4 (canonV v).length c4]) (heap_new w7 _) rfl (by decide)
              case t3 => exact four_one _ _ (a5, _, c5) (a4, _, c4)
              case c3 => unfold maxLen; omega
              case d3 => omega
              case e3 => first | omega | (simp; omega)
              intro a8 c8 w8 ho8 hC8 hob8
              have hlt7 := owns_lt Ho7.out
              have HB8 : Hid (Below w6.heap.size w6 w8) := Lib.hid ((HB7.out.alloc hs7 _).trans (hC8.below (by simp; omega) (fun x hx => (hlt7 x hx).1)))
              have ho8' := owns_base (base' := w.heap.size) ho8 (by omega)
              have Ho8 := Lib.hid ho8'
              have hq8 := (HB8.out.block _ (Nat.lt_of_lt_of_le hlt (by omega))).trans Hq6.out
              have q8 := cells_at hq8
              have g8 := free_at hq8
              clear ho8 ho8' hC8 hob8 hq8 q7 g7
              go_wp2_with fail
              refine And.intro (And.intro (by kernel_rfl) ?rds) ?_
              case rds => exact reads_of ⟨trivial, trivial, trivial, trivial, trivial, .inl rfl, trivial, .inr rfl, trivial, trivial, trivial, trivial, trivial, trivial⟩
              skip
              go_wp2_with fail
              go_ret
              exact ⟨by rw [He.out]; rfl, rtake_end HB6.out HB8.out H.out HCut.out He.out Ho8.out Ho5c.out Ho4c.out⟩
            · skip
              go_wp2_with (at_builtin; go_must (refine wpList_append_sl rfl _ _ 44 rfl w6.heap.size 51 j0 (.agg #[.int .u8 0, .int .u32 0, .slice none 0 0, .slice none 0 0]) 4 56 Try.underlying44 hj0 jz0 jz1 jz2 rfl (by decide) (some ⟨w6.heap.size, 0, none⟩) 0 0 [] rfl ?o2 la L.length lc CS.flatten rfl ?s2 ?t2 ?c2 ?d2 ?e2 ?_))
              case o2 =>
                exact (World.ownsRow_made w6 #[] 0 (Nat.le_refl _) (by decide) rfl).alloc _
              case s2 => exact HS6.out.below (((Below.refl _ w6).alloc (Nat.le_refl _) _).alloc (by simp) _).drew
              case t2 => exact Hone.out
              case c2 => unfold maxLen; omega
              case d2 => omega
              case e2 => first | (simp; done) | (simp; omega)
              intro a7 c7 w7 ho7 hC7 hob7
              try simp only [Nat.zero_add, List.nil_append] at ho7
              try simp only [Nat.zero_add]
              have hB7 : Below w6.heap.size w6 w7 := (((Below.refl _ w6).alloc (Nat.le_refl _) _).alloc (by simp) _).drew.trans (hC7.below (by simp <;> omega) (by simp [ob]))
              have hHeld := held_two (p := pw) (q := w.heap.size) (((((Below.refl _ w6).alloc (Nat.le_refl _) _).alloc (by simp) _).drew.block _ (Nat.lt_of_lt_of_le hlt (by omega))).trans Hq6.out) (((((Below.refl _ w6).alloc (Nat.le_refl _) _).alloc (by simp) _).drew.block _ (by omega)).trans Hx6.out) hC7 (by simp [ob]; omega) (by simp [ob]; omega)
              have Ho7 := Lib.hid ho7
              have HB7 := Lib.hid hB7
              have hbd : w7.heap[w6.heap.size + 1]? = some (.cells #[.int .u8 k, .int .u32 i, .slice a5 l.length c5, .slice a4 (canonV v).length c4] 51 (0, 0)) := heap_chg (w := ((w6.alloc (.cells #[] 51)).alloc (.cells #[.int .u8 k, .int .u32 i, .slice a5 l.length c5, .slice a4 (canonV v).length c4] 51)).drew) (by exact heap_new2 w6 _ _) hC7 (by simp [ob])
              have Hbd := Lib.hid hbd
              clear hbd
              clear ho7 hC7 hob7 hB7
              go_wp2_with fail
              refine And.intro hHeld ?_
              clear hHeld
              have hq7 := (HB7.out.block _ (Nat.lt_of_lt_of_le hlt (by omega))).trans Hq6.out
              have q7 := cells_at hq7
              have g7 := free_at hq7
              have Hq7 := Lib.hid hq7
              have hs7 := HB7.out.size
              clear hq7
              go_wp2_with (at_builtin; go_must (refine wpList_append_sl rfl _ _ 44 rfl w6.heap.size 51 j0 (.agg #[.int .u8 0, .int .u32 0, .slice none 0 0, .slice none 0 0]) 4 56 Try.underlying44 hj0 jz0 jz1 jz2 rfl (by decide) a7 L.length c7 CS.flatten rfl Ho7.out (some ⟨w6.heap.size + 1, 0, none⟩) 1 1 [.int .u8 k, .int .u32 i, .slice a5 l.length c5, .slice a4 (canonV v).length c4] rfl ?s3 ?t3 ?c3 ?d3 ?e3 ?_))
              case s3 => exact Sl.blk (C := #[.int .u8 k, .int .u32 i, .slice a5 l.length c5, .slice a4 (canonV v).length c4]) Hbd.out rfl (by decide)
              case t3 => exact four_one _ _ (a5, _, c5) (a4, _, c4)
              case c3 => unfold maxLen; omega
              case d3 => omega
              case e3 => first | omega | (simp; omega)
              intro a8 c8 w8 ho8 hC8 hob8
              have hlt7 := owns_lt Ho7.out
              have HB8 : Hid (Below w6.heap.size w6 w8) := Lib.hid (HB7.out.trans (hC8.below hs7 (fun x hx => (hlt7 x hx).1)))
              have ho8' := owns_base (base' := w.heap.size) ho8 (by omega)
              have Ho8 := Lib.hid ho8'
              have hq8 := (HB8.out.block _ (Nat.lt_of_lt_of_le hlt (by omega))).trans Hq6.out
              have q8 := cells_at hq8
              have g8 := free_at hq8
              clear ho8 ho8' hC8 hob8 hq8 q7 g7
              go_wp2_with fail
              refine And.intro (And.intro (by kernel_rfl) ?rds) ?_
              case rds => exact reads_of ⟨trivial, trivial, trivial, trivial, trivial, .inl rfl, trivial, .inr rfl, trivial, trivial, trivial, trivial, trivial, trivial⟩
              skip
              go_wp2_with fail
              go_ret
              exact ⟨by rw [He.out]; rfl, rtake_end HB6.out HB8.out H.out HCut.out He.out Ho8.out Ho5c.out Ho4c.out⟩
          · skip
            go_wp2_with (at_builtin; go_must (refine wpList_append_sl rfl _ _ 44 rfl w6.heap.size 51 j0 (.agg #[.int .u8 0, .int .u32 0, .slice none 0 0, .slice none 0 0]) 4 56 Try.underlying44 hj0 jz0 jz1 jz2 rfl (by decide) (some ⟨w6.heap.size + 1, 0, none⟩) 0 0 [] rfl ?o2 la L.length lc CS.flatten rfl ?s2 ?t2 ?c2 ?d2 ?e2 ?_))
            case o2 =>
              have h1 := (owns_base (base' := w6.heap.size) (e := 51) (size := 4) (World.ownsRow_made (w6.alloc (.cells #[.int .u8 k, .int .u32 i, .slice a5 l.length c5, .slice a4 (canonV v).length c4] 51)) #[] 0 (Nat.le_refl _) (by decide) rfl) (by simp))
              rw [World.size_alloc] at h1
              exact h1
            case s2 => exact HS6.out.below (((Below.refl _ w6).alloc (Nat.le_refl _) _).alloc (by simp) _).drew
            case t2 => exact Hone.out
            case c2 => unfold maxLen; omega
            case d2 => omega
            case e2 => first | (simp; done) | (simp; omega)
            intro a7 c7 w7 ho7 hC7 hob7
            try simp only [Nat.zero_add, List.nil_append] at ho7
            try simp only [Nat.zero_add]
            have hB7 : Below w6.heap.size w6 w7 := (((Below.refl _ w6).alloc (Nat.le_refl _) _).alloc (by simp) _).drew.trans (hC7.below (by simp <;> omega) (by simp [ob]))
            have hHeld := held_two (p := pw) (q := w.heap.size) (((((Below.refl _ w6).alloc (Nat.le_refl _) _).alloc (by simp) _).drew.block _ (Nat.lt_of_lt_of_le hlt (by omega))).trans Hq6.out) (((((Below.refl _ w6).alloc (Nat.le_refl _) _).alloc (by simp) _).drew.block _ (by omega)).trans Hx6.out) hC7 (by simp [ob]; omega) (by simp [ob]; omega)
            have Ho7 := Lib.hid ho7
            have HB7 := Lib.hid hB7
            have hbd : w7.heap[w6.heap.size]? = some (.cells #[.int .u8 k, .int .u32 i, .slice a5 l.length c5, .slice a4 (canonV v).length c4] 51 (0, 0)) := heap_chg (w := ((w6.alloc (.cells #[.int .u8 k, .int .u32 i, .slice a5 l.length c5, .slice a4 (canonV v).length c4] 51)).alloc (.cells #[] 51)).drew) (by exact (heap_old _ _ (by simp)).trans (heap_new w6 _)) hC7 (by simp [ob])
            have Hbd := Lib.hid hbd
            clear hbd
            clear ho7 hC7 hob7 hB7
            go_wp2_with fail
            refine And.intro hHeld ?_
            clear hHeld
            have hq7 := (HB7.out.block _ (Nat.lt_of_lt_of_le hlt (by omega))).trans Hq6.out
            have q7 := cells_at hq7
            have g7 := free_at hq7
            have Hq7 := Lib.hid hq7
            have hs7 := HB7.out.size
            clear hq7
            go_wp2_with (at_builtin; go_must (refine wpList_append_sl rfl _ _ 44 rfl w6.heap.size 51 j0 (.agg #[.int .u8 0, .int .u32 0, .slice none 0 0, .slice none 0 0]) 4 56 Try.underlying44 hj0 jz0 jz1 jz2 rfl (by decide) a7 L.length c7 CS.flatten rfl Ho7.out (some ⟨w6.heap.size, 0, none⟩) 1 1 [.int .u8 k, .int .u32 i, .slice a5 l.length c5, .slice a4 (canonV v).length c4] rfl ?s3 ?t3 ?c3 ?d3 ?e3 ?_))
            case s3 => exact Sl.blk (C := #[.int .u8 k, .int .u32 i, .slice a5 l.length c5, .slice a4 (canonV v).length c4]) Hbd.out rfl (by decide)
            case t3 => exact four_one _ _ (a5, _, c5) (a4, _, c4)
            case c3 => unfold maxLen; omega
            case d3 => omega
            case e3 => first | omega | (simp; omega)
            intro a8 c8 w8 ho8 hC8 hob8
            have hlt7 := owns_lt Ho7.out
            have HB8 : Hid (Below w6.heap.size w6 w8) := Lib.hid (HB7.out.trans (hC8.below hs7 (fun x hx => (hlt7 x hx).1)))
            have ho8' := owns_base (base' := w.heap.size) ho8 (by omega)
            have Ho8 := Lib.hid ho8'
            have hq8 := (HB8.out.block _ (Nat.lt_of_lt_of_le hlt (by omega))).trans Hq6.out
            have q8 := cells_at hq8
            have g8 := free_at hq8
            clear ho8 ho8' hC8 hob8 hq8 q7 g7
            go_wp2_with fail
            refine And.intro (And.intro (by kernel_rfl) ?rds) ?_
            case rds => exact reads_of ⟨trivial, trivial, trivial, trivial, trivial, .inl rfl, trivial, .inr rfl, trivial, trivial, trivial, trivial, trivial, trivial⟩
            skip
            go_wp2_with fail
            go_ret
            exact ⟨by rw [He.out]; rfl, rtake_end HB6.out HB8.out H.out HCut.out He.out Ho8.out Ho5c.out Ho4c.out⟩
theorem rtake_any (k : Nat) (i : Int) (ai av : Option Addr) (ci cv : Nat) (l : List Int) (v : List Dt) (pw n : Nat) (L : List Ak) (F : Nat → Prop) (w : World) (hM : RefR w F pw n L) (hL : L.length ≤ 900) (hr : ∀ a ∈ L, okA (a.r, a.i)) (hR : okR n (RL L)) (hi : U32 w ai ci l) (hv : Vec w av cv v) (hk : k ≤ 255) (hok : okV v) (hn : l.length ≤ 1000000) (hm : v.length ≤ 1000000) :
    Calls Try.prog 47 #[.pointer (some ⟨pw, 0, none⟩), .agg #[.int .u8 k, .int .u32 i, .slice ai l.length ci, .slice av v.length cv]] w fun e w' =>
      e = .returned (.bool (takesM n (RL L) ⟨k, i, l, v⟩)) ∧ RefR w' (fun b => F b ∨ w.heap.size ≤ b) pw n (nextL n L ⟨k, i, l, v⟩) ∧ Chg [pw] w w' :=
  (rtake_strong k i ai av ci cv l v pw n L F w hM hL hr hR hi hv hk hok hn hm).mono fun e w' ⟨h1, h2, h3⟩ => ⟨h1, rmono h2 (fun b hb => hb.imp id And.left), h3⟩
end Go.Proofs.Ytblahapjdgncfaa
