/- varvelaw06.great, own; varveref06.Purge: contracts. -/
import Derived.Test.YtmabjghjkgicgaaLfOpen
import Derived.Test.YtmabjghjkgicgaaRefLA
namespace Go.Proofs.Ytmabjghjkgicgaa
open Go.RowKit
set_option linter.unusedVariables false
set_option linter.unusedSimpArgs false

def GreatTo (w : World) (l : Lf) (e : Ending) (w' : World) : Prop := ∃ q : Bool, e = .returned (.bool q) ∧ (q = false → l.items.length ≤ 100 ∧ l.tombs.length ≤ 100) ∧ Below w.heap.size w w'
def GrR (n : Nat) (w1 : World) (a j : Value) (wr : World) : Prop := ∃ (q : Nat) (m : Int), q ≤ n ∧ j = .int .i64 q ∧ a = .int .i64 m ∧ wr = w1
set_option maxRecDepth 100000 in
set_option maxHeartbeats 2000000 in
theorem great_any (l : Lf) (ia ta : Option Addr) (ic tc : Nat) (w : World) (hl : LfRd w l ia ic ta tc) :
    Calls Try.prog 16 #[lval l ia ic ta tc] w (GreatTo w l) := by
  obtain ⟨k, n, t, ⟨⟨r, i⟩, s⟩, x, is, ts⟩ := l
  have Hl := Lib.hid hl
  have hcap := hl.its.cap
  have hcm := hl.its.2.2.1
  have hcap2 := hl.tms.cap
  have hcm2 := hl.tms.2.2.1
  dsimp only at hcap hcap2
  unfold maxLen at hcm hcm2
  clear hl
  simp only [lval]
  go_enter Try.func16, Try.ntmps16
  go_wp2_with fail
  have hx0 := heap_new w (.cells (lcells ⟨k, n, t, ((r, i), s), x, is, ts⟩ ia ic ta tc) 40)
  have d0 := cells_at hx0
  simp only [lcells] at d0
  have hB0 : Below w.heap.size w (w.alloc (.cells (lcells ⟨k, n, t, ((r, i), s), x, is, ts⟩ ia ic ta tc) 40)) := (Below.refl _ _).alloc (Nat.le_refl _) _
  simp only [lcells] at hB0
  have Hx0 := Lib.hid hx0
  have HB0 := Lib.hid hB0
  have HI := Lib.hid (Hl.out.its.below hB0)
  clear hx0 hB0
  generalize w.alloc (.cells #[.int .u8 k, .int .i64 n, .int .u64 t, .int .u8 r, .int .u32 i, .int .u64 s, .string x, .slice ia is.length ic, .slice ta ts.length tc] 40) = w1 at *
  go_loopw [3, 11] (fun a j wr => GrR is.length w1 a j wr) (fun _ j _ => is.length - (intOf j).toNat)
  case atStart => exact ⟨0, _, Nat.zero_le _, rfl, rfl, rfl⟩
  case round =>
    obtain ⟨q, m, hq, rfl, rfl, rfl⟩ := hrel
    by_cases hlt : q < is.length
    · obtain ⟨⟨yt, ⟨⟨yr, yi⟩, ys⟩, yx⟩, hx⟩ : ∃ x, is[q]? = some x := ⟨is[q], by simp [hlt]⟩
      obtain ⟨ad, had, ⟨c0, c1, c2, c3, c4⟩, hl0⟩ := HI.out.at hx
      subst had
      dsimp only at c0 c1 c2 c3 c4
      clear hx
      go_wp2_with fail
      go_roundw
      case rel => exact ⟨q + 1, _, by omega, by go_num, rfl, rfl⟩
      case measure => simp [intOf]; omega
    · go_wp2_with fail
      all_goals (go_ret; refine ⟨_, rfl, fun h => ?_, HB0.out⟩; first | (cases h; done) | (dsimp only; constructor <;> omega))

theorem Chg.set {F : List Nat} {w w' : World} (h : Chg F w w') (p : Addr) (x : Value) (hp : p.block ∈ F) : Chg F w (w'.setCell p x) :=
  h.trans (Chg.setCell w' p x) (fun k hk _ => by simp at hk; subst hk; exact hp)
def zcells1 : Array Value := #[.int .u8 0, .int .i64 0, .int .u64 0, .int .u8 0, .int .u32 0, .int .u64 0, .string ⟨#[]⟩, .slice none 0 0, .slice none 0 0]
theorem chg_nine' (s : Nat) (W : World) (x0 x1 x2 x3 x4 x5 x6 x7 x8 : Value) : Chg [s] W (((((((((W.setCell ⟨s, 0, none⟩ x0).setCell ⟨s, 1, none⟩ x1).setCell ⟨s, 2, none⟩ x2).setCell ⟨s, 3, none⟩ x3).setCell ⟨s, 4, none⟩ x4).setCell ⟨s, 5, none⟩ x5).setCell ⟨s, 6, none⟩ x6).setCell ⟨s, 7, none⟩ x7).setCell ⟨s, 8, none⟩ x8) := by
  have st : ∀ {A B : World} (j : Nat) (x : Value), Chg [s] A B → Chg [s] A (B.setCell ⟨s, j, none⟩ x) := fun {A B} j x h => h.trans (Chg.setCell B ⟨s, j, none⟩ x) (by simp)
  exact st _ _ (st _ _ (st _ _ (st _ _ (st _ _ (st _ _ (st _ _ (st _ _ (st _ _ (Chg.refl _ _)))))))))
/-- a leaf told that reads so -/
def LfTo (w : World) (l : Lf) (e : Ending) (w' : World) : Prop := ∃ ia ic ta tc, e = .returned (lval l ia ic ta tc) ∧ LfAt w' l ia ic ta tc ∧ (∀ k ∈ ob ia, w.heap.size ≤ k ∧ k < w'.heap.size) ∧ (∀ k ∈ ob ta, w.heap.size ≤ k ∧ k < w'.heap.size) ∧ Below w.heap.size w w'
theorem own_end {w v0 w6 : World} {k n t r i s : Int} {x : ByteArray} {is : List It} {ts : List Dt} {a5 a6 : Option Addr} {c5 c6 : Nat} (hs : w.heap.size + 2 = v0.heap.size) (hB0 : Below w.heap.size w v0) (hB6 : Below v0.heap.size v0 w6)
    (h5 : w6.ownsRow v0.heap.size 58 5 (.slice a5 is.length c5) is.length (icells is)) (h6 : w6.ownsRow v0.heap.size 31 3 (.slice a6 ts.length c6) ts.length (dcells ts)) (hli : is.length ≤ 1000000) (hlt : ts.length ≤ 1000000)
    (y z x0 x1 x2 x3 x4 x5 x6 x7 x8 : Value) : LfTo w ⟨k, n, t, ((r, i), s), x, is, ts⟩ (.returned (lval ⟨k, n, t, ((r, i), s), x, is, ts⟩ a5 c5 a6 c6))
      (((((((((((w6.setCell ⟨w.heap.size, 7, none⟩ y).setCell ⟨w.heap.size, 8, none⟩ z).setCell ⟨w.heap.size + 1, 0, none⟩ x0).setCell ⟨w.heap.size + 1, 1, none⟩ x1).setCell ⟨w.heap.size + 1, 2, none⟩ x2).setCell ⟨w.heap.size + 1, 3, none⟩ x3).setCell ⟨w.heap.size + 1, 4, none⟩ x4).setCell ⟨w.heap.size + 1, 5, none⟩ x5).setCell ⟨w.heap.size + 1, 6, none⟩ x6).setCell ⟨w.heap.size + 1, 7, none⟩ x7).setCell ⟨w.heap.size + 1, 8, none⟩ x8) := by
  have hC := ((((((((((((Chg.refl [w.heap.size, w.heap.size + 1] w6).set ⟨w.heap.size, 7, none⟩ y (by simp)).set ⟨w.heap.size, 8, none⟩ z (by simp)).set ⟨w.heap.size + 1, 0, none⟩ x0 (by simp)).set ⟨w.heap.size + 1, 1, none⟩ x1 (by simp)).set ⟨w.heap.size + 1, 2, none⟩ x2 (by simp)).set ⟨w.heap.size + 1, 3, none⟩ x3 (by simp)).set ⟨w.heap.size + 1, 4, none⟩ x4 (by simp)).set ⟨w.heap.size + 1, 5, none⟩ x5 (by simp)).set ⟨w.heap.size + 1, 6, none⟩ x6 (by simp)).set ⟨w.heap.size + 1, 7, none⟩ x7 (by simp)).set ⟨w.heap.size + 1, 8, none⟩ x8 (by simp))
  refine ⟨a5, c5, a6, c6, rfl, ⟨Sl.chg (Sl.of_owns h5) hC fun q hq hm => ?_, Sl.chg (Sl.of_owns h6) hC fun q hq hm => ?_, hli, hlt⟩, fun q hq => ?_, fun q hq => ?_, ?_⟩
  · have := (owns_lt h5 q hq).1; simp at hm; omega
  · have := (owns_lt h6 q hq).1; simp at hm; omega
  · have := owns_lt h5 q hq; simp; omega
  · have := owns_lt h6 q hq; simp; omega
  · exact ((((((((((((hB0.trans (hB6.mono hB0.size)).setCell (by simp) _).setCell (by simp) _).setCell (by simp) _).setCell (by simp) _).setCell (by simp) _).setCell (by simp) _).setCell (by simp) _).setCell (by simp) _).setCell (by simp) _).setCell (by simp) _).setCell (by simp) _)
set_option maxRecDepth 100000 in
set_option maxHeartbeats 4000000 in
theorem own_any (l : Lf) (ia ta : Option Addr) (ic tc : Nat) (w : World) (hl : LfAt w l ia ic ta tc) :
    Calls Try.prog 17 #[lval l ia ic ta tc] w (LfTo w l) := by
  obtain ⟨k, n, t, ⟨⟨r, i⟩, s⟩, x, is, ts⟩ := l
  have Hl := Lib.hid hl
  have hli : is.length ≤ 1000000 := hl.li
  have hlt : ts.length ≤ 1000000 := hl.lt
  have Hli := Lib.hid hli
  have Hlt := Lib.hid hlt
  clear hl
  obtain ⟨i0, hi0, hz0, hz1, hz2⟩ := info_parts Try.info_item
  obtain ⟨j0, hj0, jz0, jz1, jz2⟩ := info_parts Try.info_dot
  simp only [lval]
  go_enter Try.func17, Try.ntmps17
  go_upto_region 1 with (fail)
  have hv0 := heap_new2 w (.cells (lcells ⟨k, n, t, ((r, i), s), x, is, ts⟩ ia ic ta tc) 40) (.cells zcells1 40)
  have hx0 : ((w.alloc (.cells (lcells ⟨k, n, t, ((r, i), s), x, is, ts⟩ ia ic ta tc) 40)).alloc (.cells zcells1 40)).heap[w.heap.size]? = _ := (heap_old _ _ (by simp)).trans (heap_new w (.cells (lcells ⟨k, n, t, ((r, i), s), x, is, ts⟩ ia ic ta tc) 40))
  have hb0 : Below w.heap.size w ((w.alloc (.cells (lcells ⟨k, n, t, ((r, i), s), x, is, ts⟩ ia ic ta tc) 40)).alloc (.cells zcells1 40)) := ((Below.refl _ w).alloc (Nat.le_refl _) _).alloc (by simp) _
  have hs0 : w.heap.size + 2 = ((w.alloc (.cells (lcells ⟨k, n, t, ((r, i), s), x, is, ts⟩ ia ic ta tc) 40)).alloc (.cells zcells1 40)).heap.size := by simp
  simp only [lcells, zcells1] at hv0 hx0 hb0 hs0
  generalize (w.alloc (.cells #[.int .u8 k, .int .i64 n, .int .u64 t, .int .u8 r, .int .u32 i, .int .u64 s, .string x, .slice ia is.length ic, .slice ta ts.length tc] 40)).alloc (.cells #[.int .u8 0, .int .i64 0, .int .u64 0, .int .u8 0, .int .u32 0, .int .u64 0, .string ⟨#[]⟩, .slice none 0 0, .slice none 0 0] 40) = v0 at *
  have Hx0 := Lib.hid hx0
  have Hv0 := Lib.hid hv0
  have HB0 := Lib.hid hb0
  have d0 := cells_at hx0
  have HU := Lib.hid (Hl.out.its.below hb0)
  have HV := Lib.hid (Hl.out.tms.below hb0)
  clear hx0 hv0 hb0
  refine region_tree_at (fun q => q = w.heap.size) (.seg [1, 2, 5, 6] false (.fork (.seg [0] false (.fork (.seg [3] true (.seg [8, 4, 7, 9, 10, 11] false .done)) (.seg [4] false (.seg [3] true (.seg [8, 7, 9, 10, 11] false .done))))) (.seg [4, 0] false (.seg [3] true (.seg [8, 7, 9, 10, 11] false .done))))) mixed (by kernel_rfl) ?_
  simp only [wpSgB, List.map_cons, List.map_nil, List.getD_cons_succ, List.getD_cons_zero]
  go_wp2_with fail
  refine And.intro ?_ ?_
  · go_wp2_with fail
    refine And.intro ?_ ?_
    · skip
      go_wp2_with (at_builtin; go_must (refine wpList_append_sl rfl _ _ 38 rfl v0.heap.size 58 i0 (.agg #[.int .u64 0, .int .u8 0, .int .u32 0, .int .u64 0, .string ⟨#[]⟩]) 5 40 Try.underlying38 hi0 hz0 hz1 hz2 rfl (by decide) (some ⟨v0.heap.size, 0, none⟩) 0 0 [] rfl ?o1 ia is.length ic (icells is) rfl ?s1 ?t1 ?c1 ?d1 ?e1 ?_))
      case o1 =>
        exact World.ownsRow_made v0 #[] 0 (Nat.le_refl _) (by decide) rfl
      case s1 => exact HU.out.below ((Below.refl _ v0).alloc (Nat.le_refl _) _).drew
      case t1 => exact icells_one _
      case c1 => unfold maxLen; omega
      case d1 => omega
      case e1 => first | (simp; done) | (simp; omega)
      intro a5 c5 w5 ho5 hC5 hob5
      try simp only [Nat.zero_add, List.nil_append] at ho5
      try simp only [Nat.zero_add]
      have hB5 : Below v0.heap.size v0 w5 := ((Below.refl _ v0).alloc (Nat.le_refl _) _).drew.trans (hC5.below (by simp <;> omega) (by simp [ob]))
      have hHeld := Held.of_chg (q := w.heap.size) ((((Below.refl _ v0).alloc (Nat.le_refl _) _).drew.block _ (by omega)).trans Hx0.out) hC5 (by simp [ob]; omega)
      have hd5 : ∀ x ∈ ob a5, x < w5.heap.size := fun x hx => (owns_lt ho5 x hx).2
      have Ho5 := Lib.hid ho5
      have HB5 := Lib.hid hB5
      clear ho5 hC5 hob5 hB5
      go_wp2_with fail
      refine And.intro hHeld ?_
      clear hHeld
      have hs5 := HB5.out.size
      go_wp2_with (at_builtin; go_must (refine wpList_append_sl rfl _ _ 33 rfl v0.heap.size 31 j0 (.agg #[.int .u8 0, .int .u32 0, .int .u64 0]) 3 16 Try.underlying33 hj0 jz0 jz1 jz2 rfl (by decide) (some ⟨w5.heap.size, 0, none⟩) 0 0 [] rfl ?o2 ta ts.length tc (dcells ts) rfl ?s2 ?t2 ?c2 ?d2 ?e2 ?_))
      case o2 =>
        exact owns_base (World.ownsRow_made w5 #[] 0 (Nat.le_refl _) (by decide) rfl) hs5
      case s2 => exact HV.out.below (HB5.out.alloc hs5 _)
      case t2 => exact dcells_one _
      case c2 => unfold maxLen; omega
      case d2 => omega
      case e2 => first | omega | (simp; omega)
      intro a6 c6 w6 ho6 hC6 hob6
      try simp only [Nat.zero_add, List.nil_append] at ho6
      try simp only [Nat.zero_add]
      have HB6 := Lib.hid ((HB5.out.alloc hs5 _).trans (hC6.below (by first | exact hs5 | (simp; omega)) (by simp [ob] <;> omega)))
      have Ho5b := Lib.hid (owns_chg (owns_chg (F := []) Ho5.out (Chg.alloc _ _ _) (by simp)) hC6 (fun x hx => by simp [ob]; have := hd5 x hx; omega))
      have Ho6 := Lib.hid ho6
      have Hdis := Lib.hid (show ∀ x ∈ ob a5, x ∉ ob a6 from fun x hx hx6 => by
        have h1 := hd5 x hx
        have h2 := hob6 x hx6
        simp [ob] at h2
        omega)
      have hi6 := (HB6.out.block _ (by omega)).trans Hv0.out
      have e6 := cells_at hi6
      have h6 := (HB6.out.block _ (by omega)).trans Hx0.out
      have d6 := cells_at h6
      have k6 := free_at h6
      try simp only [lcells, zcells1] at d6 e6
      have f6 := free_at hi6
      clear ho6 hC6 hob6 hi6 h6
      go_wp2_with fail
      refine And.intro (And.intro (by kernel_rfl) ?rds) ?_
      case rds => exact reads_of ⟨trivial, trivial, rfl, trivial, trivial, trivial, rfl, trivial, trivial, trivial, trivial, trivial, trivial⟩
      go_wp2_with fail
      refine bodyPost_ret (v := lval ⟨k, n, t, ((r, i), s), x, is, ts⟩ a5 c5 a6 c6) (by simp [results, Try.results17, go_sem, lval, e6]) rfl (own_end hs0 HB0.out HB6.out Ho5b.out Ho6.out Hli.out Hlt.out _ _ _ _ _ _ _ _ _ _ _)
    · skip
      go_wp2_with (at_builtin; go_must (refine wpList_append_sl rfl _ _ 38 rfl v0.heap.size 58 i0 (.agg #[.int .u64 0, .int .u8 0, .int .u32 0, .int .u64 0, .string ⟨#[]⟩]) 5 40 Try.underlying38 hi0 hz0 hz1 hz2 rfl (by decide) (some ⟨v0.heap.size, 0, none⟩) 0 0 [] rfl ?o1 ia is.length ic (icells is) rfl ?s1 ?t1 ?c1 ?d1 ?e1 ?_))
      case o1 =>
        exact (World.ownsRow_made v0 #[] 0 (Nat.le_refl _) (by decide) rfl).alloc _
      case s1 => exact HU.out.below (((Below.refl _ v0).alloc (Nat.le_refl _) _).alloc (by simp) _).drew
      case t1 => exact icells_one _
      case c1 => unfold maxLen; omega
      case d1 => omega
      case e1 => first | (simp; done) | (simp; omega)
      intro a5 c5 w5 ho5 hC5 hob5
      try simp only [Nat.zero_add, List.nil_append] at ho5
      try simp only [Nat.zero_add]
      have hB5 : Below v0.heap.size v0 w5 := (((Below.refl _ v0).alloc (Nat.le_refl _) _).alloc (by simp) _).drew.trans (hC5.below (by simp <;> omega) (by simp [ob]))
      have hHeld := Held.of_chg (q := w.heap.size) (((((Below.refl _ v0).alloc (Nat.le_refl _) _).alloc (by simp) _).drew.block _ (by omega)).trans Hx0.out) hC5 (by simp [ob]; omega)
      have hd5 : ∀ x ∈ ob a5, x < w5.heap.size := fun x hx => (owns_lt ho5 x hx).2
      have hob5' : ∀ x ∈ ob a5, x ≠ v0.heap.size + 1 := fun x hx => by
        have := hob5 x hx
        simp [ob] at this
        omega
      have hE2 := owns_chg (F := ob (some ⟨v0.heap.size, 0, none⟩)) (w := ((v0.alloc (.cells #[] 58)).alloc (.cells #[] 31)).drew) (show ((v0.alloc (.cells #[] 58)).alloc (.cells #[] 31)).drew.ownsRow v0.heap.size 31 3 (.slice (some ⟨v0.heap.size + 1, 0, none⟩) 0 0) 0 [] by
        have h1 := (owns_base (base' := v0.heap.size) (e := 31) (size := 3) (World.ownsRow_made (v0.alloc (.cells #[] 58)) #[] 0 (Nat.le_refl _) (by decide) rfl) (by simp))
        rw [World.size_alloc] at h1
        exact h1) hC5 (by simp [ob])
      have HE2 := Lib.hid hE2
      clear hE2
      have Ho5 := Lib.hid ho5
      have HB5 := Lib.hid hB5
      clear ho5 hC5 hob5 hB5
      go_wp2_with fail
      refine And.intro hHeld ?_
      clear hHeld
      have hs5 := HB5.out.size
      go_wp2_with (at_builtin; go_must (refine wpList_append_sl rfl _ _ 33 rfl v0.heap.size 31 j0 (.agg #[.int .u8 0, .int .u32 0, .int .u64 0]) 3 16 Try.underlying33 hj0 jz0 jz1 jz2 rfl (by decide) (some ⟨v0.heap.size + 1, 0, none⟩) 0 0 [] rfl ?o2 ta ts.length tc (dcells ts) rfl ?s2 ?t2 ?c2 ?d2 ?e2 ?_))
      case o2 =>
        exact HE2.out
      case s2 => exact HV.out.below HB5.out
      case t2 => exact dcells_one _
      case c2 => unfold maxLen; omega
      case d2 => omega
      case e2 => first | omega | (simp; omega)
      intro a6 c6 w6 ho6 hC6 hob6
      try simp only [Nat.zero_add, List.nil_append] at ho6
      try simp only [Nat.zero_add]
      have HB6 := Lib.hid (HB5.out.trans (hC6.below (by first | exact hs5 | (simp; omega)) (by simp [ob] <;> omega)))
      have Ho5b := Lib.hid (owns_chg Ho5.out hC6 (fun x hx => by simp [ob]; have := hd5 x hx; have := hob5' x hx; omega))
      have Ho6 := Lib.hid ho6
      have Hdis := Lib.hid (show ∀ x ∈ ob a5, x ∉ ob a6 from fun x hx hx6 => by
        have h1 := hd5 x hx
        have h2 := hob6 x hx6
        simp [ob] at h2
        have := hob5' x hx; omega)
      have hi6 := (HB6.out.block _ (by omega)).trans Hv0.out
      have e6 := cells_at hi6
      have h6 := (HB6.out.block _ (by omega)).trans Hx0.out
      have d6 := cells_at h6
      have k6 := free_at h6
      try simp only [lcells, zcells1] at d6 e6
      have f6 := free_at hi6
      clear ho6 hC6 hob6 hi6 h6
      go_wp2_with fail
      refine And.intro (And.intro (by kernel_rfl) ?rds) ?_
      case rds => exact reads_of ⟨trivial, trivial, rfl, trivial, trivial, trivial, rfl, trivial, trivial, trivial, trivial, trivial, trivial⟩
      go_wp2_with fail
      refine bodyPost_ret (v := lval ⟨k, n, t, ((r, i), s), x, is, ts⟩ a5 c5 a6 c6) (by simp [results, Try.results17, go_sem, lval, e6]) rfl (own_end hs0 HB0.out HB6.out Ho5b.out Ho6.out Hli.out Hlt.out _ _ _ _ _ _ _ _ _ _ _)
  · skip
    go_wp2_with (at_builtin; go_must (refine wpList_append_sl rfl _ _ 38 rfl v0.heap.size 58 i0 (.agg #[.int .u64 0, .int .u8 0, .int .u32 0, .int .u64 0, .string ⟨#[]⟩]) 5 40 Try.underlying38 hi0 hz0 hz1 hz2 rfl (by decide) (some ⟨v0.heap.size + 1, 0, none⟩) 0 0 [] rfl ?o1 ia is.length ic (icells is) rfl ?s1 ?t1 ?c1 ?d1 ?e1 ?_))
    case o1 =>
      have h1 := (owns_base (base' := v0.heap.size) (e := 58) (size := 5) (World.ownsRow_made (v0.alloc (.cells #[] 31)) #[] 0 (Nat.le_refl _) (by decide) rfl) (by simp))
      rw [World.size_alloc] at h1
      exact h1
    case s1 => exact HU.out.below (((Below.refl _ v0).alloc (Nat.le_refl _) _).alloc (by simp) _).drew
    case t1 => exact icells_one _
    case c1 => unfold maxLen; omega
    case d1 => omega
    case e1 => first | (simp; done) | (simp; omega)
    intro a5 c5 w5 ho5 hC5 hob5
    try simp only [Nat.zero_add, List.nil_append] at ho5
    try simp only [Nat.zero_add]
    have hB5 : Below v0.heap.size v0 w5 := (((Below.refl _ v0).alloc (Nat.le_refl _) _).alloc (by simp) _).drew.trans (hC5.below (by simp <;> omega) (by simp [ob]))
    have hHeld := Held.of_chg (q := w.heap.size) (((((Below.refl _ v0).alloc (Nat.le_refl _) _).alloc (by simp) _).drew.block _ (by omega)).trans Hx0.out) hC5 (by simp [ob]; omega)
    have hd5 : ∀ x ∈ ob a5, x < w5.heap.size := fun x hx => (owns_lt ho5 x hx).2
    have hob5' : ∀ x ∈ ob a5, x ≠ v0.heap.size := fun x hx => by
      have := hob5 x hx
      simp [ob] at this
      omega
    have hE2 := owns_chg (F := ob (some ⟨v0.heap.size + 1, 0, none⟩)) (w := ((v0.alloc (.cells #[] 31)).alloc (.cells #[] 58)).drew) (show ((v0.alloc (.cells #[] 31)).alloc (.cells #[] 58)).drew.ownsRow v0.heap.size 31 3 (.slice (some ⟨v0.heap.size, 0, none⟩) 0 0) 0 [] from (World.ownsRow_made v0 #[] 0 (Nat.le_refl _) (by decide) rfl).alloc _) hC5 (by simp [ob])
    have HE2 := Lib.hid hE2
    clear hE2
    have Ho5 := Lib.hid ho5
    have HB5 := Lib.hid hB5
    clear ho5 hC5 hob5 hB5
    go_wp2_with fail
    refine And.intro hHeld ?_
    clear hHeld
    have hs5 := HB5.out.size
    go_wp2_with (at_builtin; go_must (refine wpList_append_sl rfl _ _ 33 rfl v0.heap.size 31 j0 (.agg #[.int .u8 0, .int .u32 0, .int .u64 0]) 3 16 Try.underlying33 hj0 jz0 jz1 jz2 rfl (by decide) (some ⟨v0.heap.size, 0, none⟩) 0 0 [] rfl ?o2 ta ts.length tc (dcells ts) rfl ?s2 ?t2 ?c2 ?d2 ?e2 ?_))
    case o2 =>
      exact HE2.out
    case s2 => exact HV.out.below HB5.out
    case t2 => exact dcells_one _
    case c2 => unfold maxLen; omega
    case d2 => omega
    case e2 => first | omega | (simp; omega)
    intro a6 c6 w6 ho6 hC6 hob6
    try simp only [Nat.zero_add, List.nil_append] at ho6
    try simp only [Nat.zero_add]
    have HB6 := Lib.hid (HB5.out.trans (hC6.below (by first | exact hs5 | (simp; omega)) (by simp [ob] <;> omega)))
    have Ho5b := Lib.hid (owns_chg Ho5.out hC6 (fun x hx => by simp [ob]; have := hd5 x hx; have := hob5' x hx; omega))
    have Ho6 := Lib.hid ho6
    have Hdis := Lib.hid (show ∀ x ∈ ob a5, x ∉ ob a6 from fun x hx hx6 => by
      have h1 := hd5 x hx
      have h2 := hob6 x hx6
      simp [ob] at h2
      have := hob5' x hx; omega)
    have hi6 := (HB6.out.block _ (by omega)).trans Hv0.out
    have e6 := cells_at hi6
    have h6 := (HB6.out.block _ (by omega)).trans Hx0.out
    have d6 := cells_at h6
    have k6 := free_at h6
    try simp only [lcells, zcells1] at d6 e6
    have f6 := free_at hi6
    clear ho6 hC6 hob6 hi6 h6
    go_wp2_with fail
    refine And.intro (And.intro (by kernel_rfl) ?rds) ?_
    case rds => exact reads_of ⟨trivial, trivial, rfl, trivial, trivial, trivial, rfl, trivial, trivial, trivial, trivial, trivial, trivial⟩
    go_wp2_with fail
    refine bodyPost_ret (v := lval ⟨k, n, t, ((r, i), s), x, is, ts⟩ a5 c5 a6 c6) (by simp [results, Try.results17, go_sem, lval, e6]) rfl (own_end hs0 HB0.out HB6.out Ho5b.out Ho6.out Hli.out Hlt.out _ _ _ _ _ _ _ _ _ _ _)
end Go.Proofs.Ytmabjghjkgicgaa
