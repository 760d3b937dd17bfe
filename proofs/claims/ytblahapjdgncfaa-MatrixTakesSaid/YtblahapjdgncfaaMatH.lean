/- ack, known of law 17. -/
import Derived.Test.YtblahapjdgncfaaMatG
namespace Go.Proofs.Ytblahapjdgncfaa
open Go.RowKit
set_option linter.unusedVariables false
set_option linter.unusedSimpArgs false

theorem index2_0 (x y : Int) (w : World) : (Instr.index 99 (.agg #[.int .u64 x, .int .u64 y]) (.int .i64 0)).run Try.prog w = .ok (.int .u64 x) w := by kernel_rfl
theorem index2_1 (x y : Int) (w : World) : (Instr.index 99 (.agg #[.int .u64 x, .int .u64 y]) (.int .i64 1)).run Try.prog w = .ok (.int .u64 y) w := by kernel_rfl
theorem field_vv (a b c d : Value) (w : World) : (Instr.field 51 (.agg #[a, b, c, d]) 2).run Try.prog w = .ok d w := by kernel_rfl
attribute [go_sem] index2_0 index2_1 field_vv
/-- the box x of ack, behind k rounds -/
structure AckBox (w wr : World) (rep a b : Int) (k : Nat) (av : Option Addr) (cv n : Nat) : Prop where
  len : (ackV a b k).length = n
  x : wr.heap[w.heap.size + 2]? = some (.cells #[.int .u8 rep, .int .u32 1, .slice (some ⟨w.heap.size + 1, 0, none⟩) 2 2, .slice av n cv] 51 (0, 0))
  i : wr.heap[w.heap.size + 1]? = some (.cells #[.int .u32 1, .int .u32 1] 29 (0, 0))
  o : wr.heap[w.heap.size]? = some (.cells #[.int .u8 0, .int .u32 0, .slice none 0 0, .slice none 0 0] 51 (0, 0))
  own : wr.ownsRow (w.heap.size + 3) 34 3 (.slice av n cv) n (dcells (ackV a b k))
  below : Below w.heap.size w wr

set_option maxRecDepth 100000 in
set_option maxHeartbeats 2000000 in
theorem ack_any (rep a b : Int) (w : World) :
    Calls Try.prog 36 #[.int .u8 rep, .int .u64 a, .int .u64 b] w (AckTo w ⟨rep, 1, [1, 1], ackV a b 2⟩) := by
  obtain ⟨i0, hi0, hz0, hz1, hz2⟩ := info_parts Try.info_dot
  go_enter Try.func36, Try.ntmps36
  go_wp2_with fail
  go_loopw [17] (fun j wr => ∃ (k : Nat) (av : Option Addr) (cv n : Nat), k ≤ 2 ∧ j = .int .i64 k ∧ Hid (AckBox w wr rep a b k av cv n)) (fun j _ => 2 - (intOf j).toNat)
  case atStart =>
    exact ⟨0, none, 0, 0, by omega, rfl, Lib.hid ⟨rfl, heap_new3 w _ _ _, (heap_ne _ _ _ (by simp)).trans (heap_new2 w _ _), (heap_ne _ _ _ (by simp; omega)).trans ((heap_ne _ _ _ (by simp)).trans (heap_new w _)), ⟨rfl, .inl ⟨rfl, rfl⟩⟩, ((((Below.refl _ w).alloc (Nat.le_refl _) _).alloc (by simp) _).alloc (by simp; omega) _)⟩⟩
  case round =>
    obtain ⟨k, av, cv, n, hk, rfl, HX⟩ := hrel
    have dx := cells_at HX.out.x
    have fx := free_at HX.out.x
    have hsz := heap_lt HX.out.x
    have hn2 : n ≤ 2 := by rw [← HX.out.len]; match k with
      | 0 => simp [ackV]
      | 1 => simp [ackV, one]; split <;> simp
      | k + 2 => simp [ackV, one]; split <;> split <;> simp
    rcases Nat.lt_or_ge k 1 with hk0 | hk0
    · obtain rfl : k = 0 := by omega
      by_cases hp : 0 < a
      · have hl' := Lib.hid (show (ackV a b (0 + 1)).length = n + 1 by rw [← HX.out.len]; simp [ackV, one, hp])
        have hc' := Lib.hid (show dcells (ackV a b (0 + 1)) = dcells (ackV a b 0) ++ dcell ((0, 1), a) by rw [← dcells_snoc]; simp [ackV, one, hp])
        go_wp2_with (at_builtin; go_must (refine wpList_append_sl rfl _ _ 23 rfl (w.heap.size + 3) 34 i0 (.agg #[.int .u8 0, .int .u32 0, .int .u64 0]) 3 16 Try.underlying23 hi0 hz0 hz1 hz2 rfl (by decide) av n cv (dcells (ackV a b 0)) rfl ?o1 (some ⟨wr.heap.size, 0, none⟩) 1 1 (dcell ((0, 1), a)) rfl ?s1 ?t1 ?c1 ?d1 ?e1 ?_))
        case o1 => exact owns_chg (F := []) HX.out.own (Chg.alloc _ _ _) (by simp)
        case s1 => exact Sl.blk (heap_new wr _) rfl (by decide)
        case t1 => intro u hu; simp [dcell] at hu; rcases hu with rfl | rfl | rfl <;> rfl
        case c1 => unfold maxLen; omega
        case d1 => omega
        case e1 => simp; omega
        intro a1 c1 w1 ho1 hC1 hob1
        have hlt := owns_lt HX.out.own
        have hC : Chg (ob av) wr w1 := ((Chg.alloc (ob av) wr _).trans hC1 (fun x hx _ => hx))
        have hx1 := heap_chg HX.out.x hC (fun hk => by have := (hlt _ hk).1; omega)
        have hi1 := heap_chg HX.out.i hC (fun hk => by have := (hlt _ hk).1; omega)
        have ho0 := heap_chg HX.out.o hC (fun hk => by have := (hlt _ hk).1; omega)
        have dx1 := cells_at hx1
        have fx1 := free_at hx1
        have Hx1 := Lib.hid hx1
        have Hi1 := Lib.hid hi1
        have Ho0 := Lib.hid ho0
        have Ho1 := Lib.hid ho1
        have HB1 := Lib.hid (HX.out.below.trans (hC.below HX.out.below.size (fun x hx => by have := (hlt x hx).1; omega)))
        clear ho1 hC1 hob1 hC hx1 hi1 ho0 hlt dx fx
        go_wp2_with fail
        go_roundw
        case rel =>
          refine ⟨0 + 1, a1, c1, n + 1, by omega, by go_num, Lib.hid ⟨hl'.out, ?_, ?_, ?_, ?_, ?_⟩⟩
          · rw [heap_setCell_same w1 _ 3 _ _ _ Hx1.out]; rfl
          · rw [Below.heap_setCell w1 _ _ _ (by simp)]; exact Hi1.out
          · rw [Below.heap_setCell w1 _ _ _ (by simp; omega)]; exact Ho0.out
          · rw [hc'.out]; exact owns_set Ho1.out (by simp)
          · exact HB1.out.setCell (by simp; omega) _
        case measure => simp [intOf]
      · have hp' : decide (0 < a) = false := by simpa using hp
        have hl' := Lib.hid (show ackV a b (0 + 1) = ackV a b 0 by simp [ackV, one, hp])
        go_wp2_with fail
        go_roundw
        case rel => exact ⟨0 + 1, av, cv, n, by omega, by go_num, Lib.hid ⟨by rw [hl'.out]; exact HX.out.len, HX.out.x, HX.out.i, HX.out.o, by rw [hl'.out]; exact HX.out.own, HX.out.below⟩⟩
        case measure => simp [intOf]
    rcases Nat.lt_or_ge k 2 with hk1 | hk1
    · obtain rfl : k = 1 := by omega
      by_cases hp : 0 < b
      · have hl' := Lib.hid (show (ackV a b (1 + 1)).length = n + 1 by rw [← HX.out.len]; simp [ackV, one, hp])
        have hc' := Lib.hid (show dcells (ackV a b (1 + 1)) = dcells (ackV a b 1) ++ dcell ((1, 1), b) by rw [← dcells_snoc]; simp [ackV, one, hp])
        go_wp2_with (at_builtin; go_must (refine wpList_append_sl rfl _ _ 23 rfl (w.heap.size + 3) 34 i0 (.agg #[.int .u8 0, .int .u32 0, .int .u64 0]) 3 16 Try.underlying23 hi0 hz0 hz1 hz2 rfl (by decide) av n cv (dcells (ackV a b 1)) rfl ?o1 (some ⟨wr.heap.size, 0, none⟩) 1 1 (dcell ((1, 1), b)) rfl ?s1 ?t1 ?c1 ?d1 ?e1 ?_))
        case o1 => exact owns_chg (F := []) HX.out.own (Chg.alloc _ _ _) (by simp)
        case s1 => exact Sl.blk (heap_new wr _) rfl (by decide)
        case t1 => intro u hu; simp [dcell] at hu; rcases hu with rfl | rfl | rfl <;> rfl
        case c1 => unfold maxLen; omega
        case d1 => omega
        case e1 => simp; omega
        intro a1 c1 w1 ho1 hC1 hob1
        have hlt := owns_lt HX.out.own
        have hC : Chg (ob av) wr w1 := ((Chg.alloc (ob av) wr _).trans hC1 (fun x hx _ => hx))
        have hx1 := heap_chg HX.out.x hC (fun hk => by have := (hlt _ hk).1; omega)
        have hi1 := heap_chg HX.out.i hC (fun hk => by have := (hlt _ hk).1; omega)
        have ho0 := heap_chg HX.out.o hC (fun hk => by have := (hlt _ hk).1; omega)
        have dx1 := cells_at hx1
        have fx1 := free_at hx1
        have Hx1 := Lib.hid hx1
        have Hi1 := Lib.hid hi1
        have Ho0 := Lib.hid ho0
        have Ho1 := Lib.hid ho1
        have HB1 := Lib.hid (HX.out.below.trans (hC.below HX.out.below.size (fun x hx => by have := (hlt x hx).1; omega)))
        clear ho1 hC1 hob1 hC hx1 hi1 ho0 hlt dx fx
        go_wp2_with fail
        go_roundw
        case rel =>
          refine ⟨1 + 1, a1, c1, n + 1, by omega, by go_num, Lib.hid ⟨hl'.out, ?_, ?_, ?_, ?_, ?_⟩⟩
          · rw [heap_setCell_same w1 _ 3 _ _ _ Hx1.out]; rfl
          · rw [Below.heap_setCell w1 _ _ _ (by simp)]; exact Hi1.out
          · rw [Below.heap_setCell w1 _ _ _ (by simp; omega)]; exact Ho0.out
          · rw [hc'.out]; exact owns_set Ho1.out (by simp)
          · exact HB1.out.setCell (by simp; omega) _
        case measure => simp [intOf]
      · have hp' : decide (0 < b) = false := by simpa using hp
        have hl' := Lib.hid (show ackV a b (1 + 1) = ackV a b 1 by simp [ackV, one, hp])
        go_wp2_with fail
        go_roundw
        case rel => exact ⟨1 + 1, av, cv, n, by omega, by go_num, Lib.hid ⟨by rw [hl'.out]; exact HX.out.len, HX.out.x, HX.out.i, HX.out.o, by rw [hl'.out]; exact HX.out.own, HX.out.below⟩⟩
        case measure => simp [intOf]
    · obtain rfl : k = 2 := by omega
      have do1 := cells_at HX.out.o
      have fo1 := free_at HX.out.o
      go_wp2_with fail
      have hl := HX.out.len
      subst hl
      have oi : wr.ownsRow (w.heap.size + 1) 29 1 (.slice (some ⟨w.heap.size + 1, 0, none⟩) 2 2) 2 (ucells [1, 1]) := by
        refine ⟨rfl, .inr ⟨w.heap.size + 1, 2, #[.int .u32 1, .int .u32 1], rfl, Nat.le_refl _, HX.out.i, by omega, by decide, rfl, ?_⟩⟩
        rfl
      refine bodyPost_ret (v := .agg #[.int .u8 rep, .int .u32 1, .slice (some ⟨w.heap.size + 1, 0, none⟩) 2 2, .slice av (ackV a b 2).length cv]) (by simp [results, Try.results36, go_sem, do1]) rfl ⟨_, _, av, cv, rfl, ?_, ?_, ?_⟩
      · exact owns_base (owns_set (owns_set (owns_set (owns_set oi (by simp)) (by simp)) (by simp)) (by simp)) (by omega)
      · exact owns_base (owns_set (owns_set (owns_set (owns_set HX.out.own (by simp)) (by simp)) (by simp)) (by simp)) (by omega)
      · exact below_box4 HX.out.below _ _ _ _
end Go.Proofs.Ytblahapjdgncfaa
