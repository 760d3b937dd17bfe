/- All, Copy. -/
import Derived.Test.YtkgbdgnfidpelaaBagG
namespace Go.Proofs.Ytkgbdgnfidpelaa
open Go.RowKit
set_option linter.unusedVariables false
set_option linter.unusedSimpArgs false

theorem Try.info_api_letter : (Try.prog.info? 30).map (fun i => (i.zero, i.size, i.bytes)) = some (some (.agg #[.int .u8 0, .slice none 0 0]), 2, 32) := by kernel_rfl

theorem field_letter (a b c : Value) (w : World) : (Instr.field 55 (.agg #[a, b, c]) 0).run Try.prog w = .ok (.agg #[a, b]) w := by kernel_rfl
attribute [go_sem] field_letter

def acell (x : Ml) : List Value := [.int .u8 x.1.t, .slice x.2.1 x.1.b.length x.2.2]
def acells (N : List Ml) : List Value := N.flatMap acell
theorem acells_length (N : List Ml) : (acells N).length = N.length * 2 := by
  induction N with
  | nil => rfl
  | cons x N ih => simp only [acells, List.flatMap_cons, List.length_append, List.length_cons] at ih ⊢; rw [ih]; simp [acell]; omega
theorem acells_snoc (N : List Ml) (x : Ml) : acells (N ++ [x]) = acells N ++ acell x := by simp [acells]
/-- letters told, in memory from block B on -/
structure AllAt (w : World) (B : Nat) (N : List Ml) (oa : Option Addr) (oc : Nat) : Prop where
  row : w.ownsRow B 30 2 (.slice oa N.length oc) N.length (acells N)
  bytes : ∀ x ∈ N, w.ownsRow B 5 1 (.slice x.2.1 x.1.b.length x.2.2) x.1.b.length (u8s x.1.b)
theorem AllAt.nil (w : World) (B : Nat) : AllAt w B [] none 0 := ⟨World.ownsRow_nil _ _ _ _, fun x hx => (by cases hx)⟩

theorem all_nil (w : World) : Calls Try.prog 10 #[.pointer none] w fun e w' => e = .returned (.slice none 0 0) ∧ w = w' := by
  go_enter Try.func10, Try.ntmps10
  go_wp2
  go_ret
  exact ⟨rfl, rfl⟩

/-- the relation of the loop -/
def AllRel (w : World) (M : List Ml) (k : Nat) (out : Value) (wr : World) : Prop :=
  ∃ N oa oc, out = .slice oa k oc ∧ N.length = k ∧ N.map (·.1) = (M.take k).map (·.1) ∧ AllAt wr w.heap.size N oa oc ∧ Below w.heap.size w wr

/-- one more letter told -/
theorem all_step {w wr w1 w2 : World} {M : List Ml} {k : Nat} {N : List Ml} {oa : Option Addr} {oc : Nat} {x : Ml} {a' : Option Addr} {c' : Nat} {v' : Value} {o1 o2 : Obj}
    (hN : N.length = k) (hNm : N.map (·.1) = (M.take k).map (·.1)) (hA : AllAt wr w.heap.size N oa oc) (hbel : Below w.heap.size w wr) (hx : M[k]? = some x)
    (hb1 : Below (wr.alloc o1).heap.size (wr.alloc o1) w1) (ho1 : w1.ownsRow (wr.alloc o1).heap.size 5 1 (.slice a' x.1.b.length c') x.1.b.length (u8s x.1.b))
    (ho2 : w2.ownsRow w.heap.size 30 2 v' (k + 1) (acells N ++ [.int .u8 x.1.t, .slice a' x.1.b.length c'])) (hg2 : (w1.alloc o2).grownBy w2 (Value.slice oa k oc).ownBlock) :
    AllRel w M (k + 1) v' w2 := by
  obtain ⟨a2, c2, rfl⟩ := owns_slice ho2
  have hsz := hbel.size
  have h1 : Below w.heap.size w w1 := (hbel.alloc (by omega) o1).trans (hb1.mono (by simp; omega))
  have hA' := owns_lt hA.row
  have hgg : Chg (ob oa) w1 w2 := (Chg.alloc (ob oa) w1 o2).trans (Chg.grown hg2) (by rw [ownBlock_eq]; cases oa <;> simp [ob])
  have c01 : Chg [] wr w1 := (Chg.alloc [] wr o1).trans (Chg.of_below (F := []) hb1) (by simp)
  -- a row of letters is no row of bytes
  have apart : ∀ {y : Ml} {B : Nat}, w1.ownsRow B 5 1 (.slice y.2.1 y.1.b.length y.2.2) y.1.b.length (u8s y.1.b) → ∀ b ∈ ob y.2.1, b ∉ ob oa := by
    intro y B hy b hb ha
    have hr := owns_chg hA.row c01 (by simp)
    rcases hr.2 with ⟨h, _⟩ | ⟨g, cap, cur, h, _, hg, _⟩
    · simp at h; rw [h.1] at ha; simp [ob] at ha
    · simp at h; rw [h.1] at ha; simp [ob] at ha
      rcases hy.2 with ⟨h', _⟩ | ⟨g', cap', cur', h', _, hg', _⟩
      · simp at h'; rw [h'.1] at hb; simp [ob] at hb
      · simp at h'; rw [h'.1] at hb; simp [ob] at hb
        rw [← hb, ha, hg] at hg'; simp at hg'
  refine ⟨N ++ [(x.1, a', c')], a2, c2, rfl, by simp [hN], ?_, ⟨?_, ?_⟩, ?_⟩
  · rw [List.map_append, hNm, List.take_add_one, hx]; simp
  · rw [show (N ++ [(x.1, a', c')]).length = k + 1 by simp [hN], acells_snoc]; exact ho2
  · intro y hy
    rw [List.mem_append, List.mem_singleton] at hy
    rcases hy with hy | rfl
    · have h := owns_chg (hA.bytes y hy) c01 (by simp)
      exact owns_chg h hgg (apart h)
    · refine owns_chg (owns_base ho1 (by simp; omega)) hgg (apart (y := (x.1, a', c')) ho1)
  · exact h1.trans (hgg.below (by have := h1.size; omega) fun b hb => (hA' b hb).1)

set_option maxHeartbeats 1000000 in
theorem all_any (pb sc : Nat) (sa : Option Addr) (M : List Ml) (w : World) (hb : BagAt w pb M sa sc) (hm : M.length ≤ 1000000) (hl : ∀ x ∈ M, x.1.b.length ≤ 140737488355328) :
    Calls Try.prog 10 #[.pointer (some ⟨pb, 0, none⟩)] w fun e w' => ∃ v, e = .returned v ∧ AllRel w M M.length v w' := by
  obtain ⟨i0, hi0, hz0, hz1, hz2⟩ := info_parts Try.info_api_letter
  have Hb := Lib.hid hb
  have hp := cells_at hb.blk
  have Hl := Lib.hid hl
  clear hb hl
  go_enter Try.func10, Try.ntmps10
  go_wp2_with fail
  clear hp
  go_loopw [2, 12] (fun out i wr => ∃ k : Nat, k ≤ M.length ∧ i = .int .i64 k ∧ AllRel w M k out wr) (fun _ i _ => M.length - (intOf i).toNat)
  case atStart => exact ⟨0, Nat.zero_le _, rfl, [], none, 0, rfl, rfl, by simp, AllAt.nil _ _, Below.refl _ _⟩
  case round =>
    obtain ⟨k, hk, rfl, N, oa, oc, rfl, hN, hNm, hA, hbel⟩ := hrel
    by_cases hlt : k < M.length
    · obtain ⟨g, hsa⟩ := Hb.out.some (by omega)
      subst hsa
      obtain ⟨x, hx⟩ : ∃ x, M[k]? = some x := ⟨M[k], by simp [hlt]⟩
      obtain ⟨e0, e1, e2⟩ := row_at (Hb.out.chg (F := []) (Chg.of_below hbel) (by simp)).row hx
      have lg : g < wr.heap.size := by have := hbel.size; have := Hb.out.lt g (by simp [foot, ob]); omega
      have hsl := Lib.hid (Sl.of_owns ((Hb.out.chg (F := []) (Chg.of_below hbel) (by simp)).bytes _ (List.mem_of_getElem? hx)))
      have hnx := Hl.out _ (List.mem_of_getElem? hx)
      have hsz := hbel.size
      have Hx := Lib.hid hx
      have HN := Lib.hid hN
      have HNm := Lib.hid hNm
      have HA := Lib.hid hA
      have Hbel := Lib.hid hbel
      have hlt' : (k : Int) < (M.length : Int) := by omega
      clear hx hN hNm hA hbel
      obtain ⟨⟨t8, bs, ch⟩, xa, xc⟩ := x
      dsimp only at e0 e1 e2 hsl hnx
      go_wp2_with fail
      refine (own_any t8 ch xa bs.length xc (u8s bs) _ (hsl.out.below ?b1) (u8s_one bs) hnx).mono ?_
      case b1 => exact (Below.refl _ _).alloc (Nat.le_refl _) _
      rintro e w1 ⟨a', c', rfl, ho1, hb1⟩
      have hz1' := hb1.size
      simp at hz1'
      have Hown : Hid (w1.ownsRow w.heap.size 30 2 (.slice oa k oc) k (acells N)) := by
        have := HN.out
        subst this
        exact Lib.hid (owns_chg HA.out.row ((Chg.alloc [] wr _).trans (Chg.of_below (F := []) hb1) (by simp)) (by simp))
      go_wp2_with (at_builtin; go_must (refine wpList_append_own _ rfl _ _ 22 rfl w.heap.size 30 i0 (.agg #[.int .u8 0, .slice none 0 0]) 2 32 Try.underlying22 hi0 hz0 hz1 hz2 rfl (by decide) _ k (acells N) rfl (Hown.out.alloc _) ⟨w1.heap.size, 0, none⟩ 1 1 [.int .u8 t8, .slice a' bs.length c'] rfl rfl (World.news_of_block (cs := #[.int .u8 t8, .slice a' bs.length c']) (t := 30) (fr := (0, 0)) (heap_alloc_new w1 _)) (by simp [Value.oneCell']) ?c3 ?c4 ?c5 ?_))
      case c3 => unfold maxLen; omega
      case c4 => omega
      case c5 => simp; omega
      intro v' w2 ho2 hg2 hnil
      have HR := Lib.hid (all_step (x := (⟨t8, bs, ch⟩, xa, xc)) HN.out HNm.out HA.out Hbel.out Hx.out hb1 ho1 ho2 hg2)
      clear ho2 hg2 hnil ho1 hb1 e0 e1 e2
      go_wp2_with fail
      go_roundw
      case rel => exact ⟨k + 1, by omega, by go_num, HR.out⟩
      case measure => simp [intOf]; omega
    · obtain rfl : k = M.length := by omega
      have HR := Lib.hid (show AllRel w M M.length (.slice oa M.length oc) wr from ⟨N, oa, oc, rfl, hN, hNm, hA, hbel⟩)
      clear hN hNm hA hbel
      go_wp2_with fail
      go_ret
      exact ⟨_, rfl, HR.out⟩

theorem copy_nil (w : World) : Calls Try.prog 19 #[.pointer none] w fun e w' => e = .returned (.pointer none) ∧ w = w' := by
  go_enter Try.func19, Try.ntmps19
  go_wp2
  go_ret
  exact ⟨rfl, rfl⟩

def CopyRel (w : World) (M : List Ml) (k : Nat) (wr : World) : Prop :=
  ∃ M' sa' sc', BagAt wr w.heap.size M' sa' sc' ∧ M'.length = k ∧ M'.map (·.1) = (M.take k).map (·.1) ∧ (∀ b ∈ foot w.heap.size sa' M', w.heap.size ≤ b) ∧ Below w.heap.size w wr

theorem copy_step {w wr w1 w2 : World} {M M' : List Ml} {k g2 c2 : Nat} {sa' : Option Addr} {sc' : Nat} {x : Ml} {a' : Option Addr} {c' : Nat} {o1 o2 : Obj}
    (hN : M'.length = k) (hNm : M'.map (·.1) = (M.take k).map (·.1)) (hA : BagAt wr w.heap.size M' sa' sc') (hfoot : ∀ b ∈ foot w.heap.size sa' M', w.heap.size ≤ b) (hbel : Below w.heap.size w wr) (hx : M[k]? = some x)
    (hb1 : Below (wr.alloc o1).drew.heap.size (wr.alloc o1).drew w1) (ho1 : w1.ownsRow (wr.alloc o1).drew.heap.size 5 1 (.slice a' x.1.b.length c') x.1.b.length (u8s x.1.b))
    (ho2 : w2.ownsRow 0 55 3 (.slice (some ⟨g2, 0, none⟩) (k + 1) c2) (k + 1) (rcells M' ++ [.int .u8 x.1.t, .slice a' x.1.b.length c', .bool x.1.ch])) (hg2 : (w1.alloc o2).grownBy w2 (Value.slice sa' k sc').ownBlock) (hat2 : (Value.slice sa' k sc').ownBlock = some g2 ∨ g2 = w1.heap.size + 1) :
    CopyRel w M (k + 1) (w2.setCell ⟨w.heap.size, 0, none⟩ (.slice (some ⟨g2, 0, none⟩) (k + 1) c2)) := by
  subst hN
  have hsz := hbel.size
  have c01 : Chg [] wr w1 := ((Chg.alloc [] wr o1).trans (Chg.drew [] _) (by simp)).trans (Chg.of_below (F := []) hb1) (by simp)
  have hA1 := hA.chg c01 (by simp)
  have hcg : Chg (ob sa') w1 w2 := (Chg.alloc (ob sa') w1 o2).trans (Chg.grown hg2) (by rw [ownBlock_eq]; cases sa' <;> simp [ob])
  have hlt1 : (wr.alloc o1).drew.heap.size ≤ w1.heap.size := hb1.size
  simp at hlt1
  obtain ⟨hB1, hB2⟩ := bag_snoc (x := (x.1, a', c')) (a2 := some ⟨g2, 0, none⟩) (c2 := c2) (B := wr.heap.size + 1) (w2 := w2) hA1 (by simpa using ho1) (fun k hk => by have := hA.lt k hk; omega) hlt1 ho2 hcg (by
    intro b hb
    simp [ob] at hb
    subst hb
    rcases hat2 with h1 | h1
    · left; rw [ownBlock_eq] at h1; cases sa' <;> simp [ob] at h1 ⊢; exact h1.symm
    · right; omega)
  refine ⟨_, _, _, hB1, by simp, ?_, ?_, ?_⟩
  · rw [List.map_append, hNm, List.take_add_one, hx]; simp
  · intro b hb
    rcases hB2 b hb with h | h
    · exact hfoot b h
    · omega
  · refine hbel.trans ?_
    have h1 : Chg (w.heap.size :: ob sa') wr (w2.setCell ⟨w.heap.size, 0, none⟩ (.slice (some ⟨g2, 0, none⟩) (M'.length + 1) c2)) := ((c01.mono (G := w.heap.size :: ob sa') (by simp)).trans hcg (fun x hx _ => by simp [hx])).trans (Chg.setCell w2 ⟨w.heap.size, 0, none⟩ _) (by simp)
    refine h1.below hsz fun b hb => ?_
    simp at hb
    rcases hb with rfl | hb
    · exact Nat.le_refl _
    · exact hfoot b (by simp [foot, hb])

set_option maxHeartbeats 1000000 in
theorem copy_any (pb sc : Nat) (sa : Option Addr) (M : List Ml) (w : World) (hb : BagAt w pb M sa sc) (hm : M.length ≤ 1000000) (hl : ∀ x ∈ M, x.1.b.length ≤ 140737488355328) :
    Calls Try.prog 19 #[.pointer (some ⟨pb, 0, none⟩)] w fun e w' => e = .returned (.pointer (some ⟨w.heap.size, 0, none⟩)) ∧ CopyRel w M M.length w' := by
  obtain ⟨i0, hi0, hz0, hz1, hz2⟩ := info_parts Try.info_letter
  have Hb := Lib.hid hb
  have hp := cells_at hb.blk
  have lp := heap_lt hb.blk
  have Hl := Lib.hid hl
  clear hb hl
  go_enter Try.func19, Try.ntmps19
  go_wp2_with fail
  clear hp
  go_loopw [15] (fun i wr => ∃ k : Nat, k ≤ M.length ∧ i = .int .i64 k ∧ CopyRel w M k wr) (fun i _ => M.length - (intOf i).toNat)
  case atStart => exact ⟨0, Nat.zero_le _, rfl, [], none, 0, ⟨heap_new _ _, World.ownsRow_nil _ _ _ _, fun x hx => (by cases hx), by simp [foot, ob]⟩, rfl, by simp, by simp [foot, ob], (Below.refl _ _).alloc (Nat.le_refl _) _⟩
  case round =>
    obtain ⟨k, hk, rfl, M', sa', sc', hA, hN, hNm, hfoot, hbel⟩ := hrel
    by_cases hlt : k < M.length
    · obtain ⟨g, hsa⟩ := Hb.out.some (by omega)
      subst hsa
      obtain ⟨x, hx⟩ : ∃ x, M[k]? = some x := ⟨M[k], by simp [hlt]⟩
      obtain ⟨e0, e1, e2⟩ := row_at (Hb.out.chg (F := []) (Chg.of_below hbel) (by simp)).row hx
      have lg : g < wr.heap.size := by have := hbel.size; have := Hb.out.lt g (by simp [foot, ob]); omega
      have hsl := Lib.hid (Sl.of_owns ((Hb.out.chg (F := []) (Chg.of_below hbel) (by simp)).bytes _ (List.mem_of_getElem? hx)))
      have hnx := Hl.out _ (List.mem_of_getElem? hx)
      have hsz := hbel.size
      subst hN
      have cc := cells_at hA.blk
      have lc := heap_lt hA.blk
      have Hx := Lib.hid hx
      have HNm := Lib.hid hNm
      have HA := Lib.hid hA
      have Hbel := Lib.hid hbel
      have Hfoot := Lib.hid hfoot
      have hlt' : (M'.length : Int) < (M.length : Int) := by omega
      clear hx hNm hA hbel hfoot
      obtain ⟨⟨t8, bs, ch⟩, xa, xc⟩ := x
      dsimp only at e0 e1 e2 hsl hnx
      go_wp2_with fail
      refine region_text [([0, 1, 2, 3, 4, 5], false), ([6], true), ([7, 8, 9, 10, 11], false)] mixed (by kernel_rfl) ?_
      simp only [wpSegs, List.map_cons, List.map_nil, List.getD_cons_succ, List.getD_cons_zero]
      go_wp2_with fail
      refine (own_any t8 ch xa bs.length xc (u8s bs) _ (hsl.out.below ?b1) (u8s_one bs) hnx).mono ?_
      case b1 => exact ((Below.refl _ _).alloc (Nat.le_refl _) _).drew
      rintro e w1 ⟨a', c', rfl, ho1, hb1⟩
      have hz1' := hb1.size
      simp at hz1'
      have Hown : Hid (w1.ownsRow 0 55 3 (.slice sa' M'.length sc') M'.length (rcells M')) := 
        Lib.hid (owns_chg HA.out.row (((Chg.alloc [] wr _).trans (Chg.drew [] _) (by simp)).trans (Chg.of_below (F := []) hb1) (by simp)) (by simp))
      clear cc
      go_wp2_with fail
      refine And.intro (Agree.of_below hb1) ?_
      go_wp2_with (at_builtin; go_must (refine wpList_append_lies _ rfl _ _ 51 rfl 0 55 i0 (.agg #[.int .u8 0, .slice none 0 0, .bool false]) 3 40 Try.underlying51 hi0 hz0 hz1 hz2 rfl (by decide) _ M'.length (rcells M') rfl (Hown.out.alloc _) ⟨w1.heap.size, 0, none⟩ 1 1 [.int .u8 t8, .slice a' bs.length c', .bool ch] rfl rfl (World.news_of_block (cs := #[.int .u8 t8, .slice a' bs.length c', .bool ch]) (t := 55) (fr := (0, 0)) (heap_alloc_new w1 _)) (by simp [Value.oneCell']) (by decide) ?c3 ?c4 ?c5 (w1.heap.size + 1) (by simp) ?_))
      case c3 => unfold maxLen; omega
      case c4 => omega
      case c5 => omega
      intro g2 c2 w2 ho2 hg2 hat2 hlt2
      have hblk2 : w2.heap[w.heap.size]? = some (.cells #[.slice sa' M'.length sc'] 53 (0, 0)) := by
        have h0 := heap_chg HA.out.blk (((Chg.alloc [] wr _).trans (Chg.drew [] _) (by simp)).trans (Chg.of_below (F := []) hb1) (by simp)) (by simp)
        refine heap_chg (heap_chg h0 (Chg.alloc [] w1 _) (by simp)) (Chg.grown hg2) ?_
        have hnd := HA.out.nodup
        simp only [foot, List.nodup_cons, List.mem_append, not_or] at hnd
        have := hnd.1.1
        rw [ownBlock_eq]
        cases sa' <;> simp [ob] at this ⊢
        exact this
      have cc2 := cells_at hblk2
      have ff2 := free_at hblk2
      clear hblk2
      have HR := Lib.hid (copy_step (x := (⟨t8, bs, ch⟩, xa, xc)) rfl HNm.out HA.out Hfoot.out Hbel.out Hx.out hb1 ho1 ho2 hg2 hat2)
      clear ho2 hg2 ho1 hb1 e0 e1 e2 hat2
      go_wp2_with fail
      refine And.intro (by kernel_rfl) ?_
      go_wp2_with fail
      go_roundw
      case rel => exact ⟨M'.length + 1, by omega, by go_num, HR.out⟩
      case measure => simp [intOf]; omega
    · obtain rfl : k = M.length := by omega
      have HR := Lib.hid (show CopyRel w M M.length wr from ⟨M', sa', sc', hA, hN, hNm, hfoot, hbel⟩)
      clear hN hNm hA hbel hfoot
      go_wp2_with fail
      go_ret
      exact ⟨rfl, HR.out⟩
end Go.Proofs.Ytkgbdgnfidpelaa
