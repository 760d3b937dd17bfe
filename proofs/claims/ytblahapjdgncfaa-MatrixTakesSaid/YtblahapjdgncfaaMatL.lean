/- The reference's Row (varveref17). -/
import Derived.Test.YtblahapjdgncfaaMatK
import Derived.Test.YtblahapjdgncfaaMatE
namespace Go.Proofs.Ytblahapjdgncfaa
open Go.RowKit
set_option linter.unusedVariables false
set_option linter.unusedSimpArgs false

def RRowYes (w : World) (a : Ak) (e : Ending) (w' : World) : Prop := ∃ ai ci av cv, e = .returned (.tuple #[.agg #[.int .u8 a.r, .int .u32 a.i, .slice ai a.incs.length ci, .slice av a.vv.length cv], .bool true]) ∧ U32 w' ai ci a.incs ∧ Vec w' av cv a.vv ∧ Below w.heap.size w w'
/-- what the reference's Row tells -/
def RRowTo (w : World) (o : Option Ak) (e : Ending) (w' : World) : Prop := (o = none ∧ RowNo w e w') ∨ ∃ a, o = some a ∧ RRowYes w a e w'
theorem RefCell.below {w w' : World} {b : Addr} {y : Ak} {ai : Option Addr} {ci : Nat} {av : Option Addr} {cv : Nat} (h : RefCell w b y ai ci av cv) (hb : Below w.heap.size w w') : RefCell w' b y ai ci av cv := by
  have hl := World.block_lt_of_cell? w _ h.c0
  exact ⟨(hb.cell hl).trans h.c0, (hb.cell (p := ⟨b.block, b.off + 1, none⟩) hl).trans h.c1, (hb.cell (p := ⟨b.block, b.off + 2, none⟩) hl).trans h.c2, (hb.cell (p := ⟨b.block, b.off + 3, none⟩) hl).trans h.c3, h.hi.below hb, h.hv.below hb⟩
theorem rrow_no {w w' : World} {o : Option Ak} (ho : o = none) (hb : Below w.heap.size w w') : RRowTo w o (.returned (.tuple #[.agg #[.int .u8 0, .int .u32 0, .slice none 0 0, .slice none 0 0], .bool false])) w' := .inl ⟨ho, rfl, hb⟩

set_option maxHeartbeats 2000000 in
theorem rrow_any (r : Int) (pw n : Nat) (L : List Ak) (F : Nat → Prop) (w : World) (hM : RefR w F pw n L) (hL : L.length ≤ 1000) (hr : ∀ a ∈ L, okA (a.r, a.i)) : Calls Try.prog 76 #[.pointer (some ⟨pw, 0, none⟩), .int .i64 r] w (RRowTo w (rowL L r)) := by
  obtain ⟨la, lc, h⟩ := hM
  have H := Lib.hid h
  have hlt := heap_lt h.blk
  have q0 := cells_at h.blk
  have Hr := Lib.hid hr
  clear h hr
  go_enter Try.func76, Try.ntmps76
  go_wp2_with fail
  have hba : Below w.heap.size w (w.alloc (.cells #[.int .u8 0, .int .u32 0, .slice none 0 0, .slice none 0 0] 51)) := (Below.refl _ w).alloc (Nat.le_refl _) _
  have Hba := Lib.hid hba
  clear hba
  go_loopw [6] (fun j wr => ∃ k : Nat, k ≤ L.length ∧ j = .int .i64 ((k : Int) - 1) ∧ Hid (∀ b ∈ L.drop k, b.r ≠ r) ∧ Hid (Below w.heap.size w wr) ∧ Hid (wr.heap[w.heap.size]? = some (.cells #[.int .u8 0, .int .u32 0, .slice none 0 0, .slice none 0 0] 51 (0, 0)))) (fun j _ => (intOf j + 1).toNat)
  case atStart => exact ⟨L.length, Nat.le_refl _, rfl, Lib.hid (by simp), Hba, Lib.hid (heap_new w _)⟩
  case round =>
    obtain ⟨k, hk, rfl, hno, Hb, Hx⟩ := hrel
    clear Hba
    have dx := cells_at Hx.out
    have fx := free_at Hx.out
    have q1 := cells_at ((Hb.out.block _ hlt).trans H.out.blk)
    by_cases hk0 : 0 < k
    · obtain ⟨j, rfl⟩ : ∃ j, k = j + 1 := ⟨k - 1, by omega⟩
      rw [show (((j + 1 : Nat) : Int) - 1) = (j : Int) by omega]
      obtain ⟨⟨yr, yi, yl, yv⟩, hy⟩ : ∃ y, L[j]? = some y := ⟨L[j]'(by omega), by simp [show j < L.length by omega]⟩
      obtain ⟨ad, ai, ci, av, cv, had, hc, hl0⟩ := H.out.at hy
      have hok := Hr.out _ (List.mem_of_getElem? hy)
      have hi := hc.hi
      have hv := hc.hv
      have hl1 : ad.block < wr.heap.size := Nat.lt_of_lt_of_le hl0 Hb.out.size
      obtain ⟨c0, c1, c2, c3, _, _⟩ := hc.below Hb.out
      clear hc
      dsimp only at c0 c1 c2 c3 hi hv hok
      obtain ⟨rn, rfl⟩ : ∃ rn : Nat, yr = rn := ⟨yr.toNat, by have := hok.1.1; dsimp only at this; omega⟩
      have hrn : rn ≤ 255 := by have := hok.1.2; dsimp only at this; omega
      subst had
      have Hy := Lib.hid hy
      have Hi := Lib.hid hi
      have Hv := Lib.hid hv
      clear hy hi hv hok
      by_cases he : (rn : Int) = r
      · subst he
        have Hrow := Lib.hid (rowL_some Hy.out rfl hno.out)
        go_wp2_with fail
        refine bodyPost_ret (v := .tuple #[.agg #[.int .u8 rn, .int .u32 yi, .slice ai yl.length ci, .slice av yv.length cv], .bool true]) (by simp [results, Try.results76, go_sem, dx]) rfl (.inr ⟨_, Hrow.out, ai, ci, av, cv, rfl, ?_, ?_, below_box4 Hb.out _ _ _ _⟩)
        · exact Hi.out.below (below_box4 Hb.out _ _ _ _)
        · exact Hv.out.below (below_box4 Hb.out _ _ _ _)
      · have he' : ((rn : Int) == r) = false := by simpa using he
        go_wp2_with fail
        go_roundw
        case rel => exact ⟨j, by omega, by go_num, Lib.hid (by
          intro b hb
          rw [List.drop_eq_getElem_cons (by omega : j < L.length)] at hb
          rcases List.mem_cons.1 hb with rfl | hb
          · have := Hy.out; rw [List.getElem?_eq_getElem (by omega)] at this; rw [Option.some.inj this]; exact he
          · exact hno.out b hb), Hb, Hx⟩
        case measure => simp [intOf]
    · obtain rfl : k = 0 := by omega
      have He := Lib.hid (rowL_none (fun a ha => hno.out a (by simpa using ha)))
      go_wp2_with fail
      exact bodyPost_ret (v := .tuple #[.agg #[.int .u8 0, .int .u32 0, .slice none 0 0, .slice none 0 0], .bool false]) (by simp [results, Try.results76, go_sem, dx]) rfl (rrow_no He.out (below_box4 Hb.out _ _ _ _))
end Go.Proofs.Ytblahapjdgncfaa
