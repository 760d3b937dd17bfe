/- The reference's All. -/
import Derived.Test.YtkgbdgnfidpelaaRefD
namespace Go.Proofs.Ytkgbdgnfidpelaa
open Go.RowKit
set_option linter.unusedVariables false
set_option linter.unusedSimpArgs false

structure RAllAt (w0 wr : World) (N : List Ml) (oa : Option Addr) (oc : Nat) : Prop where
  row : wr.ownsRow w0.heap.size 30 2 (.slice oa N.length oc) N.length (acells N)
  bytes : ∀ x ∈ N, Sl wr 1 x.2.1 x.1.b.length x.2.2 (u8s x.1.b)
  apart : ∀ x ∈ N, ∀ b ∈ ob x.2.1, b ∉ ob oa ∧ b < wr.heap.size
  bel : Below w0.heap.size w0 wr
def RAllRel (w : World) (L : List Lt) (k : Nat) (out : Value) (wr : World) : Prop :=
  ∃ N oa oc, out = .slice oa k oc ∧ N.length = k ∧ N.map (·.1) = L.take k ∧ RAllAt w wr N oa oc
/-- what All gives -/
def RAllTo (w : World) (L : List Lt) (e : Ending) (w' : World) : Prop := ∃ N oa oc, e = .returned (.slice oa L.length oc) ∧ N.map (·.1) = L ∧ Ls w' N oa oc ∧ Below w.heap.size w w'

/-- one more letter -/
theorem rall_step {w wr w1 w2 : World} {L : List Lt} {k : Nat} {N : List Ml} {oa : Option Addr} {oc : Nat} {x : Lt} {c a2c : Nat} {a2 : Option Addr} {o2 : Obj} {p : Nat}
    (hN : N.length = k) (hNm : N.map (·.1) = L.take k) (hA : RAllAt w wr N oa oc) (hx : L[k]? = some x)
    (hp : p = wr.heap.size) (hb1 : Below wr.heap.size wr w1) (hz1 : w1.heap.size = wr.heap.size + 1) (hs1 : Sl w1 1 (some ⟨p, 0, none⟩) x.b.length c (u8s x.b))
    (ho2 : w2.ownsRow w.heap.size 30 2 (.slice a2 (k + 1) a2c) (k + 1) (acells N ++ [.int .u8 x.t, .slice (some ⟨p, 0, none⟩) x.b.length c])) (hc2 : Chg (ob oa) (w1.alloc o2) w2) (hl2 : ∀ b ∈ ob a2, b ∈ ob oa ∨ w1.heap.size + 1 ≤ b) :
    RAllRel w L (k + 1) (.slice a2 (k + 1) a2c) w2 := by
  have hoa := owns_lt hA.row
  have c1 : Chg (ob oa) w1 w2 := (Chg.alloc (ob oa) w1 o2).trans hc2 (fun x hx _ => hx)
  have hsz := hA.bel.size
  have hs2 := hc2.size
  simp at hs2
  refine ⟨N ++ [(x, some ⟨p, 0, none⟩, c)], a2, a2c, rfl, by simp [hN], ?_, ⟨?_, ?_, ?_, ?_⟩⟩
  · rw [List.map_append, hNm, List.take_add_one, hx]; simp
  · rw [show (N ++ [(x, (some ⟨p, 0, none⟩ : Option Addr), c)]).length = k + 1 by simp [hN], acells_snoc]; exact ho2
  · intro y hy
    rw [List.mem_append, List.mem_singleton] at hy
    rcases hy with hy | rfl
    · exact ((hA.bytes y hy).below hb1).chg c1 (fun b hb => (hA.apart y hy b hb).1)
    · refine hs1.chg c1 (fun b hb ho => ?_)
      have := (hoa b ho).2
      simp [ob] at hb; omega
  · intro y hy b hb
    rw [List.mem_append, List.mem_singleton] at hy
    rcases hy with hy | rfl
    · obtain ⟨h1, h2⟩ := hA.apart y hy b hb
      refine ⟨fun h => ?_, by omega⟩
      rcases hl2 b h with h | h
      · exact h1 h
      · omega
    · simp [ob] at hb
      refine ⟨fun h => ?_, by omega⟩
      rcases hl2 b h with h | h
      · have := (hoa b h).2; omega
      · omega
  · exact (hA.bel.trans (hb1.mono hsz)).trans (c1.below (by omega) fun b hb => (hoa b hb).1)

set_option maxHeartbeats 2000000 in
set_option maxRecDepth 100000 in
theorem all_ref (pr : Nat) (L : List Lt) (F : List Nat) (w : World) (h : RefR w pr L F) (hm : L.length ≤ 1000000) (hl : ∀ l ∈ L, l.b.length ≤ 1000000) :
    Calls Try.prog 21 #[.pointer (some ⟨pr, 0, none⟩)] w (RAllTo w L) := by
  obtain ⟨i0, hi0, hz0, hz1, hz2⟩ := info_parts Try.info_api_letter
  have hlt := h.lt
  obtain ⟨ta, tc, ba, bc, wa, kc, hR, rfl⟩ := h
  have HR := Lib.hid hR
  have lpr : pr < w.heap.size := hlt _ (by simp)
  have Hl := Lib.hid hl
  have Hlt := Lib.hid hlt
  clear hR hl hlt
  go_enter Try.func21, Try.ntmps21
  go_wp2_with fail
  go_loopw [3, 4] (fun out s wr => ∃ k : Nat, k ≤ L.length ∧ s = .int .i64 k ∧ RAllRel w L k out wr) (fun _ s _ => L.length - (intOf s).toNat)
  case atStart => exact ⟨0, Nat.zero_le _, rfl, [], none, 0, rfl, rfl, by simp, World.ownsRow_nil _ _ _ _, by simp, by simp, Below.refl _ _⟩
  case round =>
    obtain ⟨k, hk, rfl, N, oa, oc, rfl, hN, hNm, hA⟩ := hrel
    have hAt := HR.out.chg (Chg.of_below (F := []) hA.bel) (by simp)
    have cc := cells_at hAt.blk
    have hsz := hA.bel.size
    have lpr' : pr < wr.heap.size := by omega
    by_cases hlt : k < L.length
    · have hlt' : (k : Int) < (L.length : Int) := by omega
      have hx : ∃ x, L[k]? = some x := ⟨L[k], by simp [hlt]⟩
      obtain ⟨⟨t8, bs, ch⟩, hx⟩ := hx
      obtain ⟨g1, rfl, t1, _, _⟩ := own_at (i := k) (u := .int .u8 t8) hAt.t (by simp only [tcells, List.getElem?_map, hx, Option.map_some])
      obtain ⟨g2, rfl, t2, _, _⟩ := own_at (i := k) (u := .string (strOf bs)) hAt.b (by simp only [bcells, List.getElem?_map, hx, Option.map_some])
      have l1 : g1 < wr.heap.size := by have := Hlt.out g1 (by simp [ob]); omega
      have l2 : g2 < wr.heap.size := by have := Hlt.out g2 (by simp [ob]); omega
      have hbl := Hl.out _ (List.mem_of_getElem? hx)
      dsimp only at hbl
      have hbs : (strOf bs).size ≤ maxLen := by rw [strOf_size]; unfold maxLen; omega
      have Hx := Lib.hid hx
      have HN := Lib.hid hN
      have HNm := Lib.hid hNm
      have HA := Lib.hid hA
      clear hx hN hNm hA hAt
      go_wp2_with fail
      refine region_text [([0, 1, 2, 3, 4, 5, 6, 7, 8, 9, 10, 11, 12, 13, 14], false), ([15], true), ([16, 17, 18, 19], false)] mixed (by kernel_rfl) ?_
      simp only [wpSegs, List.map_cons, List.map_nil, List.getD_cons_succ, List.getD_cons_zero]
      go_wp2_with (refine wpList_string_bytes rfl 9 24 5 _ rfl (strOf bs) Try.underlying9 Try.underlying24 Try.underlying5 rfl hbs ?_)
      intro c w1 hs1 hb1 hzz1
      rw [strOf_size, show (strOf bs).data.toList = bs by simp [strOf]] at hs1
      rw [strOf_size]
      have Hs := Lib.hid hs1
      have Hb := Lib.hid hb1
      have Hown : Hid (w1.ownsRow w.heap.size 30 2 (.slice oa k oc) k (acells N)) := by
        have := HN.out
        subst this
        exact Lib.hid (owns_chg HA.out.row ((Chg.drew [] wr).trans (Chg.of_below (F := []) hb1) (by simp)) (by simp))
      clear hs1 hb1 cc t1 t2
      go_wp2_with fail
      refine And.intro (Agree.of_below' Hb.out (by simp)) ?_
      go_wp2_with (at_builtin; go_must (refine wpList_append_sl rfl _ _ 22 rfl w.heap.size 30 i0 (.agg #[.int .u8 0, .slice none 0 0]) 2 32 Try.underlying22 hi0 hz0 hz1 hz2 rfl (by decide) oa k oc (acells N) rfl (Hown.out.alloc _) (some ⟨w1.heap.size, 0, none⟩) 1 1 [.int .u8 t8, .slice (some ⟨wr.heap.size, 0, none⟩) bs.length c] ?c2 (Sl.of_block (C := #[.int .u8 t8, .slice (some ⟨wr.heap.size, 0, none⟩) bs.length c]) (heap_new w1 _) rfl (by decide)) (by simp [Value.oneCell']) ?c3 ?c4 ?c5 ?_))
      case c2 => rw [hzz1]; rfl
      case c3 => unfold maxLen; omega
      case c4 => omega
      case c5 => simp; omega
      intro a2 a2c w2 ho2 hc2 hl2
      have HRel := Lib.hid (rall_step (x := ⟨t8, bs, ch⟩) HN.out HNm.out HA.out Hx.out rfl ((Below.refl _ _).drew.trans Hb.out) hzz1 Hs.out ho2 hc2 (by rw [hzz1]; exact hl2))
      clear ho2 hc2 hl2
      go_wp2_with fail
      refine And.intro (by kernel_rfl) ?_
      go_wp2_with fail
      go_roundw
      case rel => exact ⟨k + 1, by omega, by simp, HRel.out⟩
      case measure => simp [intOf]; omega
    · obtain rfl : k = L.length := by omega
      have HA := Lib.hid hA
      have HN := Lib.hid hN
      have HNm := Lib.hid hNm
      clear hA hN hNm hAt
      go_wp2_with fail
      go_ret
      refine ⟨N, oa, oc, rfl, by rw [HNm.out, List.take_length], ⟨?_, HA.out.bytes, ?_⟩, HA.out.bel⟩
      · exact Sl.of_owns HA.out.row
      · exact own_adr HA.out.row
end Go.Proofs.Ytkgbdgnfidpelaa
