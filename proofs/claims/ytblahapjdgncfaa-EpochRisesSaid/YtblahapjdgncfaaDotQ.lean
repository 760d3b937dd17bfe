/- The reference's Join, Meet; dot.Next. -/
import Derived.Test.YtblahapjdgncfaaDotO
namespace Go.Proofs.Ytblahapjdgncfaa
open Go.RowKit
set_option linter.unusedVariables false
set_option linter.unusedSimpArgs false

theorem okV_append {v u : List Dt} (h1 : okV v) (h2 : okV u) : okV (v ++ u) := fun d hd => by
  rcases List.mem_append.1 hd with h | h
  · exact h1 d h
  · exact h2 d h

set_option maxHeartbeats 1000000 in
theorem rjoin_any (a b : Option Addr) (c d : Nat) (v u : List Dt) (w : World) (hv : Vec w a c v) (hu : Vec w b d u) (hok : okV v) (hok2 : okV u) (hn : v.length ≤ 500000) (hm : u.length ≤ 500000) :
    Calls Try.prog 27 #[.slice a v.length c, .slice b u.length d] w (VecTo w (joinV v u)) := by
  obtain ⟨i0, hi0, hz0, hz1, hz2⟩ := info_parts Try.info_dot
  have Hv := Lib.hid hv
  have Hu := Lib.hid hu
  clear hv hu
  go_enter Try.func27, Try.ntmps27
  go_wp2_with (at_builtin; go_must (refine wpList_append_sl rfl _ _ 23 rfl w.heap.size 34 i0 (.agg #[.int .u8 0, .int .u32 0, .int .u64 0]) 3 16 Try.underlying23 hi0 hz0 hz1 hz2 rfl (by decide) (some ⟨w.heap.size, 0, none⟩) 0 0 [] rfl ?o1 a v.length c (dcells v) rfl ?s1 ?t1 ?c1 ?d1 ?e1 ?_))
  case o1 => exact World.ownsRow_made w #[] 0 (Nat.le_refl _) (by decide) rfl
  case s1 => exact Hv.out.below ((Below.refl _ _).alloc (Nat.le_refl _) _)
  case t1 => exact dcells_one _
  case c1 => unfold maxLen; omega
  case d1 => omega
  case e1 => simp
  intro a1 c1 w1 ho1 hC1 hob1
  try simp only [Nat.zero_add, List.nil_append] at ho1
  have hB1 : Below w.heap.size w w1 := ((Below.refl _ _).alloc (Nat.le_refl _) _).trans (hC1.below (by simp) (by simp [ob]))
  have Ho1 := Lib.hid ho1
  have HB1 := Lib.hid hB1
  have hs1 := hB1.size
  clear ho1 hC1 hB1
  go_wp2_with (at_builtin; go_must (refine wpList_append_sl rfl _ _ 23 rfl w.heap.size 34 i0 (.agg #[.int .u8 0, .int .u32 0, .int .u64 0]) 3 16 Try.underlying23 hi0 hz0 hz1 hz2 rfl (by decide) a1 v.length c1 (dcells v) rfl Ho1.out b u.length d (dcells u) rfl ?s2 ?t2 ?c2 ?d2 ?e2 ?_))
  case s2 => exact Hu.out.below HB1.out
  case t2 => exact dcells_one _
  case c2 => unfold maxLen; omega
  case d2 => omega
  case e2 => omega
  intro a2 c2 w2 ho2 hC2 hob2
  have hlt := owns_lt Ho1.out
  have HB2 := Lib.hid (HB1.out.trans (hC2.below hs1 (fun x hx => (hlt x hx).1)))
  have hs2 := HB2.out.size
  have Hv2 : Hid (Vec w2 a2 c2 (v ++ u)) := Lib.hid (by unfold Vec; rw [dcells_append, List.length_append]; exact Sl.of_owns ho2)
  clear ho2 hC2 hlt Ho1 HB1
  obtain ⟨L, hL⟩ : ∃ L, L = v ++ u := ⟨_, rfl⟩
  have hl : v.length + u.length = L.length := by rw [hL]; simp
  have hl' : L.length ≤ 1000000 := by omega
  have hVL : Vec w2 a2 c2 L := by rw [hL]; exact Hv2.out
  have hOL : okV L := by rw [hL]; exact okV_append hok hok2
  have HL := Lib.hid hL
  rw [hl]
  clear hl hL Hv2
  go_wp2_with fail
  refine (rcanon_any a2 c2 L w2 hVL hOL hl').mono ?_
  rintro e w3 hV
  rw [HL.out, canon_append] at hV
  have HV := Lib.hid (VecTo.from hV HB2.out)
  obtain ⟨a3, c3, rfl, _⟩ := hV
  go_wp2_with fail
  go_ret
  exact HV.out

/-- what the reference lays of the first k dots -/
def metK (v u : List Dt) (k : Nat) : List Dt := ((canonV v).take k).map fun d => (d.1, min (getN u d.1) d.2)
theorem metK_succ {v u : List Dt} {k : Nat} {d : Dt} (h : (canonV v)[k]? = some d) : metK v u (k + 1) = metK v u k ++ [(d.1, min (getN u d.1) d.2)] := by
  unfold metK
  rw [take_snoc' h]; simp
theorem metK_length (v u : List Dt) (k : Nat) : (metK v u k).length ≤ k := by unfold metK; rw [List.length_map]; exact List.length_take_le _ _

set_option maxRecDepth 100000 in
set_option maxHeartbeats 2000000 in
theorem rmeet_any (a b : Option Addr) (c d : Nat) (v u : List Dt) (w : World) (hv : Vec w a c v) (hu : Vec w b d u) (hok : okV v) (hok2 : okV u) (hn : v.length ≤ 500000) (hm : u.length ≤ 500000) :
    Calls Try.prog 28 #[.slice a v.length c, .slice b u.length d] w (VecTo w (meetV v u)) := by
  obtain ⟨i0, hi0, hz0, hz1, hz2⟩ := info_parts Try.info_dot
  have Hu := Lib.hid hu
  clear hu
  go_enter Try.func28, Try.ntmps28
  go_wp2_with fail
  refine (rcanon_any a c v w hv hok (by omega)).mono ?_
  rintro e w1 ⟨a1, c1, rfl, hown1, hB1⟩
  have Hv1 := Lib.hid (vec_of hown1)
  have HB1 := Lib.hid hB1
  have hs1 := hB1.size
  have hlC : (canonV v).length ≤ 64 := vecOf_length _
  clear hown1 hB1 hv
  go_wp2_with fail
  go_loopw [5, 7] (fun s5 s7 wr => ∃ (k : Nat) (oa : Option Addr) (oc : Nat), k ≤ (canonV v).length ∧ s7 = .int .i64 k ∧ s5 = .slice oa (metK v u k).length oc ∧ wr.ownsRow w1.heap.size 34 3 (.slice oa (metK v u k).length oc) (metK v u k).length (dcells (metK v u k)) ∧ Below w1.heap.size w1 wr) (fun _ s7 _ => (canonV v).length - (intOf s7).toNat)
  case atStart => exact ⟨0, none, 0, Nat.zero_le _, rfl, rfl, World.ownsRow_nil _ _ _ _, Below.refl _ _⟩
  case round =>
    obtain ⟨k, oa, oc, hk, rfl, rfl, hown, hb⟩ := hrel
    have Hown := Lib.hid hown
    have Hb := Lib.hid hb
    have hs := hb.size
    have hml := metK_length v u k
    clear hown hb
    by_cases hlt : k < (canonV v).length
    · obtain ⟨⟨⟨r, i⟩, s⟩, hx⟩ : ∃ x, (canonV v)[k]? = some x := ⟨(canonV v)[k], by simp [hlt]⟩
      obtain ⟨ad, had, c0, c1, c2, hl0⟩ := (Hv1.out.below Hb.out).at hx
      have had' := had
      subst had'
      have Hx := Lib.hid hx
      have Hsucc := Lib.hid (metK_succ (u := u) hx)
      dsimp only at c0 c1 c2
      clear hx had
      go_wp2_with fail
      refine (rget_any b d u r i _ ((Hu.out.below HB1.out).below Hb.out) (by omega)).mono ?_
      rintro e w2 ⟨rfl, hb2⟩
      have Hown2 := Lib.hid (owns_chg Hown.out (Chg.of_below (F := []) hb2) (by simp))
      have Hb2 := Lib.hid (Hb.out.trans (hb2.mono hs))
      have hs2 := Hb2.out.size
      obtain ⟨ad', had2, c0, c1, c2, hl0⟩ := (Hv1.out.below Hb2.out).at Hx.out
      obtain rfl : ad = ad' := by simpa using had2
      dsimp only at c0 c1 c2
      clear hb2 had2 Hown Hb
      have key : ∀ x : Int, x = min (getN u (r, i)) s → Hid (metK v u (k + 1) = metK v u k ++ [((r, i), x)]) := fun x hx => by rw [hx]; exact Hsucc
      by_cases hgt : s < getN u (r, i)
      · have Hk := key s (by omega)
        clear key Hsucc
        go_wp2_with (at_builtin; go_must (refine wpList_append_sl rfl _ _ 23 rfl w1.heap.size 34 i0 (.agg #[.int .u8 0, .int .u32 0, .int .u64 0]) 3 16 Try.underlying23 hi0 hz0 hz1 hz2 rfl (by decide) oa (metK v u k).length oc (dcells (metK v u k)) rfl (Hown2.out.alloc _) (some ⟨w2.heap.size, 0, none⟩) 1 1 (dcell ((r, i), s)) rfl (Sl.blk (C := #[.int .u8 r, .int .u32 i, .int .u64 s]) (heap_new w2 _) rfl (by decide)) ?t1 ?c1 ?d1 ?e1 ?_))
        case t1 => exact dcells_one [((r, i), s)]
        case c1 => unfold maxLen; omega
        case d1 => omega
        case e1 => simp; omega
        intro a3 c3 w3 ho3 hC3 hob3
        have hlt3 := owns_lt Hown2.out
        have Ho3 : Hid (w3.ownsRow w1.heap.size 34 3 (.slice a3 (metK v u (k + 1)).length c3) (metK v u (k + 1)).length (dcells (metK v u (k + 1)))) := by
          rw [Hk.out, dcells_snoc]; exact Lib.hid (by simpa using ho3)
        have HB3 := Lib.hid ((Hb2.out.alloc hs2 _).trans (hC3.below (by simp; omega) (fun x hx => (hlt3 x hx).1)))
        clear ho3 hC3 hlt3
        go_wp2_with fail
        go_roundw
        case rel => exact ⟨k + 1, a3, c3, by omega, by go_num, by rw [Hk.out]; simp, Ho3.out, HB3.out⟩
        case measure => simp [intOf]; omega
      · have Hk := key (getN u (r, i)) (by omega)
        have hgt' : getN u (r, i) ≤ s := by omega
        clear key Hsucc
        go_wp2_with (at_builtin; go_must (refine wpList_append_sl rfl _ _ 23 rfl w1.heap.size 34 i0 (.agg #[.int .u8 0, .int .u32 0, .int .u64 0]) 3 16 Try.underlying23 hi0 hz0 hz1 hz2 rfl (by decide) oa (metK v u k).length oc (dcells (metK v u k)) rfl (Hown2.out.alloc _) (some ⟨w2.heap.size, 0, none⟩) 1 1 (dcell ((r, i), getN u (r, i))) rfl ?s1 ?t1 ?c1 ?d1 ?e1 ?_))
        case s1 => exact Sl.blk (C := #[.int .u8 r, .int .u32 i, .int .u64 (getN u (r, i))]) (heap_new w2 _) rfl (by decide)
        case t1 => exact dcells_one [((r, i), getN u (r, i))]
        case c1 => unfold maxLen; omega
        case d1 => omega
        case e1 => simp; omega
        intro a3 c3 w3 ho3 hC3 hob3
        have hlt3 := owns_lt Hown2.out
        have Ho3 : Hid (w3.ownsRow w1.heap.size 34 3 (.slice a3 (metK v u (k + 1)).length c3) (metK v u (k + 1)).length (dcells (metK v u (k + 1)))) := by
          rw [Hk.out, dcells_snoc]; exact Lib.hid (by simpa using ho3)
        have HB3 := Lib.hid ((Hb2.out.alloc hs2 _).trans (hC3.below (by simp; omega) (fun x hx => (hlt3 x hx).1)))
        clear ho3 hC3 hlt3
        go_wp2_with fail
        go_roundw
        case rel => exact ⟨k + 1, a3, c3, by omega, by go_num, by rw [Hk.out]; simp, Ho3.out, HB3.out⟩
        case measure => simp [intOf]; omega
    · have e : metK v u k = metV v u := by unfold metK metV; rw [List.take_of_length_le (by omega)]
      have hlm : (metV v u).length ≤ 64 := by rw [← e]; omega
      rw [e]
      have Hv5 : Hid (Vec wr oa oc (metV v u)) := by have := vec_of Hown.out; rw [e] at this; exact Lib.hid this
      clear e Hown hml
      have Hok5 := Lib.hid (okV_metV (b := u) hok)
      have Hcm := Lib.hid (canon_metV (b := u) hok)
      generalize metV v u = M at *
      go_wp2_with fail
      refine (rcanon_any oa oc M _ Hv5.out Hok5.out (by omega)).mono ?_
      rintro e w3 hV
      rw [Hcm.out] at hV
      have HV := Lib.hid (VecTo.from hV (HB1.out.trans (Hb.out.mono hs1)))
      obtain ⟨a3, c3, rfl, _⟩ := hV
      go_wp2_with fail
      go_ret
      exact HV.out
end Go.Proofs.Ytblahapjdgncfaa
