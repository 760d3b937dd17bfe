/- Acknowledgements as arguments; great, ack of law 17. -/
import Derived.Test.YtblahapjdgncfaaMatF
import Derived.Test.YtblahapjdgncfaaDotOpen
namespace Go.Proofs.Ytblahapjdgncfaa
open Go.RowKit
set_option linter.unusedVariables false
set_option linter.unusedSimpArgs false

theorem okR_new (n : Nat) : okR n newR := fun k a h => by cases h
theorem okR_next {n : Nat} {R : Mx} {a : Ak} (hR : okR n R) (ha : okAk a) : okR n (nextM n R a) := by
  unfold nextM
  split
  · rename_i h
    simp only [takesM, Bool.and_eq_true] at h
    have hm := h.1
    simp only [mayK, Bool.and_eq_true, decide_eq_true_eq] at hm
    intro k x hx
    unfold putM at hx
    by_cases e : k = a.r.toNat
    · rw [if_pos e] at hx
      cases hx
      have h0 := ha.1.1.1
      dsimp only at h0
      refine ⟨?_, ?_, hm.1.1.1, okV_canonV ha.2.2, hm.1.2, ?_⟩
      · have := hm.1.1.2; omega
      · show a.r = k; omega
      · exact vecOf_congr fun x _ => getN_canonV ha.2.2 x
    · rw [if_neg e] at hx; exact hR k x hx
  · exact hR

def AckRd (w : World) (cs : List Value) (a : Ak) : Prop := ∃ ai ci av cv, cs = [.int .u8 a.r, .int .u32 a.i, .slice ai a.incs.length ci, .slice av a.vv.length cv] ∧ U32 w ai ci a.incs ∧ Vec w av cv a.vv ∧ okAk a
/-- a slice of acknowledgements -/
def Acks (w : World) (a : Option Addr) (c : Nat) (ys : List Ak) : Prop := RdL w 4 (AckRd w) a ys.length c ys
structure AckAt (w : World) (b : Addr) (y : Ak) (ai : Option Addr) (ci : Nat) (av : Option Addr) (cv : Nat) : Prop where
  c0 : w.cell? b = some (.int .u8 y.r)
  c1 : w.cell? ⟨b.block, b.off + 1, none⟩ = some (.int .u32 y.i)
  c2 : w.cell? ⟨b.block, b.off + 2, none⟩ = some (.slice ai y.incs.length ci)
  c3 : w.cell? ⟨b.block, b.off + 3, none⟩ = some (.slice av y.vv.length cv)
  hi : U32 w ai ci y.incs
  hv : Vec w av cv y.vv
  ok : okAk y
theorem Acks.at {w : World} {a : Option Addr} {c : Nat} {ys : List Ak} (h : Acks w a c ys) {k : Nat} {y : Ak} (hy : ys[k]? = some y) : ∃ ad ai ci av cv, a = some ad ∧ AckAt w (ad.add (k * 4)) y ai ci av cv ∧ ad.block < w.heap.size := by
  obtain ⟨_, _, _, _, h5⟩ := h
  obtain ⟨ad, cs, rfl, hl, hc, ai, ci, av, cv, rfl, hi, hv, ok⟩ := h5 k y hy
  have g0 := hc 0 (by omega)
  have g1 := hc 1 (by omega)
  have g2 := hc 2 (by omega)
  have g3 := hc 3 (by omega)
  rw [Nat.add_zero] at g0
  rw [← Go.Deep.add_add] at g1 g2 g3
  refine ⟨ad, ai, ci, av, cv, rfl, ⟨g0, g1, g2, g3, hi, hv, ok⟩, ?_⟩
  have := World.block_lt_of_cell? w _ g0
  have hb : (ad.add (k * 4)).block = ad.block := by unfold Addr.add; split <;> rfl
  rwa [hb] at this
theorem Acks.below {w w' : World} {a : Option Addr} {c : Nat} {ys : List Ak} (h : Acks w a c ys) (hb : Below w.heap.size w w') : Acks w' a c ys := by
  obtain ⟨h1, h2, h3, h4, h5⟩ := h
  refine ⟨h1, h2, h3, h4, fun i y hy => ?_⟩
  obtain ⟨ad, cs, h6, h7, h8, ai, ci, av, cv, rfl, hi, hv, ok⟩ := h5 i y hy
  refine ⟨ad, _, h6, h7, fun j hj => ?_, ai, ci, av, cv, rfl, hi.below hb, hv.below hb, ok⟩
  have := h8 j hj
  rw [← this]
  refine hb.cell ?_
  have hj4 : ([Value.int .u8 y.r, .int .u32 y.i, .slice ai y.incs.length ci, .slice av y.vv.length cv])[j]? = some (([Value.int .u8 y.r, .int .u32 y.i, .slice ai y.incs.length ci, .slice av y.vv.length cv])[j]'(by simpa using hj)) := by simp [hj]
  exact World.block_lt_of_cell? w _ (this.trans hj4)
theorem Acks.len {w : World} {a : Option Addr} {c : Nat} {ys : List Ak} (h : Acks w a c ys) : ys.length ≤ maxLen := Nat.le_trans h.2.1 h.2.2.1

def greatK (y : Ak) : Bool := decide (40 < y.vv.length) || decide (20 < y.incs.length)
def greatL (ys : List Ak) : Bool := ys.any greatK || decide (60 < ys.length)
set_option maxHeartbeats 1000000 in
theorem great17_any (a : Option Addr) (c : Nat) (ys : List Ak) (w : World) (hv : Acks w a c ys) :
    Calls Try.prog 31 #[.slice a ys.length c] w fun e w' => e = .returned (.bool (greatL ys)) ∧ Below w.heap.size w w' := by
  have hml := hv.len
  have Hv := Lib.hid hv
  clear hv
  unfold maxLen at hml
  go_enter Try.func31, Try.ntmps31
  go_wp2_with fail
  go_loopw [6] (fun j wr => ∃ k : Nat, k ≤ ys.length ∧ j = .int .i64 k ∧ Hid (∀ y ∈ ys.take k, greatK y = false) ∧ Below w.heap.size w wr) (fun j _ => ys.length - (intOf j).toNat)
  case atStart => exact ⟨0, Nat.zero_le _, rfl, Lib.hid (by simp), Below.refl _ _⟩
  case round =>
    obtain ⟨k, hk, rfl, hle, hb⟩ := hrel
    have Hb := Lib.hid hb
    clear hb
    by_cases hlt : k < ys.length
    · obtain ⟨y, hy⟩ : ∃ y, ys[k]? = some y := ⟨ys[k], by simp [hlt]⟩
      obtain ⟨ad, ai, ci, av, cv, had, hat, hl0⟩ := (Hv.out.below Hb.out).at hy
      subst had
      have c2 := hat.c2
      have c3 := hat.c3
      have Hy := Lib.hid hy
      clear hy hat
      by_cases h40 : 40 < y.vv.length
      · have He := Lib.hid (show greatL ys = true by simp only [greatL, Bool.or_eq_true, List.any_eq_true]; exact .inl ⟨y, List.mem_of_getElem? Hy.out, by simp [greatK, h40]⟩)
        go_wp2_with fail
        go_ret
        exact ⟨by rw [He.out]; rfl, Hb.out⟩
      · have h40' : decide ((40 : Int) < y.vv.length) = false := by simp; omega
        by_cases h20 : 20 < y.incs.length
        · have He := Lib.hid (show greatL ys = true by simp only [greatL, Bool.or_eq_true, List.any_eq_true]; exact .inl ⟨y, List.mem_of_getElem? Hy.out, by simp [greatK, h20]⟩)
          go_wp2_with fail
          go_ret
          exact ⟨by rw [He.out]; rfl, Hb.out⟩
        · have h20' : decide ((20 : Int) < y.incs.length) = false := by simp; omega
          have Hg := Lib.hid (show greatK y = false by simp [greatK]; omega)
          go_wp2_with fail
          go_roundw
          case rel => exact ⟨k + 1, by omega, by go_num, Lib.hid (all_snoc Hy.out hle.out Hg.out), Hb.out⟩
          case measure => simp [intOf]; omega
    · have He := Lib.hid (show greatL ys = decide ((60 : Int) < ys.length) by
        have : ys.any greatK = false := by
          rw [List.any_eq_false]; intro y hy; rw [hle.out y (by rwa [List.take_of_length_le (by omega)])]; simp
        rw [greatL, this, Bool.false_or]
        by_cases h : 60 < ys.length
        · rw [decide_eq_true h, decide_eq_true (by omega)]
        · rw [decide_eq_false h, decide_eq_false (by omega)])
      go_wp2_with fail
      go_ret
      exact ⟨by rw [He.out]; rfl, Hb.out⟩

def one (r n : Int) : List Dt := if 0 < n then [((r, 1), n)] else []
def ackV (a b : Int) : Nat → List Dt
  | 0 => []
  | 1 => one 0 a
  | _ => one 0 a ++ one 1 b
end Go.Proofs.Ytblahapjdgncfaa
