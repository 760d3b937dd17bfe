/- dot.Bytes; the reference's Same; Has; Next. -/
import Derived.Test.YtblahapjdgncfaaDotH
import Derived.Test.YtblahapjdgncfaaCodeA
namespace Go.Proofs.Ytblahapjdgncfaa
open Go.RowKit
set_option linter.unusedVariables false
set_option linter.unusedSimpArgs false

theorem Held.of_chg {w w' : World} {q : Nat} {C : Array Value} {t : TypeId} {fr : Nat × Nat} {F : List Nat} (hq : w.heap[q]? = some (.cells C t fr)) (hc : Chg F w w') (hn : q ∉ F) : Held (fun k => k = q) w w' := by
  refine .inr fun k o hk ho => ?_
  have hk' : k = q := hk
  subst hk'
  have h2 := heap_chg hq hc (by simpa using hn)
  rw [hq] at ho
  have ho' := Option.some.inj ho
  subst ho'
  exact ⟨fun _ _ h => (by cases h), h2⟩

/-- a dot's bytes, a vector's bytes -/
def dotB (d : Dt) : List UInt8 := numB d.1.1.toNat ++ numB d.1.2.toNat ++ numB d.2.toNat
def dotsB (v : List Dt) : List UInt8 := v.flatMap dotB
def vecB (v : List Dt) : List UInt8 := numB v.length ++ dotsB v
theorem dotsB_snoc (v : List Dt) (d : Dt) : dotsB (v ++ [d]) = dotsB v ++ dotB d := by simp [dotsB]

/-- a call returns bytes in memory of its own -/
def BytesTo (w : World) (bs : List UInt8) (e : Ending) (w' : World) : Prop :=
  ∃ a c, e = .returned (.slice a bs.length c) ∧ w'.ownsRow w.heap.size 5 1 (.slice a bs.length c) bs.length (u8s bs) ∧ Below w.heap.size w w'

theorem dotB_len {d : Dt} (h : okD d) : (dotB d).length ≤ 30 := by
  obtain ⟨⟨h1, h2⟩, h3⟩ := h
  have a := numB_len d.1.1.toNat (by omega)
  have b := numB_len d.1.2.toNat (by omega)
  have c := numB_len d.2.toNat (by omega)
  simp only [dotB, List.length_append]; omega
theorem dotsB_len {v : List Dt} (h : okV v) : (dotsB v).length ≤ v.length * 30 := by
  induction v with
  | nil => simp [dotsB]
  | cons d v ih =>
    have h1 := dotB_len (h d (by simp))
    have h2 := ih fun x hx => h x (by simp [hx])
    simp only [dotsB, List.flatMap_cons, List.length_append, List.length_cons] at h2 ⊢; omega
theorem okV_take {v : List Dt} (h : okV v) (k : Nat) : okV (v.take k) := fun d hd => h d (List.mem_of_mem_take hd)

set_option maxHeartbeats 1000000 in
theorem bytes_any (a : Option Addr) (c : Nat) (v : List Dt) (w : World) (hv : Vec w a c v) (hok : okV v) (hn : v.length ≤ 1000000) :
    Calls Try.prog 60 #[.slice a v.length c] w (BytesTo w (vecB (canonV v))) := by
  have hokC := okV_canonV hok
  have hlC := vecOf_length (getN v)
  go_enter Try.func60, Try.ntmps60
  go_wp2_with fail
  refine (canon_any a c v w hv hok hn).mono ?_
  rintro e w1 ⟨a1, c1, rfl, hown1, hB1⟩
  change (canonV v).length ≤ 64 at hlC
  have Hv1 := Lib.hid (vec_of hown1)
  have HokC := Lib.hid hokC
  have HB1 := Lib.hid hB1
  have s1 := hB1.size
  generalize canonV v = u at *
  clear hown1 hB1 hokC hv
  go_wp2_with fail
  refine (num_any none 0 0 w1.heap.size [] u.length w1 (World.ownsRow_nil _ _ _ _) (Nat.le_refl _) (by omega) (by omega)).mono ?_
  rintro e w2 ⟨a2, c2, rfl, hown2, hC2, hob2⟩
  have hb2 : Below w1.heap.size w1 w2 := hC2.below (Nat.le_refl _) (by simp [ob])
  have Hown2 := Lib.hid hown2
  have Hb2 := Lib.hid hb2
  clear hown2 hC2 hob2 hb2
  go_wp2_with fail
  go_loopw [3, 14] (fun b i wr => ∃ (k : Nat) (ba : Option Addr) (bc : Nat), k ≤ u.length ∧ i = .int .i64 k ∧ b = .slice ba (numB u.length ++ dotsB (u.take k)).length bc ∧ wr.ownsRow w1.heap.size 5 1 (.slice ba (numB u.length ++ dotsB (u.take k)).length bc) (numB u.length ++ dotsB (u.take k)).length (u8s (numB u.length ++ dotsB (u.take k))) ∧ Below w1.heap.size w1 wr) (fun _ i _ => u.length - (intOf i).toNat)
  case atStart => exact ⟨0, a2, c2, Nat.zero_le _, rfl, by simp [dotsB], by simpa [dotsB] using Hown2.out, Hb2.out⟩
  case round =>
    obtain ⟨k, ba, bc, hk, rfl, rfl, hown, hb⟩ := hrel
    have Hown := Lib.hid hown
    have Hb := Lib.hid hb
    have hs := hb.size
    have hl0 : (numB u.length ++ dotsB (u.take k)).length ≤ 3000 := by
      have h1 := dotsB_len (okV_take HokC.out k)
      have h2 := numB_len u.length (by omega)
      rw [List.length_append]
      simp at h1
      omega
    clear hown hb Hown2 Hb2
    by_cases hlt : k < u.length
    · obtain ⟨⟨⟨r, i⟩, s⟩, hx⟩ : ∃ x, u[k]? = some x := ⟨u[k], by simp [hlt]⟩
      obtain ⟨ad, had, d0, d1, d2, hlt0⟩ := (Hv1.out.below Hb.out).at hx
      have had' := had
      subst had'
      have hokd := HokC.out _ (List.mem_of_getElem? hx)
      obtain ⟨⟨⟨r1, r2⟩, i1, i2⟩, s1', s2'⟩ := hokd
      have Hx := Lib.hid (take_snoc' hx)
      dsimp only at d0 d1 d2 r1 r2 i1 i2 s1' s2'
      clear hx had
      obtain ⟨rn, rfl⟩ : ∃ rn : Nat, r = (rn : Int) := ⟨r.toNat, by omega⟩
      obtain ⟨iN, rfl⟩ : ∃ iN : Nat, i = (iN : Int) := ⟨i.toNat, by omega⟩
      obtain ⟨sn, rfl⟩ : ∃ sn : Nat, s = (sn : Int) := ⟨s.toNat, by omega⟩
      generalize hX : numB u.length ++ dotsB (u.take k) = X at *
      have HX := Lib.hid hX
      have Hq : Hid ((wr.alloc (.cells #[.int .u8 (rn : Int), .int .u32 (iN : Int), .int .u64 (sn : Int)] 34)).heap[wr.heap.size]? = some (.cells #[.int .u8 (rn : Int), .int .u32 (iN : Int), .int .u64 (sn : Int)] 34 (0, 0))) := Lib.hid (heap_new wr _)
      clear hX
      go_wp2_with fail
      refine region_tree_at (fun k => k = wr.heap.size) (sgOf [([0, 1, 2, 3, 4, 6, 7, 8, 9, 11, 12], false), ([5], true), ([10], true), ([13, 14], false)]) mixed (by kernel_rfl) ?_
      simp only [sgOf, wpSgB, List.map_cons, List.map_nil, List.getD_cons_succ, List.getD_cons_zero]
      go_wp2_with fail
      refine (num_any ba X.length bc w1.heap.size X rn _ ?ho1 ?hb1 (by omega) (by omega)).mono ?_
      case ho1 => exact (Hown.out.alloc _).drew
      case hb1 => simp; omega
      rintro e w3 ⟨a3, c3, rfl, hown3, hC3, hob3⟩
      have hlt3 := owns_lt Hown.out
      have hn3 : wr.heap.size ∉ ob ba := fun h => by have := (hlt3 _ h).2; omega
      have hC3' : Chg (ob ba) (wr.alloc (.cells #[.int .u8 (rn : Int), .int .u32 (iN : Int), .int .u64 (sn : Int)] 34)) w3 := (Chg.drew _ _).trans hC3 (fun _ h _ => h)
      have hq3 := heap_chg Hq.out hC3' hn3
      have h3 := numB_len rn (by omega)
      have hs3 : wr.heap.size + 1 ≤ w3.heap.size := by have := hC3'.size; simpa using this
      have hB3 : Below w1.heap.size w1 w3 := (Hb.out.alloc hs _).trans (hC3'.below (by simp; omega) (fun x hx => (hlt3 x hx).1))
      have hn3' : wr.heap.size ∉ ob a3 := fun h => by
        rcases hob3 _ h with h | h
        · exact hn3 h
        · simp at h; omega
      have Hq3 := Lib.hid hq3
      have HB3 := Lib.hid hB3
      have Hown3 := Lib.hid hown3
      have Hn3 := Lib.hid hn3'
      have hheld := Held.of_chg (F := ob ba) (show (wr.alloc (.cells #[.int .u8 (rn : Int), .int .u32 (iN : Int), .int .u64 (sn : Int)] 34)).drew.heap[wr.heap.size]? = _ from Hq.out) hC3 hn3
      clear hq3 hB3 hown3 hC3 hC3' hob3 hlt3 hn3 hn3'
      go_wp2_with fail
      refine And.intro hheld ?_
      clear hheld
      go_wp2_with fail
      refine (num_any a3 _ c3 w1.heap.size (X ++ numB rn) iN w3 Hown3.out (by omega) (by omega) (by omega)).mono ?_
      rintro e w4 ⟨a4, c4, rfl, hown4, hC4, hob4⟩
      have hlt4 := owns_lt Hown3.out
      have h4 := numB_len iN (by omega)
      have hs4 := hC4.size
      have hheld := Held.of_chg (F := ob a3) Hq3.out hC4 Hn3.out
      have Hown4 := Lib.hid hown4
      have HB4 := Lib.hid (HB3.out.trans (hC4.below (by omega) (fun x hx => (hlt4 x hx).1)))
      clear hown4 hC4 hob4 hlt4
      go_wp2_with fail
      refine And.intro hheld ?_
      clear hheld
      go_wp2_with fail
      refine (num_any a4 _ c4 w1.heap.size (X ++ numB rn ++ numB iN) sn w4 Hown4.out (by omega) (by omega) (by omega)).mono ?_
      rintro e w5 ⟨a5, c5, rfl, hown5, hC5, hob5⟩
      have hlt5 := owns_lt Hown4.out
      have Hown5 := Lib.hid hown5
      have HB5 := Lib.hid (HB4.out.trans (hC5.below (by omega) (fun x hx => (hlt5 x hx).1)))
      clear hown5 hC5 hob5 hlt5
      go_wp2_with fail
      refine And.intro (And.intro (by kernel_rfl) ?rds) ?_
      case rds => simp [reads, readsIn, Act.eval]
      go_wp2_with fail
      go_roundw
      case rel =>
        have e : numB u.length ++ dotsB (u.take (k + 1)) = X ++ numB rn ++ numB iN ++ numB sn := by
          rw [Hx.out, dotsB_snoc, ← HX.out]
          simp [dotB]
        have el : (numB u.length ++ dotsB (u.take (k + 1))).length = X.length + (numB rn).length + (numB iN).length + (numB sn).length := by rw [e]; simp; omega
        exact ⟨k + 1, a5, c5, by omega, by go_num, by rw [el], by rw [el, e]; exact Hown5.out, HB5.out⟩
      case measure => simp [intOf]; omega
    · have e : numB u.length ++ dotsB (u.take k) = vecB u := by rw [List.take_of_length_le (by omega)]; rfl
      have He := Lib.hid e
      clear e
      go_wp2_with fail
      go_ret
      exact ⟨ba, bc, by rw [← He.out]; rfl, by rw [← He.out]; exact owns_base Hown.out s1, HB1.out.trans (Hb.out.mono s1)⟩
end Go.Proofs.Ytblahapjdgncfaa
