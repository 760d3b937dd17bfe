/- code.Num. -/
import Derived.Test.YtblahapjdgncfaaMemD
import Derived.Laws.BitsAll
namespace Go.Proofs.Ytblahapjdgncfaa
open Go.RowKit
set_option linter.unusedVariables false
set_option linter.unusedSimpArgs false

theorem Try.info_u8 : (Try.prog.info? 5).map (fun i => (i.zero, i.size, i.bytes)) = some (some (.int .u8 0), 1, 1) := by kernel_rfl

/-- a number's bytes -/
def numB (n : Nat) : List UInt8 := if n ≤ 127 then [UInt8.ofNat n] else UInt8.ofNat (n % 128 + 128) :: numB (n / 128)
termination_by n
decreasing_by omega
theorem numB_small {n : Nat} (h : n ≤ 127) : numB n = [UInt8.ofNat n] := by rw [numB, if_pos h]
theorem numB_big {n : Nat} (h : ¬ n ≤ 127) : numB n = UInt8.ofNat (n % 128 + 128) :: numB (n / 128) := by rw [numB, if_neg h]
theorem numB_len (n : Nat) (h : n < 18446744073709551616) : (numB n).length ≤ 10 := by
  have key : ∀ k n, n < 128 ^ k → (numB n).length ≤ max k 1 := by
    intro k
    induction k with
    | zero => intro n h; rw [numB_small (by simp at h; omega)]; simp
    | succ k ih =>
      intro n h
      by_cases hs : n ≤ 127
      · rw [numB_small hs]; simp
      · rw [numB_big hs]
        have := ih (n / 128) (by rw [Nat.pow_succ] at h; omega)
        have hk : 1 ≤ k := by
          rcases Nat.eq_zero_or_pos k with rfl | h'
          · simp at h; omega
          · exact h'
        simp only [List.length_cons]; omega
  exact key 10 n (by omega)

theorem or128_fin : ∀ x : Fin 256, bits BinOp.or IntKind.u8 ((x.val : Nat) : Int) 128 = ((x.val % 128 + 128 : Nat) : Int) := by decide +kernel
theorem or128 (n : Nat) : bits BinOp.or IntKind.u8 ((n : Int) % 256) 128 = ((n % 128 + 128 : Nat) : Int) := by
  have h := or128_fin ⟨n % 256, Nat.mod_lt _ (by decide)⟩
  have e : ((n % 256 : Nat) : Int) = (n : Int) % 256 := by omega
  dsimp only at h
  rw [e] at h
  rw [h]
  congr 1
  omega
theorem u8_ofNat {n : Nat} (h : n < 256) : ((UInt8.ofNat n).toNat : Int) = (n : Int) := by rw [UInt8.toNat_ofNat']; omega
theorem one_u8 (w : World) (t : TypeId) {n : Nat} (h : n < 256) : Sl (w.alloc (.cells #[.int .u8 (n : Int)] t)) 1 (some ⟨w.heap.size, 0, none⟩) 1 1 (u8s [UInt8.ofNat n]) := by
  have e : u8s [UInt8.ofNat n] = [.int .u8 (n : Int)] := by simp only [u8s, List.map_cons, List.map_nil, u8_ofNat h]
  rw [e]
  exact Sl.blk (C := #[.int .u8 (n : Int)]) (heap_new w _) rfl (by decide)
theorem u8s_snoc (bs : List UInt8) (x : UInt8) : u8s (bs ++ [x]) = u8s bs ++ u8s [x] := by simp [u8s]

set_option maxHeartbeats 1000000 in
theorem num_any (a : Option Addr) (m c base : Nat) (bs : List UInt8) (n : Nat) (w : World) (h : w.ownsRow base 5 1 (.slice a m c) m (u8s bs)) (hb : base ≤ w.heap.size) (hm : m ≤ 1000000000) (hn : n < 18446744073709551616) :
    Calls Try.prog 80 #[.slice a m c, .int .u64 n] w fun e w' => ∃ a' c', e = .returned (.slice a' (m + (numB n).length) c') ∧ w'.ownsRow base 5 1 (.slice a' (m + (numB n).length) c') (m + (numB n).length) (u8s (bs ++ numB n)) ∧ Chg (ob a) w w' ∧ (∀ k ∈ ob a', k ∈ ob a ∨ w.heap.size ≤ k) := by
  obtain ⟨i0, hi0, hz0, hz1, hz2⟩ := info_parts Try.info_u8
  have H := Lib.hid h
  clear h
  go_enter Try.func80, Try.ntmps80
  go_wp2_with fail
  go_loopw [0, 1] (fun b k wr => ∃ (a1 : Option Addr) (c1 : Nat) (bs1 : List UInt8) (n1 : Nat), b = .slice a1 bs1.length c1 ∧ k = .int .u64 n1 ∧ n1 ≤ n ∧ Hid (bs1 ++ numB n1 = bs ++ numB n) ∧ bs1.length ≤ m + 10 ∧ wr.ownsRow base 5 1 (.slice a1 bs1.length c1) bs1.length (u8s bs1) ∧ Chg (ob a) w wr ∧ (∀ k ∈ ob a1, k ∈ ob a ∨ w.heap.size ≤ k)) (fun _ k _ => (intOf k).toNat)
  case atStart =>
    have hl : bs.length = m := by have := H.out.1; rw [u8s_length] at this; omega
    subst hl
    exact ⟨a, c, bs, n, rfl, rfl, Nat.le_refl _, Lib.hid rfl, by omega, H.out, Chg.refl _ _, fun k hk => .inl hk⟩
  case round =>
    obtain ⟨a1, c1, bs1, n1, rfl, rfl, hle, heq, hl1, hown, hC, hob⟩ := hrel
    have Hown := Lib.hid hown
    have HC := Lib.hid hC
    have Hob := Lib.hid hob
    have hs := hC.size
    clear hown hC hob
    by_cases hbig : n1 ≤ 127
    · have hbig' : ¬ (127 : Int) < (n1 : Int) := by omega
      go_wp2_with (at_builtin; go_must (refine wpList_append_sl rfl _ _ 82 rfl base 5 i0 (.int .u8 0) 1 1 Try.underlying82 hi0 hz0 hz1 hz2 rfl (by decide) a1 bs1.length c1 (u8s bs1) rfl (Hown.out.alloc _) (some ⟨wr.heap.size, 0, none⟩) 1 1 (u8s [UInt8.ofNat n1]) rfl ?c1 ?c2 ?c3 ?c4 ?c5 ?_))
      case c1 => exact one_u8 wr _ (by omega)
      case c2 => exact u8s_one _
      case c3 => unfold maxLen; omega
      case c4 => omega
      case c5 => omega
      intro a' c' w' hown' hC' hob'
      have hfin : bs1 ++ [UInt8.ofNat n1] = bs ++ numB n := by have := heq.out; rwa [numB_small hbig] at this
      have hlen : bs1.length + 1 = m + (numB n).length := by
        have h1 := congrArg List.length hfin
        have h2 := H.out.1
        rw [u8s_length] at h2
        simp at h1; omega
      have Hfin := Lib.hid hfin
      have Hlen := Lib.hid hlen
      have Hown' := Lib.hid hown'
      have HC' : Hid (Chg (ob a) w w') := Lib.hid ((HC.out.trans (Chg.alloc (ob a) wr _) (fun _ h _ => h)).trans hC' (fun x hx hl => by rcases Hob.out x hx with h | h; exact h; omega))
      have Hob' : Hid (∀ k ∈ ob a', k ∈ ob a ∨ w.heap.size ≤ k) := Lib.hid fun k hk => by
        rcases hob' k hk with h | h
        · exact Hob.out k h
        · right; omega
      clear hfin hlen hown' hC' hob' HC Hob
      go_wp2_with fail
      go_ret
      exact ⟨a', c', by rw [← Hlen.out]; rfl, by have := Hown'.out; rw [← u8s_snoc, Hfin.out] at this; rw [← Hlen.out]; exact this, HC'.out, Hob'.out⟩
    · have hbig' : (127 : Int) < (n1 : Int) := by omega
      go_wp2_with (at_builtin; go_must (refine wpList_append_sl rfl _ _ 82 rfl base 5 i0 (.int .u8 0) 1 1 Try.underlying82 hi0 hz0 hz1 hz2 rfl (by decide) a1 bs1.length c1 (u8s bs1) rfl (Hown.out.alloc _) (some ⟨wr.heap.size, 0, none⟩) 1 1 (u8s [UInt8.ofNat (n1 % 128 + 128)]) rfl ?d1 ?d2 ?d3 ?d4 ?d5 ?_))
      case d1 =>
        rw [or128]
        exact one_u8 wr _ (by omega)
      case d2 => exact u8s_one _
      case d3 => unfold maxLen; omega
      case d4 => omega
      case d5 => rw [World.size_alloc]; omega
      intro a' c' w' hown' hC' hob'
      have hfin : (bs1 ++ [UInt8.ofNat (n1 % 128 + 128)]) ++ numB (n1 / 128) = bs ++ numB n := by have := heq.out; rw [numB_big hbig] at this; simpa using this
      have hlen : (bs1 ++ [UInt8.ofNat (n1 % 128 + 128)]).length ≤ m + 10 := by
        have h1 := congrArg List.length hfin
        have h2 := H.out.1
        have h3 := numB_len n hn
        rw [u8s_length] at h2
        simp at h1 ⊢; omega
      have Hfin := Lib.hid hfin
      have Hown' := Lib.hid hown'
      have HC' : Hid (Chg (ob a) w w') := Lib.hid ((HC.out.trans (Chg.alloc (ob a) wr _) (fun _ h _ => h)).trans hC' (fun x hx hl => by rcases Hob.out x hx with h | h; exact h; omega))
      have Hob' : Hid (∀ k ∈ ob a', k ∈ ob a ∨ w.heap.size ≤ k) := Lib.hid fun k hk => by
        rcases hob' k hk with h | h
        · exact Hob.out k h
        · right; omega
      clear hfin hown' hC' hob' HC Hob
      go_wp2_with fail
      go_roundw
      case rel => exact ⟨a', c', bs1 ++ [UInt8.ofNat (n1 % 128 + 128)], n1 / 128, by simp, by simp, by omega, Hfin, hlen, by have := Hown'.out; rw [← u8s_snoc] at this; simpa using this, HC'.out, Hob'.out⟩
      case measure => simp [intOf]; omega
end Go.Proofs.Ytblahapjdgncfaa
