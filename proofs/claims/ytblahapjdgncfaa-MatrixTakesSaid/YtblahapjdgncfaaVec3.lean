/- code.Num. | Bytes as a string. | dot.Bytes; the reference's Same; Has; Next. | The reference's Same. | The page's examples hold (varvelaw03.known). -/
import Derived.Test.YtblahapjdgncfaaBase
import Derived.Laws.BitsAll
import Derived.Test.YtblahapjdgncfaaVec2
/- CodeA -/
namespace Go.Proofs.Ytblahapjdgncfaa
open Go.RowKit
set_option linter.unusedVariables false
set_option linter.unusedSimpArgs false

theorem Try.info_u8 : (Try.prog.info? 5).map (fun i => (i.zero, i.size, i.bytes)) = some (some (.int .u8 0), 1, 1) := by kernel_rfl

/-- a number's bytes -/
def numB (n : Nat) : List UInt8 := if n ≤ 127 then [UInt8.ofNat n] else UInt8.ofNat (n % 128 + 128) :: numB (n / 128)
termination_by n
decreasing_by omega
theorem numB_small {n : Nat} (h : n ≤ 127) : numB n = [UInt8.ofNat n] := by rw [numB, if_pos h]
theorem numB_big {n : Nat} (h : ¬ n ≤ 127) : numB n = UInt8.ofNat (n % 128 + 128) :: numB (n / 128) := by rw [numB, if_neg h]
theorem numB_len (n : Nat) (h : n < 18446744073709551616) : (numB n).length ≤ 10 := by
  have key : ∀ k n, n < 128 ^ k → (numB n).length ≤ max k 1 := by
    intro k
    induction k with
    | zero => intro n h; rw [numB_small (by simp at h; omega)]; simp
    | succ k ih =>
      intro n h
      by_cases hs : n ≤ 127
      · rw [numB_small hs]; simp
      · rw [numB_big hs]
        have := ih (n / 128) (by rw [Nat.pow_succ] at h; omega)
        have hk : 1 ≤ k := by
          rcases Nat.eq_zero_or_pos k with rfl | h'
          · simp at h; omega
          · exact h'
        simp only [List.length_cons]; omega
  exact key 10 n (by omega)

theorem or128_fin : ∀ x : Fin 256, bits BinOp.or IntKind.u8 ((x.val : Nat) : Int) 128 = ((x.val % 128 + 128 : Nat) : Int) := by decide +kernel
theorem or128 (n : Nat) : bits BinOp.or IntKind.u8 ((n : Int) % 256) 128 = ((n % 128 + 128 : Nat) : Int) := by
  have h := or128_fin ⟨n % 256, Nat.mod_lt _ (by decide)⟩
  have e : ((n % 256 : Nat) : Int) = (n : Int) % 256 := by omega
  dsimp only at h
  rw [e] at h
  rw [h]
  congr 1
  omega
theorem u8_ofNat {n : Nat} (h : n < 256) : ((UInt8.ofNat n).toNat : Int) = (n : Int) := by rw [UInt8.toNat_ofNat']; omega
theorem one_u8 (w : World) (t : TypeId) {n : Nat} (h : n < 256) : Sl (w.alloc (.cells #[.int .u8 (n : Int)] t)) 1 (some ⟨w.heap.size, 0, none⟩) 1 1 (u8s [UInt8.ofNat n]) := by
  have e : u8s [UInt8.ofNat n] = [.int .u8 (n : Int)] := by simp only [u8s, List.map_cons, List.map_nil, u8_ofNat h]
  rw [e]
  exact Sl.blk (C := #[.int .u8 (n : Int)]) (heap_new w _) rfl (by decide)
theorem u8s_snoc (bs : List UInt8) (x : UInt8) : u8s (bs ++ [x]) = u8s bs ++ u8s [x] := by simp [u8s]

set_option maxHeartbeats 1000000 in
theorem num_any (a : Option Addr) (m c base : Nat) (bs : List UInt8) (n : Nat) (w : World) (h : w.ownsRow base 5 1 (.slice a m c) m (u8s bs)) (hb : base ≤ w.heap.size) (hm : m ≤ 1000000000) (hn : n < 18446744073709551616) :
    Calls Try.prog 80 #[.slice a m c, .int .u64 n] w fun e w' => ∃ a' c', e = .returned (.slice a' (m + (numB n).length) c') ∧ w'.ownsRow base 5 1 (.slice a' (m + (numB n).length) c') (m + (numB n).length) (u8s (bs ++ numB n)) ∧ Chg (ob a) w w' ∧ (∀ k ∈ ob a', k ∈ ob a ∨ w.heap.size ≤ k) := by
  obtain ⟨i0, hi0, hz0, hz1, hz2⟩ := info_parts Try.info_u8
  have H := Lib.hid h
  clear h
  go_enter Try.func80, Try.ntmps80
  go_wp2_with fail
  go_loopw [0, 1] (fun b k wr => ∃ (a1 : Option Addr) (c1 : Nat) (bs1 : List UInt8) (n1 : Nat), b = .slice a1 bs1.length c1 ∧ k = .int .u64 n1 ∧ n1 ≤ n ∧ Hid (bs1 ++ numB n1 = bs ++ numB n) ∧ bs1.length ≤ m + 10 ∧ wr.ownsRow base 5 1 (.slice a1 bs1.length c1) bs1.length (u8s bs1) ∧ Chg (ob a) w wr ∧ (∀ k ∈ ob a1, k ∈ ob a ∨ w.heap.size ≤ k)) (fun _ k _ => (intOf k).toNat)
  case atStart =>
    have hl : bs.length = m := by have := H.out.1; rw [u8s_length] at this; omega
    subst hl
    exact ⟨a, c, bs, n, rfl, rfl, Nat.le_refl _, Lib.hid rfl, by omega, H.out, Chg.refl _ _, fun k hk => .inl hk⟩
  case round =>
    obtain ⟨a1, c1, bs1, n1, rfl, rfl, hle, heq, hl1, hown, hC, hob⟩ := hrel
    have Hown := Lib.hid hown
    have HC := Lib.hid hC
    have Hob := Lib.hid hob
    have hs := hC.size
    clear hown hC hob
    by_cases hbig : n1 ≤ 127
    · have hbig' : ¬ (127 : Int) < (n1 : Int) := by omega
      go_wp2_with (at_builtin; go_must (refine wpList_append_sl rfl _ _ 82 rfl base 5 i0 (.int .u8 0) 1 1 Try.underlying82 hi0 hz0 hz1 hz2 rfl (by decide) a1 bs1.length c1 (u8s bs1) rfl (Hown.out.alloc _) (some ⟨wr.heap.size, 0, none⟩) 1 1 (u8s [UInt8.ofNat n1]) rfl ?c1 ?c2 ?c3 ?c4 ?c5 ?_))
      case c1 => exact one_u8 wr _ (by omega)
      case c2 => exact u8s_one _
      case c3 => unfold maxLen; omega
      case c4 => omega
      case c5 => omega
      intro a' c' w' hown' hC' hob'
      have hfin : bs1 ++ [UInt8.ofNat n1] = bs ++ numB n := by have := heq.out; rwa [numB_small hbig] at this
      have hlen : bs1.length + 1 = m + (numB n).length := by
        have h1 := congrArg List.length hfin
        have h2 := H.out.1
        rw [u8s_length] at h2
        simp at h1; omega
      have Hfin := Lib.hid hfin
      have Hlen := Lib.hid hlen
      have Hown' := Lib.hid hown'
      have HC' : Hid (Chg (ob a) w w') := Lib.hid ((HC.out.trans (Chg.alloc (ob a) wr _) (fun _ h _ => h)).trans hC' (fun x hx hl => by rcases Hob.out x hx with h | h; exact h; omega))
      have Hob' : Hid (∀ k ∈ ob a', k ∈ ob a ∨ w.heap.size ≤ k) := Lib.hid fun k hk => by
        rcases hob' k hk with h | h
        · exact Hob.out k h
        · right; omega
      clear hfin hlen hown' hC' hob' HC Hob
      go_wp2_with fail
      go_ret
      exact ⟨a', c', by rw [← Hlen.out]; rfl, by have := Hown'.out; rw [← u8s_snoc, Hfin.out] at this; rw [← Hlen.out]; exact this, HC'.out, Hob'.out⟩
    · have hbig' : (127 : Int) < (n1 : Int) := by omega
      go_wp2_with (at_builtin; go_must (refine wpList_append_sl rfl _ _ 82 rfl base 5 i0 (.int .u8 0) 1 1 Try.underlying82 hi0 hz0 hz1 hz2 rfl (by decide) a1 bs1.length c1 (u8s bs1) rfl (Hown.out.alloc _) (some ⟨wr.heap.size, 0, none⟩) 1 1 (u8s [UInt8.ofNat (n1 % 128 + 128)]) rfl ?d1 ?d2 ?d3 ?d4 ?d5 ?_))
      case d1 =>
        rw [or128]
        exact one_u8 wr _ (by omega)
      case d2 => exact u8s_one _
      case d3 => unfold maxLen; omega
      case d4 => omega
      case d5 => rw [World.size_alloc]; omega
      intro a' c' w' hown' hC' hob'
      have hfin : (bs1 ++ [UInt8.ofNat (n1 % 128 + 128)]) ++ numB (n1 / 128) = bs ++ numB n := by have := heq.out; rw [numB_big hbig] at this; simpa using this
      have hlen : (bs1 ++ [UInt8.ofNat (n1 % 128 + 128)]).length ≤ m + 10 := by
        have h1 := congrArg List.length hfin
        have h2 := H.out.1
        have h3 := numB_len n hn
        rw [u8s_length] at h2
        simp at h1 ⊢; omega
      have Hfin := Lib.hid hfin
      have Hown' := Lib.hid hown'
      have HC' : Hid (Chg (ob a) w w') := Lib.hid ((HC.out.trans (Chg.alloc (ob a) wr _) (fun _ h _ => h)).trans hC' (fun x hx hl => by rcases Hob.out x hx with h | h; exact h; omega))
      have Hob' : Hid (∀ k ∈ ob a', k ∈ ob a ∨ w.heap.size ≤ k) := Lib.hid fun k hk => by
        rcases hob' k hk with h | h
        · exact Hob.out k h
        · right; omega
      clear hfin hown' hC' hob' HC Hob
      go_wp2_with fail
      go_roundw
      case rel => exact ⟨a', c', bs1 ++ [UInt8.ofNat (n1 % 128 + 128)], n1 / 128, by simp, by simp, by omega, Hfin, hlen, by have := Hown'.out; rw [← u8s_snoc] at this; simpa using this, HC'.out, Hob'.out⟩
      case measure => simp [intOf]; omega
end Go.Proofs.Ytblahapjdgncfaa

/- StrA -/
namespace Go.Proofs.Ytblahapjdgncfaa
open Go.RowKit
set_option linter.unusedVariables false
set_option linter.unusedSimpArgs false
/-- a string of bytes -/
def strOf (bs : List UInt8) : ByteArray := ⟨bs.toArray⟩
theorem strOf_size (bs : List UInt8) : (strOf bs).size = bs.length := by simp [strOf, ByteArray.size]
theorem strOf_toList (bs : List UInt8) : (strOf bs).toList = bs := ByteArray.toList_mk bs
attribute [go_sem] strOf_toList
theorem conv_str {w : World} {a : Option Addr} {n c : Nat} {bs : List UInt8} (h : Sl w 1 a n c (u8s bs)) : (convert 82 9 (.slice a n c)).run Try.prog w = .ok (.string (strOf bs)) w := by
  rw [run_convert_bytes_string w _ _ 5 a n c Try.underlying82 Try.underlying5 Try.underlying9]
  obtain ⟨h1, h2, h3, ⟨rfl, rfl, rfl⟩ | ⟨b, rfl, hx⟩⟩ := h
  · have : bs = [] := by simpa [u8s] using h1
    subst this
    rfl
  · have hlen : n = bs.length := by rw [u8s_length] at h1; omega
    have hl : (loadCells b n).run Try.prog w = .ok ((bs.map fun x => (x.toNat : Int)).map (Value.int .u8)).toArray w := by
      have := run_firstCells_some (P := Try.prog) w 1 n b n c (u8s bs) h1 hx
      simp only [Builtin.firstCells, Nat.mul_one] at this
      rw [this]; simp [u8s, Function.comp_def]
    rw [run_bytesToString w b n c _ hl, foldl_push_bytes]
    congr 2
    simp [strOf]
    have e : ((fun n : Int => UInt8.ofNat n.toNat) ∘ fun x : UInt8 => (x.toNat : Int)) = id := by funext x; simp
    rw [e]; simp
end Go.Proofs.Ytblahapjdgncfaa

/- DotI -/
namespace Go.Proofs.Ytblahapjdgncfaa
open Go.RowKit
set_option linter.unusedVariables false
set_option linter.unusedSimpArgs false

theorem Held.of_chg {w w' : World} {q : Nat} {C : Array Value} {t : TypeId} {fr : Nat × Nat} {F : List Nat} (hq : w.heap[q]? = some (.cells C t fr)) (hc : Chg F w w') (hn : q ∉ F) : Held (fun k => k = q) w w' := by
  refine .inr fun k o hk ho => ?_
  have hk' : k = q := hk
  subst hk'
  have h2 := heap_chg hq hc (by simpa using hn)
  rw [hq] at ho
  have ho' := Option.some.inj ho
  subst ho'
  exact ⟨fun _ _ h => (by cases h), h2⟩

/-- a dot's bytes, a vector's bytes -/
def dotB (d : Dt) : List UInt8 := numB d.1.1.toNat ++ numB d.1.2.toNat ++ numB d.2.toNat
def dotsB (v : List Dt) : List UInt8 := v.flatMap dotB
def vecB (v : List Dt) : List UInt8 := numB v.length ++ dotsB v
theorem dotsB_snoc (v : List Dt) (d : Dt) : dotsB (v ++ [d]) = dotsB v ++ dotB d := by simp [dotsB]

/-- a call returns bytes in memory of its own -/
def BytesTo (w : World) (bs : List UInt8) (e : Ending) (w' : World) : Prop :=
  ∃ a c, e = .returned (.slice a bs.length c) ∧ w'.ownsRow w.heap.size 5 1 (.slice a bs.length c) bs.length (u8s bs) ∧ Below w.heap.size w w'

theorem dotB_len {d : Dt} (h : okD d) : (dotB d).length ≤ 30 := by
  obtain ⟨⟨h1, h2⟩, h3⟩ := h
  have a := numB_len d.1.1.toNat (by omega)
  have b := numB_len d.1.2.toNat (by omega)
  have c := numB_len d.2.toNat (by omega)
  simp only [dotB, List.length_append]; omega
theorem dotsB_len {v : List Dt} (h : okV v) : (dotsB v).length ≤ v.length * 30 := by
  induction v with
  | nil => simp [dotsB]
  | cons d v ih =>
    have h1 := dotB_len (h d (by simp))
    have h2 := ih fun x hx => h x (by simp [hx])
    simp only [dotsB, List.flatMap_cons, List.length_append, List.length_cons] at h2 ⊢; omega
theorem okV_take {v : List Dt} (h : okV v) (k : Nat) : okV (v.take k) := fun d hd => h d (List.mem_of_mem_take hd)

set_option maxHeartbeats 1000000 in
theorem bytes_any (a : Option Addr) (c : Nat) (v : List Dt) (w : World) (hv : Vec w a c v) (hok : okV v) (hn : v.length ≤ 1000000) :
    Calls Try.prog 60 #[.slice a v.length c] w (BytesTo w (vecB (canonV v))) := by
  have hokC := okV_canonV hok
  have hlC := vecOf_length (getN v)
  go_enter Try.func60, Try.ntmps60
  go_wp2_with fail
  refine (canon_any a c v w hv hok hn).mono ?_
  rintro e w1 ⟨a1, c1, rfl, hown1, hB1⟩
  change (canonV v).length ≤ 64 at hlC
  have Hv1 := Lib.hid (vec_of hown1)
  have HokC := Lib.hid hokC
  have HB1 := Lib.hid hB1
  have s1 := hB1.size
  generalize canonV v = u at *
  clear hown1 hB1 hokC hv
  go_wp2_with fail
  refine (num_any none 0 0 w1.heap.size [] u.length w1 (World.ownsRow_nil _ _ _ _) (Nat.le_refl _) (by omega) (by omega)).mono ?_
  rintro e w2 ⟨a2, c2, rfl, hown2, hC2, hob2⟩
  have hb2 : Below w1.heap.size w1 w2 := hC2.below (Nat.le_refl _) (by simp [ob])
  have Hown2 := Lib.hid hown2
  have Hb2 := Lib.hid hb2
  clear hown2 hC2 hob2 hb2
  go_wp2_with fail
  go_loopw [3, 14] (fun b i wr => ∃ (k : Nat) (ba : Option Addr) (bc : Nat), k ≤ u.length ∧ i = .int .i64 k ∧ b = .slice ba (numB u.length ++ dotsB (u.take k)).length bc ∧ wr.ownsRow w1.heap.size 5 1 (.slice ba (numB u.length ++ dotsB (u.take k)).length bc) (numB u.length ++ dotsB (u.take k)).length (u8s (numB u.length ++ dotsB (u.take k))) ∧ Below w1.heap.size w1 wr) (fun _ i _ => u.length - (intOf i).toNat)
  case atStart => exact ⟨0, a2, c2, Nat.zero_le _, rfl, by simp [dotsB], by simpa [dotsB] using Hown2.out, Hb2.out⟩
  case round =>
    obtain ⟨k, ba, bc, hk, rfl, rfl, hown, hb⟩ := hrel
    have Hown := Lib.hid hown
    have Hb := Lib.hid hb
    have hs := hb.size
    have hl0 : (numB u.length ++ dotsB (u.take k)).length ≤ 3000 := by
      have h1 := dotsB_len (okV_take HokC.out k)
      have h2 := numB_len u.length (by omega)
      rw [List.length_append]
      simp at h1
      omega
    clear hown hb Hown2 Hb2
    by_cases hlt : k < u.length
    · obtain ⟨⟨⟨r, i⟩, s⟩, hx⟩ : ∃ x, u[k]? = some x := ⟨u[k], by simp [hlt]⟩
      obtain ⟨ad, had, d0, d1, d2, hlt0⟩ := (Hv1.out.below Hb.out).at hx
      have had' := had
      subst had'
      have hokd := HokC.out _ (List.mem_of_getElem? hx)
      obtain ⟨⟨⟨r1, r2⟩, i1, i2⟩, s1', s2'⟩ := hokd
      have Hx := Lib.hid (take_snoc' hx)
      dsimp only at d0 d1 d2 r1 r2 i1 i2 s1' s2'
      clear hx had
      obtain ⟨rn, rfl⟩ : ∃ rn : Nat, r = (rn : Int) := ⟨r.toNat, by omega⟩
      obtain ⟨iN, rfl⟩ : ∃ iN : Nat, i = (iN : Int) := ⟨i.toNat, by omega⟩
      obtain ⟨sn, rfl⟩ : ∃ sn : Nat, s = (sn : Int) := ⟨s.toNat, by omega⟩
      generalize hX : numB u.length ++ dotsB (u.take k) = X at *
      have HX := Lib.hid hX
      have Hq : Hid ((wr.alloc (.cells #[.int .u8 (rn : Int), .int .u32 (iN : Int), .int .u64 (sn : Int)] 34)).heap[wr.heap.size]? = some (.cells #[.int .u8 (rn : Int), .int .u32 (iN : Int), .int .u64 (sn : Int)] 34 (0, 0))) := Lib.hid (heap_new wr _)
      clear hX
      go_wp2_with fail
      refine region_tree_at (fun k => k = wr.heap.size) (sgOf [([0, 1, 2, 3, 4, 6, 7, 8, 9, 11, 12], false), ([5], true), ([10], true), ([13, 14], false)]) mixed (by kernel_rfl) ?_
      simp only [sgOf, wpSgB, List.map_cons, List.map_nil, List.getD_cons_succ, List.getD_cons_zero]
      go_wp2_with fail
      refine (num_any ba X.length bc w1.heap.size X rn _ ?ho1 ?hb1 (by omega) (by omega)).mono ?_
      case ho1 => exact (Hown.out.alloc _).drew
      case hb1 => simp; omega
      rintro e w3 ⟨a3, c3, rfl, hown3, hC3, hob3⟩
      have hlt3 := owns_lt Hown.out
      have hn3 : wr.heap.size ∉ ob ba := fun h => by have := (hlt3 _ h).2; omega
      have hC3' : Chg (ob ba) (wr.alloc (.cells #[.int .u8 (rn : Int), .int .u32 (iN : Int), .int .u64 (sn : Int)] 34)) w3 := (Chg.drew _ _).trans hC3 (fun _ h _ => h)
      have hq3 := heap_chg Hq.out hC3' hn3
      have h3 := numB_len rn (by omega)
      have hs3 : wr.heap.size + 1 ≤ w3.heap.size := by have := hC3'.size; simpa using this
      have hB3 : Below w1.heap.size w1 w3 := (Hb.out.alloc hs _).trans (hC3'.below (by simp; omega) (fun x hx => (hlt3 x hx).1))
      have hn3' : wr.heap.size ∉ ob a3 := fun h => by
        rcases hob3 _ h with h | h
        · exact hn3 h
        · simp at h; omega
      have Hq3 := Lib.hid hq3
      have HB3 := Lib.hid hB3
      have Hown3 := Lib.hid hown3
      have Hn3 := Lib.hid hn3'
      have hheld := Held.of_chg (F := ob ba) (show (wr.alloc (.cells #[.int .u8 (rn : Int), .int .u32 (iN : Int), .int .u64 (sn : Int)] 34)).drew.heap[wr.heap.size]? = _ from Hq.out) hC3 hn3
      clear hq3 hB3 hown3 hC3 hC3' hob3 hlt3 hn3 hn3'
      go_wp2_with fail
      refine And.intro hheld ?_
      clear hheld
      go_wp2_with fail
      refine (num_any a3 _ c3 w1.heap.size (X ++ numB rn) iN w3 Hown3.out (by omega) (by omega) (by omega)).mono ?_
      rintro e w4 ⟨a4, c4, rfl, hown4, hC4, hob4⟩
      have hlt4 := owns_lt Hown3.out
      have h4 := numB_len iN (by omega)
      have hs4 := hC4.size
      have hheld := Held.of_chg (F := ob a3) Hq3.out hC4 Hn3.out
      have Hown4 := Lib.hid hown4
      have HB4 := Lib.hid (HB3.out.trans (hC4.below (by omega) (fun x hx => (hlt4 x hx).1)))
      clear hown4 hC4 hob4 hlt4
      go_wp2_with fail
      refine And.intro hheld ?_
      clear hheld
      go_wp2_with fail
      refine (num_any a4 _ c4 w1.heap.size (X ++ numB rn ++ numB iN) sn w4 Hown4.out (by omega) (by omega) (by omega)).mono ?_
      rintro e w5 ⟨a5, c5, rfl, hown5, hC5, hob5⟩
      have hlt5 := owns_lt Hown4.out
      have Hown5 := Lib.hid hown5
      have HB5 := Lib.hid (HB4.out.trans (hC5.below (by omega) (fun x hx => (hlt5 x hx).1)))
      clear hown5 hC5 hob5 hlt5
      go_wp2_with fail
      refine And.intro (And.intro (by kernel_rfl) ?rds) ?_
      case rds => simp [reads, readsIn, Act.eval]
      go_wp2_with fail
      go_roundw
      case rel =>
        have e : numB u.length ++ dotsB (u.take (k + 1)) = X ++ numB rn ++ numB iN ++ numB sn := by
          rw [Hx.out, dotsB_snoc, ← HX.out]
          simp [dotB]
        have el : (numB u.length ++ dotsB (u.take (k + 1))).length = X.length + (numB rn).length + (numB iN).length + (numB sn).length := by rw [e]; simp; omega
        exact ⟨k + 1, a5, c5, by omega, by go_num, by rw [el], by rw [el, e]; exact Hown5.out, HB5.out⟩
      case measure => simp [intOf]; omega
    · have e : numB u.length ++ dotsB (u.take k) = vecB u := by rw [List.take_of_length_le (by omega)]; rfl
      have He := Lib.hid e
      clear e
      go_wp2_with fail
      go_ret
      exact ⟨ba, bc, by rw [← He.out]; rfl, by rw [← He.out]; exact owns_base Hown.out s1, HB1.out.trans (Hb.out.mono s1)⟩
end Go.Proofs.Ytblahapjdgncfaa

/- DotJ -/
namespace Go.Proofs.Ytblahapjdgncfaa
open Go.RowKit
set_option linter.unusedVariables false
set_option linter.unusedSimpArgs false

theorem take_ext {α : Type} {v u : List α} (k : Nat) (hl : v.length = u.length) (hk : v.length ≤ k) (h : v.take k = u.take k) : v = u := by
  rw [List.take_of_length_le hk, List.take_of_length_le (by omega)] at h
  exact h

theorem below_drewN {B : Nat} {w w' : World} (h : Below B w w') (n : Nat) : Below B w (w'.drewN n) := ⟨h.os, h.tape, h.output, h.size, h.block⟩
set_option maxHeartbeats 1000000 in
theorem same_any (a b : Option Addr) (c d : Nat) (v u : List Dt) (w : World) (hv : Vec w a c v) (hu : Vec w b d u) (hn : v.length ≤ 1000000) (hm : u.length ≤ 1000000) :
    Calls Try.prog 13 #[.slice a v.length c, .slice b u.length d] w fun e w' => e = .returned (.bool (decide (v = u))) ∧ Below w.heap.size w w' := by
  have Hv := Lib.hid hv
  have Hu := Lib.hid hu
  clear hv hu
  by_cases hl : v.length = u.length
  · have Hl := Lib.hid hl
    rw [← hl]
    clear hl
    go_enter Try.func13, Try.ntmps13
    go_wp2_with fail
    go_loopw [5] (fun i wr => ∃ k : Nat, k ≤ v.length ∧ i = .int .i64 k ∧ Hid (v.take k = u.take k) ∧ Below w.heap.size w wr) (fun i _ => v.length - (intOf i).toNat)
    case atStart => exact ⟨0, Nat.zero_le _, rfl, Lib.hid (by simp), Below.refl _ _⟩
    case round =>
      obtain ⟨k, hk, rfl, heq, hb⟩ := hrel
      have Hb := Lib.hid hb
      clear hb
      by_cases hlt : k < v.length
      · have hlu : k < u.length := by have := Hl.out; omega
        obtain ⟨⟨⟨r, i⟩, s⟩, hx⟩ : ∃ x, v[k]? = some x := ⟨v[k], by simp [hlt]⟩
        obtain ⟨⟨⟨r', i'⟩, s'⟩, hy⟩ : ∃ x, u[k]? = some x := ⟨u[k], by simp [hlu]⟩
        obtain ⟨ad, had, d0, d1, d2, hlt0⟩ := (Hv.out.below Hb.out).at hx
        obtain ⟨ae, hae, e0, e1, e2, hlt1⟩ := (Hu.out.below Hb.out).at hy
        have had' := had
        have hae' := hae
        subst had' hae'
        dsimp only at d0 d1 d2 e0 e1 e2
        have Hx := Lib.hid hx
        have Hy := Lib.hid hy
        clear hx hy had hae
        by_cases hr : r = r'
        · subst hr
          by_cases hi : i = i'
          · subst hi
            by_cases hs : s = s'
            · subst hs
              go_wp2_with fail
              go_quiet (fail)
              go_wp2_with fail
              go_roundw
              case rel => exact ⟨k + 1, by omega, by go_num, Lib.hid (by rw [take_snoc' Hx.out, take_snoc' Hy.out, heq.out]), below_drewN Hb.out _⟩
              case measure => simp [intOf]; omega
            · have He := Lib.hid (show decide (v = u) = false by simp; intro e; subst e; have := Hx.out.symm.trans Hy.out; simp at this; exact hs this)
              go_wp2_with fail
              go_quiet (fail)
              go_wp2_with fail
              go_ret
              exact ⟨by rw [He.out]; rfl, below_drewN Hb.out _⟩
          · have He := Lib.hid (show decide (v = u) = false by simp; intro e; subst e; have := Hx.out.symm.trans Hy.out; simp at this; exact hi this.1)
            go_wp2_with fail
            go_quiet (fail)
            go_wp2_with fail
            go_ret
            exact ⟨by rw [He.out]; rfl, below_drewN Hb.out _⟩
        · have He := Lib.hid (show decide (v = u) = false by simp; intro e; subst e; have := Hx.out.symm.trans Hy.out; simp at this; exact hr this.1.1)
          go_wp2_with fail
          go_quiet (fail)
          go_wp2_with fail
          go_ret
          exact ⟨by rw [He.out]; rfl, below_drewN Hb.out _⟩
      · have he : v = u := take_ext k Hl.out (by omega) heq.out
        have He := Lib.hid (show decide (v = u) = true by simpa using he)
        clear he
        go_wp2_with fail
        go_ret
        exact ⟨by rw [He.out]; rfl, Hb.out⟩
  · have he : decide (v = u) = false := by simp; intro e; exact hl (by rw [e])
    have He := Lib.hid he
    have hl' : ((v.length : Int) != (u.length : Int)) = true := by simp; omega
    clear he
    go_enter Try.func13, Try.ntmps13
    go_wp2_with fail
    go_ret
    exact ⟨by rw [He.out]; rfl, Below.refl _ _⟩
end Go.Proofs.Ytblahapjdgncfaa

/- DotK -/
namespace Go.Proofs.Ytblahapjdgncfaa
open Go.RowKit
set_option linter.unusedVariables false
set_option linter.unusedSimpArgs false

theorem of_any (r i s : Int) (w : World) : Calls Try.prog 59 #[.int .u8 r, .int .u32 i, .int .u64 s] w fun e w' => e = .returned (.agg #[.int .u8 r, .int .u32 i, .int .u64 s]) ∧ w' = w.alloc (.cells #[.int .u8 r, .int .u32 i, .int .u64 s] 34) := by
  go_enter Try.func59, Try.ntmps59
  go_wp2
  exact bodyPost_ret (v := .agg #[.int .u8 r, .int .u32 i, .int .u64 s]) (by simp [results, Try.results59, go_sem]) rfl ⟨rfl, rfl⟩

theorem heap_eq (w : World) (o : Obj) (k : Nat) (h : k = w.heap.size) : (w.alloc o).heap[k]? = some o := by subst h; exact heap_new w o
theorem heap_ne (w : World) (o : Obj) (k : Nat) (h : k ≠ w.heap.size) : (w.alloc o).heap[k]? = w.heap[k]? := by
  by_cases h2 : k < w.heap.size
  · exact heap_old w o h2
  · rw [Array.getElem?_eq_none (by rw [World.size_alloc]; omega), Array.getElem?_eq_none (by omega)]
theorem vec_blk {w : World} {b n : Nat} {C : Array Value} {v : List Dt} (h : w.heap[b]? = some (.cells C 34 (0, 0))) (hc : C.toList = dcells v) (hn : v.length = n) (hm : n ≤ 1000) : Vec w (some ⟨b, 0, none⟩) n v := by
  subst hn
  unfold Vec
  rw [← hc]
  refine Sl.blk h ?_ (by unfold maxLen; omega)
  have := congrArg List.length hc
  rw [dcells_length] at this
  simpa using this
theorem Vec.keep {w w' : World} {a : Option Addr} {c : Nat} {v : List Dt} (h : Vec w a c v) (hb : Below w.heap.size w w') : Vec w' a c v := h.below hb
def kA : List Dt := [((0, 1), 3)]
def kB : List Dt := [((0, 1), 2), ((1, 1), 5)]
def kJ : List Dt := [((0, 1), 3), ((1, 1), 5)]
def kM : List Dt := [((0, 1), 2)]
theorem okK : okV kA ∧ okV kB ∧ okV kJ ∧ okV kM := by
  refine ⟨?_, ?_, ?_, ?_⟩ <;> intro d hd <;> simp [kA, kB, kJ, kM] at hd
  · subst hd; unfold okD okA; decide
  · rcases hd with rfl | rfl <;> (unfold okD okA; decide)
  · rcases hd with rfl | rfl <;> (unfold okD okA; decide)
  · subst hd; unfold okD okA; decide
theorem known_join : decide (joinV kA kB = kJ) = true := by decide +kernel
theorem known_meet : decide (meetV kA kB = kM) = true := by decide +kernel
theorem known_bytes : vecB (canonV kA) = [1, 0, 1, 3] := by
  have h : canonV kA = kA := by decide +kernel
  rw [h]
  simp [vecB, kA, dotsB, dotB, numB_small]

set_option maxHeartbeats 1000000 in
theorem known_any (w : World) : Calls Try.prog 9 #[] w fun e w' => e = .returned (.bool true) ∧ Below w.heap.size w w' := by
  go_enter Try.func9, Try.ntmps9
  go_wp2_with (go_at_call 59; refine (of_any _ _ _ _).mono ?_; rintro e w' ⟨rfl, rfl⟩)
  obtain ⟨okA', okB', okJ', okM'⟩ := okK
  refine (join_any _ _ _ _ kA kB _ (vec_blk (C := #[.int .u8 0, .int .u32 1, .int .u64 3]) ?b1 rfl rfl (by decide)) (vec_blk (C := #[.int .u8 0, .int .u32 1, .int .u64 2, .int .u8 1, .int .u32 1, .int .u64 5]) ?b2 rfl rfl (by decide)) okA' okB' (by decide) (by decide)).mono ?_
  case b1 => repeat (first | exact heap_eq _ _ _ (by simp only [World.size_alloc]) | refine (heap_ne _ _ _ (by simp only [World.size_alloc]; omega)).trans ?_)
  case b2 => repeat (first | exact heap_eq _ _ _ (by simp only [World.size_alloc]) | refine (heap_ne _ _ _ (by simp only [World.size_alloc]; omega)).trans ?_)
  rintro e w1 ⟨a1, c1, rfl, hown1, hB1⟩
  have hbA := (hB1.block (w.heap.size + 1) (by simp only [World.size_alloc]; omega)).trans (show _ = some (.cells #[.int .u8 0, .int .u32 1, .int .u64 3] 34 (0, 0)) by repeat (first | exact heap_eq _ _ _ (by simp only [World.size_alloc]) | refine (heap_ne _ _ _ (by simp only [World.size_alloc]; omega)).trans ?_))
  have hbB := (hB1.block (w.heap.size + 1 + 1 + 1 + 1) (by simp only [World.size_alloc]; omega)).trans (show _ = some (.cells #[.int .u8 0, .int .u32 1, .int .u64 2, .int .u8 1, .int .u32 1, .int .u64 5] 34 (0, 0)) by repeat (first | exact heap_eq _ _ _ (by simp only [World.size_alloc]) | refine (heap_ne _ _ _ (by simp only [World.size_alloc]; omega)).trans ?_))
  have hB : Below w.heap.size w w1 := ((((((Below.refl _ w).alloc (Nat.le_refl _) _).alloc (by simp only [World.size_alloc]; omega) _).alloc (by simp only [World.size_alloc]; omega) _).alloc (by simp only [World.size_alloc]; omega) _).alloc (by simp only [World.size_alloc]; omega) _).trans (hB1.mono (by simp only [World.size_alloc]; omega))
  have VA := Lib.hid (vec_blk (v := kA) (n := 1) hbA rfl rfl (by omega))
  have VB := Lib.hid (vec_blk (v := kB) (n := 2) hbB rfl rfl (by omega))
  have VJ := Lib.hid (vec_of hown1)
  have HB := Lib.hid hB
  have s1 := hB.size
  have hlJ : (joinV kA kB).length ≤ 64 := vecOf_length _
  clear hbA hbB hown1 hB1 hB
  go_wp2_with (go_at_call 59; refine (of_any _ _ _ _).mono ?_; rintro e w' ⟨rfl, rfl⟩)
  have hbl : Below w1.heap.size w1 (((w1.alloc (.cells #[.int .u8 0, .int .u32 1, .int .u64 3] 34)).alloc (.cells #[.int .u8 1, .int .u32 1, .int .u64 5] 34)).alloc (.cells #[.int .u8 0, .int .u32 1, .int .u64 3, .int .u8 1, .int .u32 1, .int .u64 5] 34)) := (((Below.refl _ _).alloc (Nat.le_refl _) _).alloc (by simp only [World.size_alloc]; omega) _).alloc (by simp only [World.size_alloc]; omega) _
  refine (same_any _ _ _ _ (joinV kA kB) kJ _ (VJ.out.below hbl) (vec_blk (C := #[.int .u8 0, .int .u32 1, .int .u64 3, .int .u8 1, .int .u32 1, .int .u64 5]) ?b1 rfl rfl (by decide)) (by omega) (by decide)).mono ?_
  case b1 => repeat (first | exact heap_eq _ _ _ (by simp only [World.size_alloc]) | refine (heap_ne _ _ _ (by simp only [World.size_alloc]; omega)).trans ?_)
  rintro e w2 ⟨rfl, hB2⟩
  rw [known_join]
  have hb2 : Below w1.heap.size w1 w2 := hbl.trans (hB2.mono (by simp only [World.size_alloc]; omega))
  have VA2 := Lib.hid (VA.out.below hb2)
  have VB2 := Lib.hid (VB.out.below hb2)
  have HB2 := Lib.hid (HB.out.trans (hb2.mono s1))
  have s2 := HB2.out.size
  clear hB2 hb2 hbl VA VB VJ HB hlJ
  go_wp2_with fail
  refine (meet_any _ _ _ _ kA kB _ VA2.out VB2.out okA' okB' (by decide) (by decide)).mono ?_
  rintro e w3 ⟨a3, c3, rfl, hown3, hB3⟩
  have VM := Lib.hid (vec_of hown3)
  have VA3 := Lib.hid (VA2.out.below hB3)
  have HB3 := Lib.hid (HB2.out.trans (hB3.mono s2))
  have s3 := HB3.out.size
  have hlM : (meetV kA kB).length ≤ 64 := vecOf_length _
  clear hown3 hB3 VA2 VB2 HB2
  go_wp2_with (go_at_call 59; refine (of_any _ _ _ _).mono ?_; rintro e w' ⟨rfl, rfl⟩)
  have hbl : Below w3.heap.size w3 ((w3.alloc (.cells #[.int .u8 0, .int .u32 1, .int .u64 2] 34)).alloc (.cells #[.int .u8 0, .int .u32 1, .int .u64 2] 34)) := ((Below.refl _ _).alloc (Nat.le_refl _) _).alloc (by simp only [World.size_alloc]; omega) _
  refine (same_any _ _ _ _ (meetV kA kB) kM _ (VM.out.below hbl) (vec_blk (C := #[.int .u8 0, .int .u32 1, .int .u64 2]) ?b1 rfl rfl (by decide)) (by omega) (by decide)).mono ?_
  case b1 => repeat (first | exact heap_eq _ _ _ (by simp only [World.size_alloc]) | refine (heap_ne _ _ _ (by simp only [World.size_alloc]; omega)).trans ?_)
  rintro e w4 ⟨rfl, hB4⟩
  rw [known_meet]
  have hb4 : Below w3.heap.size w3 w4 := hbl.trans (hB4.mono (by simp only [World.size_alloc]; omega))
  have VA4 := Lib.hid (VA3.out.below hb4)
  have HB4 := Lib.hid (HB3.out.trans (hb4.mono s3))
  have s4 := HB4.out.size
  clear hB4 hb4 hbl VA3 VM HB3 hlM
  go_wp2_with fail
  refine (bytes_any _ _ kA _ VA4.out okA' (by decide)).mono ?_
  rintro e w5 ⟨a5, c5, rfl, hown5, hB5⟩
  have hcv := conv_str (Sl.of_owns hown5)
  have HB5 := Lib.hid (HB4.out.trans (hB5.mono s4))
  rw [known_bytes] at hcv ⊢
  have hcv' : (convert 82 9 (.slice a5 4 c5)).run Try.prog w5 = .ok (.string ⟨#[1, 0, 1, 3]⟩) w5 := hcv
  simp only [List.length_cons, List.length_nil, Nat.reduceAdd]
  clear hcv
  clear hown5 hB5 HB4 VA4
  go_wp2_with fail
  go_ret
  exact ⟨rfl, HB5.out⟩
end Go.Proofs.Ytblahapjdgncfaa
