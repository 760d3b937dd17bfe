/- BagKeeps: the walk. -/
import Derived.Test.YtkgbdgnfidpelaaKeepB
namespace Go.Proofs.Ytkgbdgnfidpelaa
open Go.RowKit
open Go.Maps (IsMap)
set_option linter.unusedVariables false
set_option linter.unusedSimpArgs false

/-- behind the change, if any -/
def CutK (w0 : World) (pb mb k : Nat) (L : List Lt) (t8 : UInt8) (n : Nat) (ia : Option Addr) (ic q : Nat) (ba : Option Addr) (bc : Nat) (wx : World) : Prop :=
  ∃ bs ch F, bs.length = n ∧ wx.ownsRow w0.heap.size 5 1 (.slice ia n ic) n (u8s bs) ∧ Kp w0 wx pb mb k (L ++ [⟨(t8.toNat : Int), bs, ch⟩]) L F ∧ (∀ x ∈ ob ia, x ∉ F ∧ x ≠ mb) ∧
    wx.heap[q]? = some (.cells #[.int .u8 (t8.toNat : Int), .slice ba n bc] 30 (0, 0))

theorem cat_toList (a b : List UInt8) : (strOf a ++ strOf b).data.toList = a ++ b := by
  rw [ByteArray.data_append, Array.toList_append]; simp [strOf]
theorem key_cat (t8 : UInt8) (bs : List UInt8) (h : bs.length ≤ 100) : keyOf Try.prog 9 (.string (strOf [t8] ++ strOf bs)) = some (.string (t8 :: bs)) := by
  rw [key_str Try.underlying9 _ (by rw [ByteArray.size_append, strOf_size, strOf_size]; unfold maxLen; simp; omega), cat_toList]
  rfl
theorem look_eq {D : DataW Unit} {L : List Lt} {k : List UInt8} {c : Int} (hat : D.atKey (.string k) (.lit (.int .i64 0)) = .lit (.int .i64 c)) (hD : ∀ k : List UInt8, D.atKey (.string k) (.lit (.int .i64 0)) = .lit (.int .i64 (cnt k L))) : c = (cnt k L : Int) := by
  have := hat.symm.trans (hD k)
  simpa using this
theorem wf_small {n : Int} (h0 : -1000 ≤ n) (h1 : n ≤ 1000) : (Lit.int .i64 n).wf = true := by
  simp [Lit.wf, IntKind.min, IntKind.max, IntKind.signed, IntKind.bits]; omega

theorem zero_int (w : World) : (zeroValue 3).run Try.prog w = .ok (.int .i64 0) w := by kernel_rfl

set_option maxHeartbeats 8000000 in
set_option maxRecDepth 100000 in
theorem keep_walk (la : Option Addr) (lc : Nat) (O : List LtV) (dn cn : Int) (at8 x : UInt8) (oa : Option Addr) (oc : Nat) (os : List UInt8) (w : World) (hO : LtsOk w la O) (hS : Sl w 1 oa os.length oc (u8s os))
    (d1 : 0 ≤ dn) (d2 : dn ≤ 4294967295) (e1 : 0 ≤ cn) (e2 : cn ≤ 4294967295) :
    Calls Try.prog 3 #[.slice la O.length lc, .int .u32 dn, .int .u32 cn, .int .u8 (at8.toNat : Int), .int .u8 (x.toNat : Int), .slice oa os.length oc] w fun e w' => e = .returned (.bool true) ∧ Below w.heap.size w w' := by
  obtain ⟨i0, hi0, hz0, hz1, hz2⟩ := info_parts Try.info_u8
  have hmm := @run_makeMap Try.prog
  have HO := Lib.hid hO
  have HS := Lib.hid hS
  clear hO hS
  by_cases h30 : 30 < O.length
  · have h30' : (30 : Int) < (O.length : Int) := by omega
    go_enter Try.func3, Try.ntmps3
    go_wp2_with fail
    refine (new_R _).mono ?_
    rintro e w1 ⟨rfl, hR1, hb1⟩
    clear hR1
    go_wp2_with fail
    refine (known_any _).mono ?_
    rintro e w5 ⟨rfl, hb5⟩
    go_wp2_with fail
    go_ret
    exact ⟨rfl, hb1.trans (hb5.mono hb1.size)⟩
  have h30' : ¬ (30 : Int) < (O.length : Int) := by omega
  go_enter Try.func3, Try.ntmps3
  go_wp2_with fail
  refine (new_R _).mono ?_
  rintro e w1 ⟨rfl, hR1, hb1⟩
  have hs1 := hb1.size
  have hRlt := hR1.lt' w.heap.size (by simp)
  have HP : Hid (Kp w (w1.alloc (.map #[] 0)) w.heap.size w1.heap.size 0 [] [] [w.heap.size]) :=
    Lib.hid ⟨hR1.alloc _, MapC.new w1, by simp; omega, by simp, by omega, by simp [OkTo], by simp, hb1.alloc (by omega) _⟩
  clear hR1 hb1
  go_wp2_with fail
  go_loopw [36] (fun s36 wr => ∃ k : Nat, k ≤ O.length ∧ s36 = .int .i64 k ∧ ∃ L F, L.length = k ∧ Kp w wr w.heap.size w1.heap.size k L L F) (fun s36 _ => O.length - (intOf s36).toNat)
  case atStart => exact ⟨0, Nat.zero_le _, rfl, [], _, rfl, HP.out⟩
  case round =>
    obtain ⟨k, hk, rfl, L, F, hLk, hP⟩ := hrel
    have HPl := Lib.hid hP
    have HLk := Lib.hid hLk
    clear hLk
    by_cases hlt : k < O.length
    · as_aux_lemma =>
      have hlt' : (k : Int) < (O.length : Int) := by omega
      have hx : ∃ x, O[k]? = some x := ⟨O[k], by simp [hlt]⟩
      obtain ⟨o, hx⟩ := hx
      obtain ⟨a, rfl, hOk⟩ := HO.out.at_ k o hx
      have hOk' := hOk.below (hP.bel)
      have hw0 := hP.bel.size
      have hm0 := hP.map.lt
      obtain ⟨t8, bs, ba, bc⟩ := o
      have c0 := hOk'.c0
      have c1 : wr.cell? ⟨(a.add (k * 2)).block, (a.add (k * 2)).off + 1, none⟩ = some (.slice ba bs.length bc) := hOk'.c1
      have Hsl := Lib.hid hOk'.sl
      dsimp only at c0 c1 Hsl
      have Hx := Lib.hid hx
      clear hOk hOk' hP hx
      by_cases hbad : bs.length < 1 ∨ 100 < bs.length
      · by_cases hb0 : bs.length < 1
        · have hb0' : (bs.length : Int) < 1 := by omega
          go_wp2_with fail
          refine (known_any _).mono ?_
          rintro e w5 ⟨rfl, hb5⟩
          go_wp2_with fail
          go_ret
          exact ⟨rfl, (HPl.out.bel.alloc hw0 _).trans (hb5.mono (by simp; omega))⟩
        · have hb0' : ¬ (bs.length : Int) < 1 := by omega
          have hb1' : (100 : Int) < (bs.length : Int) := by omega
          go_wp2_with fail
          refine (known_any _).mono ?_
          rintro e w5 ⟨rfl, hb5⟩
          go_wp2_with fail
          go_ret
          exact ⟨rfl, (HPl.out.bel.alloc hw0 _).trans (hb5.mono (by simp; omega))⟩
      have hb0' : ¬ (bs.length : Int) < 1 := by omega
      have hb1' : ¬ (100 : Int) < (bs.length : Int) := by omega
      clear hbad
      have Hsl0 := Lib.hid (HO.out.at_ k ⟨t8, bs, ba, bc⟩ Hx.out)
      go_upto_region 12 with (fail)
      generalize hW1 : wr.alloc (.cells #[.int .u8 (t8.toNat : Int), .slice ba bs.length bc] 30) = W1
      have hB1 : Below wr.heap.size wr W1 := by rw [← hW1]; exact (Below.refl _ _).alloc (Nat.le_refl _) _
      have sW1 : wr.heap.size + 1 ≤ W1.heap.size := by rw [← hW1]; simp
      have hq1 : W1.heap[wr.heap.size]? = some (.cells #[.int .u8 (t8.toNat : Int), .slice ba bs.length bc] 30 (0, 0)) := by rw [← hW1]; exact heap_new _ _
      have cq1 := cells_at hq1
      have lq1 := heap_lt hq1
      have HP1 := Lib.hid (HPl.out.below hB1)
      have Hsl1 := Lib.hid (Hsl.out.below hB1)
      have HB1 := Lib.hid hB1
      have Hq1 := Lib.hid hq1
      have hFlt := HPl.out.bag.lt'
      have hFq : wr.heap.size ∉ F := fun h => by have := hFlt _ h; omega
      have hL30 : L.length ≤ 30 := by have := HLk.out; omega
      clear hW1 hB1 hq1 hFlt c0 c1
      go_wp2_with fail
      refine (put_R w.heap.size (t8.toNat : Int) bs ba bs.length bc _ L F rfl Hsl1.out (by omega) HP1.out.bag (by omega)).mono ?_
      rintro e w2 ⟨rfl, hT2⟩
      have hP2 := HP1.out.to_ hT2 (HP1.out.oto.snoc _ _ _) (fun l hl => by
        rw [List.mem_append, List.mem_singleton] at hl
        rcases hl with hl | rfl
        · exact HP1.out.sml l hl
        · show bs.length ≤ 100; omega)
      obtain ⟨F2, hP2, hF2⟩ := hP2
      have hq2 := heap_chg Hq1.out hT2.chg' hFq
      have cq2 := cells_at hq2
      have lq2 := heap_lt hq2
      have s2 := hT2.chg'.size
      have sl2 : Sl w2 1 ba bs.length bc (u8s bs) := by
        obtain ⟨a', ha', hok⟩ := Hsl0.out
        exact hok.sl.below hP2.bel
      have Hsl2 := Lib.hid sl2
      have HP2 := Lib.hid hP2
      have Hq2 := Lib.hid hq2
      have hw2 := hP2.bel.size
      have hm2 := hP2.map.lt
      have hF2lt := Lib.hid hP2.bag.lt'
      have hFq2 : wr.heap.size ∉ F2 := fun h => by
        rcases hF2 _ h with h | h
        · exact hFq h
        · omega
      clear hP2 hT2 hF2 hq2 sl2 cq1
      go_wp2_with (at_builtin; go_must (refine wpList_append_sl rfl _ _ 24 rfl w2.heap.size 5 i0 (.int .u8 0) 1 1 Try.underlying24 hi0 hz0 hz1 hz2 rfl (by decide) _ 0 0 [] rfl (World.ownsRow_made w2 #[] 0 (Nat.le_refl _) (by decide) rfl) ba bs.length bc (u8s bs) rfl (Hsl2.out.below ((Below.refl _ _).alloc (Nat.le_refl _) _)) (u8s_one bs) ?c3 ?c4 ?c5 ?_))
      case c3 => unfold maxLen; omega
      case c4 => omega
      case c5 => simp
      intro ia ic w3 ho3 hc3 hl3
      have s3 := hc3.size
      simp at s3
      have hB3 : Below w2.heap.size w2 w3 := ((Below.refl _ _).alloc (Nat.le_refl _) _).trans (hc3.below (by simp) (by simp [ob]))
      have hown : w3.ownsRow w.heap.size 5 1 (.slice ia bs.length ic) bs.length (u8s bs) := by
        have := owns_base ho3 (show w.heap.size ≤ w2.heap.size by omega)
        simpa using this
      have hia : ∀ x ∈ ob ia, w2.heap.size ≤ x := fun x hx => by rcases hl3 x hx with h | h; simp [ob] at h; omega; omega
      have Hown := Lib.hid hown
      have HK3 := Lib.hid (HP2.out.below hB3)
      have Hdis := Lib.hid (fun x hx => ⟨fun h => by have := hF2lt.out x h; have := hia x hx; omega, fun h => by have := hia x hx; omega⟩ : ∀ x ∈ ob ia, x ∉ F2 ∧ x ≠ w1.heap.size)
      have Hdisq := Lib.hid (fun h => by have := hia _ h; omega : wr.heap.size ∉ ob ia)
      have Hq3 := Lib.hid (heap_chg Hq2.out (Chg.of_below (F := []) hB3) (by simp))
      have hw3 : w.heap.size ≤ w3.heap.size := by omega
      have HCut : Hid (CutK w w.heap.size w1.heap.size k L t8 bs.length ia ic wr.heap.size ba bc w3) := Lib.hid ⟨bs, false, F2, rfl, Hown.out, HK3.out, Hdis.out, Hq3.out⟩
      have HFq2 := Lib.hid hFq2
      clear hia hown hB3 ho3 hc3 hl3 hF2lt HP2 Hq2 Hsl2 HP1 Hsl1 HB1 Hq1 cq2 hFq2 hFq
      by_cases hbx : bits BinOp.and IntKind.u32 (cn / 2 ^ k) 1 = 1 ∧ 0 < x.toNat
      · obtain ⟨hbit, hx0⟩ := hbx
        have hbit' : (bits BinOp.and IntKind.u32 (cn / 2 ^ k) 1 == 1) = true := by simpa using hbit
        have hp : ∃ p : Nat, p < bs.length ∧ ((at8.toNat : Int) % (bs.length : Int)) = (p : Int) := ⟨at8.toNat % bs.length, Nat.mod_lt _ (by omega), by simp⟩
        obtain ⟨p, hpl, hpe⟩ := hp
        have hpl' : (p : Int) < (bs.length : Int) := by omega
        have hat := at8.toNat_lt
        have hz : ∃ z : UInt8, bs[p] ^^^ x = z := ⟨_, rfl⟩
        obtain ⟨z, hz⟩ := hz
        have hxor := xor_u8 bs[p] x
        rw [hz] at hxor
        obtain ⟨g, rfl, e0, e1, _⟩ := own_at (i := p) (owns_base Hown.out (Nat.zero_le _)) (u8s_at hpl)
        have lg := World.block_lt_of_cell? _ _ e0
        have Hz := Lib.hid hz
        have Hmay := Lib.hid (show mayChange (L ++ [⟨(t8.toNat : Int), bs, false⟩]) (k : Int) (p : Int) x = true by
          rw [← HLk.out, mayChange_last _ _ _ _ _ _ hpl]
          have : x ≠ 0 := fun h => by subst h; simp at hx0
          simpa using this)
        have Hdo := Lib.hid (show doChange (L ++ [⟨(t8.toNat : Int), bs, false⟩]) (k : Int) (p : Int) x = L ++ [⟨(t8.toNat : Int), bs.modify p (· ^^^ x), true⟩] by
          rw [← HLk.out, doChange_last])
        have Hmay2 := Lib.hid (show mayChange (L ++ [⟨(t8.toNat : Int), bs.modify p (· ^^^ x), true⟩]) (k : Int) (0 : Int) 1 = false by
          rw [← HLk.out, show (0 : Int) = ((0 : Nat) : Int) from rfl, mayChange_last _ _ _ _ _ _ (by simp; omega)]
          simp)
        clear hz hbit HCut
        go_wp2_with fail
        generalize hW4 : w3.setCell ⟨g, p, none⟩ (.int .u8 (z.toNat : Int)) = W4
        have hc4 : Chg [g] w3 W4 := by rw [← hW4]; exact Chg.setCell w3 ⟨g, p, none⟩ _
        have ho4 : W4.ownsRow w.heap.size 5 1 (.slice (some ⟨g, 0, none⟩) bs.length ic) bs.length (u8s (bs.set p z)) := by rw [← hW4, u8s_set]; exact (Hown.out.stored p _).1
        have hgo : g ∈ ob (some ⟨g, 0, none⟩) := by simp [ob]
        have hK4 := HK3.out.chg hc4 (fun y hy => by simp at hy; subst hy; exact ⟨(owns_lt Hown.out _ hgo).1, Hdis.out _ hgo⟩)
        have hq4 := heap_chg Hq3.out hc4 (by simp; intro h; exact Hdisq.out (by simp [ob, h]))
        have s4 := hc4.size
        have Ho4 := Lib.hid ho4
        have HK4 := Lib.hid hK4
        have Hq4 := Lib.hid hq4
        have Hg := Lib.hid hgo
        clear hW4 hc4 ho4 hK4 hq4 e0 e1 hgo
        have hC := change_R w.heap.size (k : Int) (p : Int) x W4 _ F2 HK4.out.bag (by omega) (by omega) (by simp; omega) (fun l hl => by have := HK4.out.sml l hl; omega)
        simp only [Hmay.out, Hdo.out, if_true] at hC
        refine hC.mono ?_
        rintro e w5 ⟨rfl, hT5⟩
        have hK5 := HK4.out.to_ hT5 (HPl.out.oto.snoc _ _ _) (fun l hl => by
          rw [List.mem_append, List.mem_singleton] at hl
          rcases hl with hl | rfl
          · exact HPl.out.sml l hl
          · show (bs.modify p _).length ≤ 100; simp; omega)
        obtain ⟨F5, hK5, hF5⟩ := hK5
        have s5 := hT5.chg'.size
        have ho5 := owns_chg Ho4.out hT5.chg' (fun y hy => (Hdis.out y hy).1)
        have hq5 := heap_chg Hq4.out hT5.chg' HFq2.out
        have hgl := (owns_lt Ho4.out g Hg.out).2
        have HK5 := Lib.hid hK5
        have HF5 := Lib.hid hF5
        have Ho5 := Lib.hid ho5
        have Hq5 := Lib.hid hq5
        have lq5 : wr.heap.size < W4.heap.size := by omega
        clear hC hT5 hK5 hF5 ho5 hq5
        go_wp2_with fail
        have hC2 := change_R w.heap.size (k : Int) 0 1 w5 _ F5 HK5.out.bag (by omega) (by omega) (by simp; omega) (fun l hl => by have := HK5.out.sml l hl; omega)
        simp only [Hmay2.out, Bool.false_eq_true, if_false] at hC2
        refine hC2.mono ?_
        rintro e w6 ⟨rfl, hT6⟩
        have hK6 := HK5.out.to_ hT6 HK5.out.oto HK5.out.sml
        obtain ⟨F6, hK6, hF6⟩ := hK6
        have s6 := hT6.chg'.size
        have hgF5 : g ∉ F5 := fun h => by
          rcases HF5.out g h with h | h
          · exact (Hdis.out g Hg.out).1 h
          · omega
        have hgF6 : g ∉ F6 := fun h => by
          rcases hF6 g h with h | h
          · exact hgF5 h
          · omega
        have hqF5 : wr.heap.size ∉ F5 := fun h => by
          rcases HF5.out _ h with h | h
          · exact HFq2.out h
          · omega
        have ho6 := owns_chg Ho5.out hT6.chg' (fun y hy => by simp [ob] at hy; subst hy; exact hgF5)
        have hq6 := heap_chg Hq5.out hT6.chg' hqF5
        have HCut : Hid (CutK w w.heap.size w1.heap.size k L t8 bs.length (some ⟨g, 0, none⟩) ic wr.heap.size ba bc w6) := Lib.hid ⟨bs.set p z, true, F6, by simp, ho6, by
          have e : bs.modify p (· ^^^ x) = bs.set p z := by rw [modify_set _ _ _ hpl, Hz.out]
          rw [← e]; exact hK6, fun y hy => by simp [ob] at hy; subst hy; exact ⟨hgF6, (Hdis.out _ Hg.out).2⟩, hq6⟩
        clear hC2 hT6 hK6 hF6 hgF5 hgF6 hqF5 ho6 hq6 HK5 HF5 Ho5 Hq5 HK4 Hq4 Ho4
        go_upto_region 19 with (fail)
        obtain ⟨bs', ch, F', hbl, ho, hK, hd, hq⟩ := HCut.out
        have hbl' : bs'.length ≤ 100 := by omega
        have cq := cells_at hq
        have lq := heap_lt hq
        have hB9 : Below w6.heap.size w6 (w6.alloc (.cells #[.int .u8 (t8.toNat : Int)] 5)) := (Below.refl _ _).alloc (Nat.le_refl _) _
        have hcv1 := conv_str (bs := [t8]) (Sl.of_block (n := 1) (size := 1) (heap_new w6 (.cells #[.int .u8 (t8.toNat : Int)] 5)) rfl (by unfold maxLen; omega))
        have hcv2 := conv_str ((Sl.of_owns ho).below hB9)
        have hsum : ¬ 9223372036854775807 < (strOf [t8]).size + (strOf bs').size := by simp only [strOf_size, List.length_cons, List.length_nil]; omega
        have HK9 := Lib.hid (hK.below hB9)
        obtain ⟨D, hD1, hD2, hD3⟩ := HK9.out.map
        have HD1 := Lib.hid hD1
        have HD2 := Lib.hid hD2
        have HD3 := Lib.hid hD3
        have Hky := Lib.hid (key_cat t8 bs' hbl')
        have hc30 : cnt (t8 :: bs') L ≤ 30 := Nat.le_trans (cnt_le _ _) hL30
        have hs9 := HK9.out.bel.size
        clear ho hK hd hq hB9 hD1 hD2 hD3 hbl HCut
        go_wp2_with (first
          | (at_lookup; refine wpList_lookup_own_int _ rfl _ _ 28 rfl 9 3 .i64 (Go.Maps.string_keyed Try.underlying9) Try.underlying28 Try.underlying3 (zero_int _) w1.heap.size k D rfl HD1.out _ _ rfl Hky.out ?_; intro c hat hwc; have hce := look_eq hat HD3.out; clear hat hwc; subst hce)
          | (at_mapUpdate; refine wpList_mapUpdate_own _ rfl _ _ _ 28 rfl 9 3 (Go.Maps.string_keyed Try.underlying9) Try.underlying28 _ w1.heap.size k D rfl HD1.out (by unfold maxLen; omega) _ _ _ rfl rfl Hky.out (.lit (.int .i64 ((cnt (t8 :: bs') L : Int) + 1))) [] (plainElem_int Try.underlying3 (wf_small (by omega) (by omega))) ?_; intro w7 hown7 hgrow7))
        have hM7 : MapC w7 w1.heap.size (k + 1) (L ++ [⟨(t8.toNat : Int), bs', ch⟩]) := MapC.put HD2.out HD3.out hown7 (by rw [cnt_snoc, lkey_of]; simp) (fun k' hk' => by rw [cnt_snoc, lkey_of, if_neg (fun h => hk' h.symm)]; rfl)
        have hK7 := HK9.out.put hgrow7 hM7
        have HK7 := Lib.hid hK7
        clear hown7 hgrow7 hM7 hK7 hcv1 hcv2 hsum cq
        go_roundw
        case rel => exact ⟨k + 1, by omega, by simp, _, _, by simp [HLk.out], HK7.out⟩
        case measure => simp [intOf]; omega
      · have hbx' : (bits BinOp.and IntKind.u32 (cn / 2 ^ k) 1 == 1) = false ∨ (bits BinOp.and IntKind.u32 (cn / 2 ^ k) 1 == 1) = true ∧ decide (0 < x.toNat) = false := by
          rcases Classical.em (bits BinOp.and IntKind.u32 (cn / 2 ^ k) 1 = 1) with h | h
          · right; exact ⟨by simpa using h, by simpa using fun h' => hbx ⟨h, h'⟩⟩
          · left; simpa using h
        clear hbx
        rcases hbx' with hb | ⟨hb, hx0⟩
        all_goals
          go_upto_region 19 with (fail)
          obtain ⟨bs', ch, F', hbl, ho, hK, hd, hq⟩ := HCut.out
          have hbl' : bs'.length ≤ 100 := by omega
          have cq := cells_at hq
          have lq := heap_lt hq
          have hB9 : Below w3.heap.size w3 (w3.alloc (.cells #[.int .u8 (t8.toNat : Int)] 5)) := (Below.refl _ _).alloc (Nat.le_refl _) _
          have hcv1 := conv_str (bs := [t8]) (Sl.of_block (n := 1) (size := 1) (heap_new w3 (.cells #[.int .u8 (t8.toNat : Int)] 5)) rfl (by unfold maxLen; omega))
          have hcv2 := conv_str ((Sl.of_owns ho).below hB9)
          have hsum : ¬ 9223372036854775807 < (strOf [t8]).size + (strOf bs').size := by simp only [strOf_size, List.length_cons, List.length_nil]; omega
          have HK9 := Lib.hid (hK.below hB9)
          obtain ⟨D, hD1, hD2, hD3⟩ := HK9.out.map
          have HD1 := Lib.hid hD1
          have HD2 := Lib.hid hD2
          have HD3 := Lib.hid hD3
          have Hky := Lib.hid (key_cat t8 bs' hbl')
          have hc30 : cnt (t8 :: bs') L ≤ 30 := Nat.le_trans (cnt_le _ _) hL30
          have hs9 := HK9.out.bel.size
          clear ho hK hd hq hB9 hD1 hD2 hD3 hbl HCut
          go_wp2_with (first
            | (at_lookup; refine wpList_lookup_own_int _ rfl _ _ 28 rfl 9 3 .i64 (Go.Maps.string_keyed Try.underlying9) Try.underlying28 Try.underlying3 (zero_int _) w1.heap.size k D rfl HD1.out _ _ rfl Hky.out ?_; intro c hat hwc; have hce := look_eq hat HD3.out; clear hat hwc; subst hce)
            | (at_mapUpdate; refine wpList_mapUpdate_own _ rfl _ _ _ 28 rfl 9 3 (Go.Maps.string_keyed Try.underlying9) Try.underlying28 _ w1.heap.size k D rfl HD1.out (by unfold maxLen; omega) _ _ _ rfl rfl Hky.out (.lit (.int .i64 ((cnt (t8 :: bs') L : Int) + 1))) [] (plainElem_int Try.underlying3 (wf_small (by omega) (by omega))) ?_; intro w7 hown7 hgrow7))
          have hM7 : MapC w7 w1.heap.size (k + 1) (L ++ [⟨(t8.toNat : Int), bs', ch⟩]) := MapC.put HD2.out HD3.out hown7 (by rw [cnt_snoc, lkey_of]; simp) (fun k' hk' => by rw [cnt_snoc, lkey_of, if_neg (fun h => hk' h.symm)]; rfl)
          have hK7 := HK9.out.put hgrow7 hM7
          have HK7 := Lib.hid hK7
          clear hown7 hgrow7 hM7 hK7 hcv1 hcv2 hsum cq
          go_roundw
          case rel => exact ⟨k + 1, by omega, by simp, _, _, by simp [HLk.out], HK7.out⟩
          case measure => simp [intOf]; omega
    · as_aux_lemma =>
      have hlt' : ¬ (k : Int) < (O.length : Int) := by omega
      have hke : L.length = O.length := by have := HLk.out; omega
      have hL30 : L.length ≤ 30 := by omega
      have hw0 := hP.bel.size
      have hm0 := hP.map.lt
      have HFlt := Lib.hid hP.bag.lt'
      have Hke := Lib.hid hke
      have ⟨wa, hwae⟩ : ∃ wa, wa = wr := ⟨wr, rfl⟩
      subst hwae
      clear hP hke HO HP
      go_wp2_with fail
      refine (all_R w.heap.size _ L F HPl.out.bag (by omega) (fun l hl => by have := HPl.out.sml l hl; omega)).mono ?_
      rintro e w2 ⟨N, na, nc, rfl, hN, hA, hb2⟩
      have hNl : N.length = L.length := by rw [← hN]; simp
      have s2 := hb2.size
      have HN := Lib.hid hN
      have HA := Lib.hid hA
      have HNl := Lib.hid hNl
      have HR2 : Hid (Rel2 w w.heap.size w1.heap.size 30 wa.heap.size w2.heap.size w2 L 0 O.length w2) :=
        Lib.hid ⟨L, F, Hke.out, by have := Hke.out; omega, fun _ _ h => h, (HPl.out.below hb2).more (by omega), ⟨Nat.le_refl _, fun _ _ _ => rfl⟩, fun x hx => .inl (HFlt.out x hx)⟩
      clear hN hA hNl hb2
      go_wp2_with fail
      go_loopw [19, 107] (fun s19 s107 wv => ∃ j m : Nat, j ≤ L.length ∧ s107 = .int .i64 j ∧ s19 = .int .i64 m ∧ m ≤ L.length + j ∧ Rel2 w w.heap.size w1.heap.size 30 wa.heap.size w2.heap.size w2 L j m wv) (fun _ s107 _ => L.length - (intOf s107).toNat)
      case atStart => exact ⟨0, O.length, Nat.zero_le _, rfl, rfl, by have := Hke.out; omega, HR2.out⟩
      case round =>
        obtain ⟨j, m, hj, rfl, rfl, hmj, L2, F2, hL2, _, hpre, hK2, hM2, hF2⟩ := hrel
        have HK2 := Lib.hid hK2
        have HM2 := Lib.hid hM2
        have HF2 := Lib.hid hF2
        have HL2 := Lib.hid hL2
        have Hpre := Lib.hid hpre
        have hws := hK2.bel.size
        have hmb := hK2.map.lt
        have hS2 := hM2.1
        clear hK2 hM2 hF2 hL2 hpre HR2
        by_cases hjl : j < L.length
        · as_aux_lemma =>
          have hjl' : (j : Int) < (L.length : Int) := by omega
          have hjo' : (j : Int) < (O.length : Int) := by have := Hke.out; omega
          have hx : ∃ y, N[j]? = some y := ⟨N[j]'(by have := HNl.out; omega), by simp⟩
          obtain ⟨⟨⟨ty, bs, cy⟩, ya, yc⟩, hy⟩ := hx
          have hAv := HA.out.mid HM2.out (Nat.le_refl _)
          obtain ⟨gn, rfl, f0, f1⟩ := all_cells hAv hy
          dsimp only at f0 f1
          have Hy := Lib.hid (List.mem_of_getElem? hy)
          have hLj : L[j]? = some ⟨ty, bs, cy⟩ := by rw [← HN.out, List.getElem?_map, hy]; rfl
          have hty := HPl.out.oto _ (List.mem_of_getElem? hLj)
          have hbl : bs.length ≤ 100 := HPl.out.sml _ (List.mem_of_getElem? hLj)
          dsimp only at hty
          obtain ⟨t8, rfl⟩ := hty
          have HLj := Lib.hid hLj
          clear hAv hy hLj
          go_upto_region 25 with (fail)
          generalize hW3 : wr.alloc (.cells #[.int .u8 (t8.toNat : Int), .slice ya bs.length yc] 30) = W3
          have hB3 : Below wr.heap.size wr W3 := by rw [← hW3]; exact (Below.refl _ _).alloc (Nat.le_refl _) _
          have sW3 : wr.heap.size + 1 ≤ W3.heap.size := by rw [← hW3]; simp
          have hq3 : W3.heap[wr.heap.size]? = some (.cells #[.int .u8 (t8.toNat : Int), .slice ya bs.length yc] 30 (0, 0)) := by rw [← hW3]; exact heap_new _ _
          have HK3 := Lib.hid (HK2.out.below hB3)
          have HM3 := Lib.hid (HM2.out.chg (Chg.of_below (F := []) hB3) (by simp))
          have Hq3 := Lib.hid hq3
          have hFq := Lib.hid (fun h => by have := HK2.out.bag.lt' _ h; omega : wr.heap.size ∉ F2)
          clear hW3 hB3 hq3 f0 f1
          by_cases hbit : (bits BinOp.and IntKind.u32 (dn / 2 ^ j) 1 == 1) = true
          · go_wp2_with fail
            have hC := double_R w.heap.size j W3 L2 F2 ⟨(t8.toNat : Int), bs, cy⟩ HK3.out.bag (Hpre.out j _ HLj.out) (by have := HL2.out; omega) (by show bs.length ≤ _; omega)
            have HC := Lib.hid hC
            clear hC
            refine HC.out.mono ?_
            rintro e w4 ⟨rfl, hT4⟩
            have hK4 := HK3.out.to_ hT4 (HK3.out.oto.snoc _ _ _) (fun l hl => by
              rw [List.mem_append, List.mem_singleton] at hl
              rcases hl with hl | rfl
              · exact HK3.out.sml l hl
              · exact hbl)
            obtain ⟨F4, hK4, hF4⟩ := hK4
            have s4 := hT4.chg'.size
            have hM4 := HM3.out.chg hT4.chg' HF2.out
            have hsl4 := Sl.of_owns ((HA.out.mid hM4 (Nat.le_refl _)).bytes _ Hy.out)
            dsimp only at hsl4
            have hq := heap_chg Hq3.out hT4.chg' hFq.out
            have cq := cells_at hq
            have lq := heap_lt hq
            have hB9 : Below w4.heap.size w4 (w4.alloc (.cells #[.int .u8 (t8.toNat : Int)] 5)) := (Below.refl _ _).alloc (Nat.le_refl _) _
            have hcv1 := conv_str (bs := [t8]) (Sl.of_block (n := 1) (size := 1) (heap_new w4 (.cells #[.int .u8 (t8.toNat : Int)] 5)) rfl (by unfold maxLen; omega))
            have hcv2 := conv_str (hsl4.below hB9)
            have hsum : ¬ 9223372036854775807 < (strOf [t8]).size + (strOf bs).size := by simp only [strOf_size, List.length_cons, List.length_nil]; omega
            have HK9 := Lib.hid (hK4.below hB9)
            have HM9 := Lib.hid (hM4.chg (Chg.of_below (F := []) hB9) (by simp))
            have HF4 := Lib.hid hF4
            obtain ⟨D, hD1, hD2, hD3⟩ := HK9.out.map
            have HD1 := Lib.hid hD1
            have HD2 := Lib.hid hD2
            have HD3 := Lib.hid hD3
            have Hky := Lib.hid (key_cat t8 bs hbl)
            have hc60 : cnt (t8 :: bs) L2 ≤ 60 := Nat.le_trans (cnt_le _ _) (by have := HL2.out; omega)
            have hs9 := HK9.out.bel.size
            clear hT4 hK4 hF4 hM4 hsl4 hq hB9 hD1 hD2 hD3
            go_wp2_with (first
              | (at_lookup; refine wpList_lookup_own_int _ rfl _ _ 28 rfl 9 3 .i64 (Go.Maps.string_keyed Try.underlying9) Try.underlying28 Try.underlying3 (zero_int _) w1.heap.size (30 + j) D rfl HD1.out _ _ rfl Hky.out ?_; intro c hat hwc; have hce := look_eq hat HD3.out; clear hat hwc; subst hce)
              | (at_mapUpdate; refine wpList_mapUpdate_own _ rfl _ _ _ 28 rfl 9 3 (Go.Maps.string_keyed Try.underlying9) Try.underlying28 _ w1.heap.size (30 + j) D rfl HD1.out (by unfold maxLen; omega) _ _ _ rfl rfl Hky.out (.lit (.int .i64 ((cnt (t8 :: bs) L2 : Int) + 1))) [] (plainElem_int Try.underlying3 (wf_small (by omega) (by omega))) ?_; intro w7 hown7 hgrow7))
            have hMC : MapC w7 w1.heap.size (30 + (j + 1)) (L2 ++ [⟨(t8.toNat : Int), bs, cy⟩]) := MapC.put HD2.out HD3.out hown7 (by rw [cnt_snoc, lkey_of]; simp) (fun k' hk' => by rw [cnt_snoc, lkey_of, if_neg (fun h => hk' h.symm)]; rfl)
            have HR7 : Hid (Rel2 w w.heap.size w1.heap.size 30 wa.heap.size w2.heap.size w2 L (j + 1) (m + 1) w7) :=
              Lib.hid ⟨_, F4, by simp [HL2.out], by omega, fun i l h => by
                have h1 := Hpre.out i l h
                rw [List.getElem?_append_left ((List.getElem?_eq_some_iff.1 h1).1)]; exact h1, HK9.out.put hgrow7 hMC,
                HM9.out.chg (Chg.grown hgrow7) (fun q hq => by simp at hq; subst hq; left; omega), fun q hq => by
                  rcases HF4.out q hq with h | h
                  · exact HF2.out q h
                  · right; omega⟩
            clear hown7 hgrow7 hMC hcv1 hcv2 hsum cq
            go_roundw
            case rel => exact ⟨j + 1, m + 1, by omega, by simp, by simp, by omega, HR7.out⟩
            case measure => simp [intOf]; omega
          · have hbit' : (bits BinOp.and IntKind.u32 (dn / 2 ^ j) 1 == 1) = false := by simpa using hbit
            clear hbit
            have HR7 : Hid (Rel2 w w.heap.size w1.heap.size 30 wa.heap.size w2.heap.size w2 L (j + 1) m W3) :=
              Lib.hid ⟨L2, F2, HL2.out, by omega, Hpre.out, HK3.out.more (by omega), HM3.out, HF2.out⟩
            go_wp2_with fail
            go_roundw
            case rel => exact ⟨j + 1, m, by omega, by simp, rfl, by omega, HR7.out⟩
            case measure => simp [intOf]; omega
        · as_aux_lemma =>
          have hjl' : ¬ (j : Int) < (L.length : Int) := by omega
          have hm60 : m ≤ 60 := by omega
          have HS9 := Lib.hid (HS.out.below HK2.out.bel)
          clear HPl HA HM2 HF2 Hpre HN HNl HFlt
          have ⟨wb, hwbe⟩ : ∃ wb, wb = wr := ⟨wr, rfl⟩
          subst hwbe
          go_wp2_with fail
          go_loopw [142] (fun s142 wv => ∃ n : Nat, n ≤ m ∧ s142 = .int .i64 n ∧ ∃ L3 F3, L3.length = m - n ∧ Kp w wv w.heap.size w1.heap.size (100 + n) L3 L3 F3) (fun s142 _ => m - (intOf s142).toNat)
          case atStart => exact ⟨0, Nat.zero_le _, rfl, L2, F2, by simp [HL2.out], HK2.out.more (by omega)⟩
          case round =>
            obtain ⟨n, hn, rfl, L3, F3, hL3, hK3⟩ := hrel
            have HK3 := Lib.hid hK3
            have HL3 := Lib.hid hL3
            have hws3 := hK3.bel.size
            have hmb3 := hK3.map.lt
            clear hK3 hL3
            by_cases hnm : n < m
            · as_aux_lemma =>
              have hnm' : (n : Int) < (m : Int) := by omega
              have hl3 : 0 < L3.length := by have := HL3.out; omega
              have hl60 : L3.length ≤ 60 := by have := HL3.out; omega
              by_cases hos : 0 < os.length
              · as_aux_lemma =>
                have hos' : (0 : Int) < (os.length : Int) := by omega
                have hos2 : (os.length : Int) ≤ 9223372036854775807 := by have := HS.out.2.1; have := HS.out.2.2.1; unfold maxLen at *; omega
                have hp : ∃ p : Nat, p < os.length ∧ ((n : Int) % (os.length : Int)) = (p : Int) := ⟨n % os.length, Nat.mod_lt _ (by omega), by simp⟩
                obtain ⟨p, hpl, hpe⟩ := hp
                have hpl' : (p : Int) < (os.length : Int) := by omega
                have hi : ∃ i : Nat, i < L3.length ∧ ((os[p].toNat : Int) % (L3.length : Int)) = (i : Int) := ⟨os[p].toNat % L3.length, Nat.mod_lt _ (by omega), by simp⟩
                obtain ⟨i, hil, hie⟩ := hi
                have hsl := HS.out.below HK3.out.bel
                obtain ⟨_, _, _, ⟨_, h0, _⟩ | ⟨ad, rfl, hcells⟩⟩ := hsl
                · omega
                have cs := hcells p _ (u8s_at hpl)
                have hbt := os[p].toNat_lt
                clear hcells
                go_upto_region 36 with (fail)
                refine region_text [([0, 1, 2, 3, 4, 5, 6, 7, 8], false), ([9], true), ([10, 11], false)] mixed (by kernel_rfl) ?_
                simp only [wpSegs, List.map_cons, List.map_nil, List.getD_cons_succ, List.getD_cons_zero]
                go_wp2_with fail
                refine (len_R w.heap.size _ L3 F3 HK3.out.bag.drew).mono ?_
                rintro e w8 ⟨rfl, rfl⟩
                go_wp2_with fail
                refine And.intro (Agree.refl _) ?_
                go_wp2_with fail
                refine And.intro (by kernel_rfl) ?_
                rw [hie]
                have HKx := Lib.hid (HK3.out.chg (Chg.drew [] wr) (by simp))
                clear cs hpe hie
                have hl : ∃ l, L3[i]? = some l := ⟨L3[i]'(by omega), by simp⟩
                obtain ⟨⟨ty, bs, cy⟩, hl⟩ := hl
                have hty := HKx.out.oto _ (List.mem_of_getElem? hl)
                have hbl : bs.length ≤ 100 := HKx.out.sml _ (List.mem_of_getElem? hl)
                dsimp only at hty
                obtain ⟨t8, rfl⟩ := hty
                have Hl := Lib.hid hl
                clear hl
                go_wp2_with fail
                refine (take_R w.heap.size i _ L3 F3 _ HKx.out.bag Hl.out (by omega)).mono ?_
                rintro e w4 ⟨xa, xc, F4, rfl, hB4, hF4, hxa, hxo, hC4⟩
                have hT4 : BagTo _ w.heap.size F3 (L3.eraseIdx i) w4 := ⟨F4, hB4, fun x hx => .inl (hF4 x hx), hC4⟩
                have hK4 := HKx.out.to_ hT4 (fun l hl => HKx.out.oto l (List.mem_of_mem_eraseIdx hl)) (fun l hl => HKx.out.sml l (List.mem_of_mem_eraseIdx hl))
                obtain ⟨F5, hK4, _⟩ := hK4
                have Hxm := Lib.hid (fun x hx h => HKx.out.mF (h ▸ (hxa x hx).1) : ∀ x ∈ ob xa, x ≠ w1.heap.size)
                have HK4 := Lib.hid hK4
                have Hxo := Lib.hid (Sl.of_owns hxo)
                have s4 := hC4.size
                have hmb4 := hK4.map.lt
                have hw4 := hK4.bel.size
                clear hT4 hK4 hB4 hF4 hxa hxo hC4
                dsimp only
                go_upto_region 38 with (fail)
                generalize hW5 : w4.alloc (.cells #[.int .u8 (t8.toNat : Int), .slice xa bs.length xc] 30) = W5
                have hB5 : Below w4.heap.size w4 W5 := by rw [← hW5]; exact (Below.refl _ _).alloc (Nat.le_refl _) _
                have sW5 : w4.heap.size + 1 ≤ W5.heap.size := by rw [← hW5]; simp
                have hq5 : W5.heap[w4.heap.size]? = some (.cells #[.int .u8 (t8.toNat : Int), .slice xa bs.length xc] 30 (0, 0)) := by rw [← hW5]; exact heap_new _ _
                have cq5 := cells_at hq5
                have lq5 := heap_lt hq5
                have hB9 : Below W5.heap.size W5 (W5.alloc (.cells #[.int .u8 (t8.toNat : Int)] 5)) := (Below.refl _ _).alloc (Nat.le_refl _) _
                have hcv1 := conv_str (bs := [t8]) (Sl.of_block (n := 1) (size := 1) (heap_new W5 (.cells #[.int .u8 (t8.toNat : Int)] 5)) rfl (by unfold maxLen; omega))
                have Hxo9 := Lib.hid ((Hxo.out.below hB5).below hB9)
                have hcv2 := conv_str Hxo9.out
                have hsum : ¬ 9223372036854775807 < (strOf [t8]).size + (strOf bs).size := by simp only [strOf_size, List.length_cons, List.length_nil]; omega
                have HK9 := Lib.hid ((HK4.out.below hB5).below hB9)
                have Hq9 := Lib.hid (heap_chg hq5 (Chg.of_below (F := []) hB9) (by simp))
                obtain ⟨D, hD1, hD2, hD3⟩ := HK9.out.map
                have HD1 := Lib.hid hD1
                have HD2 := Lib.hid hD2
                have HD3 := Lib.hid hD3
                have Hky := Lib.hid (key_cat t8 bs hbl)
                have hc60 : cnt (t8 :: bs) L3 ≤ 60 := Nat.le_trans (cnt_le _ _) (by omega)
                have hce1 := cnt_erase (t8 :: bs) L3 i _ Hl.out
                rw [lkey_of, if_pos rfl] at hce1
                have hcge : (cnt (t8 :: bs) (L3.eraseIdx i) : Int) = (cnt (t8 :: bs) L3 : Int) - 1 := by omega
                have hc1 : 1 ≤ cnt (t8 :: bs) L3 := by omega
                have Hcge := Lib.hid hcge
                have Hce1 := Lib.hid hce1
                have hs9 := HK9.out.bel.size
                clear hq5 hB9 hB5 hW5 hD1 hD2 hD3 hce1 hcge
                go_upto_region 39 with (first
                  | (at_lookup; refine wpList_lookup_own_int _ rfl _ _ 28 rfl 9 3 .i64 (Go.Maps.string_keyed Try.underlying9) Try.underlying28 Try.underlying3 (zero_int _) w1.heap.size (100 + n) D rfl HD1.out _ _ rfl Hky.out ?_; intro c hat hwc; have hce := look_eq hat HD3.out; clear hat hwc; subst hce)
                  | (at_mapUpdate; refine wpList_mapUpdate_own _ rfl _ _ _ 28 rfl 9 3 (Go.Maps.string_keyed Try.underlying9) Try.underlying28 _ w1.heap.size (100 + n) D rfl HD1.out (by unfold maxLen; omega) _ _ _ rfl rfl Hky.out (.lit (.int .i64 ((cnt (t8 :: bs) L3 : Int) - 1))) [] (plainElem_int Try.underlying3 (wf_small (by omega) (by omega))) ?_; intro w7 hown7 hgrow7))
                go_frame
                have hMC : MapC w7 w1.heap.size (100 + (n + 1)) (L3.eraseIdx i) := MapC.put HD2.out HD3.out hown7 Hcge.out.symm (fun k' hk' => by
                  have h := cnt_erase k' L3 i _ Hl.out
                  rw [lkey_of, if_neg (fun h => hk' h.symm)] at h
                  omega)
                have HK7 := Lib.hid (HK9.out.put hgrow7 hMC)
                have hsl7 := Hxo9.out.chg (Chg.grown hgrow7) (fun x hx he => by simp at he; exact Hxm.out x hx he)
                have hq7 := heap_chg Hq9.out (Chg.grown hgrow7) (by simp; omega)
                have cq7 := cells_at hq7
                have lq7 := heap_lt hq7
                have hB10 : Below w7.heap.size w7 (w7.alloc (.cells #[.int .u8 (t8.toNat : Int)] 5)) := (Below.refl _ _).alloc (Nat.le_refl _) _
                have hcv3 := conv_str (bs := [t8]) (Sl.of_block (n := 1) (size := 1) (heap_new w7 (.cells #[.int .u8 (t8.toNat : Int)] 5)) rfl (by unfold maxLen; omega))
                have hcv4 := conv_str (hsl7.below hB10)
                have HK10 := Lib.hid (HK7.out.below hB10)
                obtain ⟨D2, hD4, hD5, hD6⟩ := HK10.out.map
                have HD4 := Lib.hid hD4
                have HD6 := Lib.hid hD6
                clear hown7 hgrow7 hMC hcv1 hcv2 cq5 hsl7 hq7 hB10 hD4 hD5 hD6
                have hlk := HD4.out.lookup_int (t := 28) (Go.Maps.string_keyed Try.underlying9) Try.underlying28 Try.underlying3 (zero_int _) Hky.out
                obtain ⟨c, hlk, hat, _⟩ := hlk
                have hce := look_eq hat HD6.out
                subst hce
                clear hat
                go_wp2_with fail
                clear hcv3 hcv4 cq7 hsum hlk
                go_roundw
                case rel => exact ⟨n + 1, by omega, by simp, _, _, by rw [List.length_eraseIdx_of_lt (by omega)]; have := HL3.out; omega, HK10.out⟩
                case measure => simp [intOf]; omega
              · as_aux_lemma =>
                have hos' : ¬ (0 : Int) < (os.length : Int) := by omega
                have HKx := HK3
                go_upto_region 37 with (fail)
                have hl : ∃ l, L3[0]? = some l := ⟨L3[0]'(by omega), by simp⟩
                obtain ⟨⟨ty, bs, cy⟩, hl⟩ := hl
                have hty := HKx.out.oto _ (List.mem_of_getElem? hl)
                have hbl : bs.length ≤ 100 := HKx.out.sml _ (List.mem_of_getElem? hl)
                dsimp only at hty
                obtain ⟨t8, rfl⟩ := hty
                have Hl := Lib.hid hl
                clear hl
                go_wp2_with fail
                refine (take_R w.heap.size 0 _ L3 F3 _ HKx.out.bag Hl.out (by omega)).mono ?_
                rintro e w4 ⟨xa, xc, F4, rfl, hB4, hF4, hxa, hxo, hC4⟩
                have hT4 : BagTo _ w.heap.size F3 (L3.eraseIdx 0) w4 := ⟨F4, hB4, fun x hx => .inl (hF4 x hx), hC4⟩
                have hK4 := HKx.out.to_ hT4 (fun l hl => HKx.out.oto l (List.mem_of_mem_eraseIdx hl)) (fun l hl => HKx.out.sml l (List.mem_of_mem_eraseIdx hl))
                obtain ⟨F5, hK4, _⟩ := hK4
                have Hxm := Lib.hid (fun x hx h => HKx.out.mF (h ▸ (hxa x hx).1) : ∀ x ∈ ob xa, x ≠ w1.heap.size)
                have HK4 := Lib.hid hK4
                have Hxo := Lib.hid (Sl.of_owns hxo)
                have s4 := hC4.size
                have hmb4 := hK4.map.lt
                have hw4 := hK4.bel.size
                clear hT4 hK4 hB4 hF4 hxa hxo hC4
                dsimp only
                go_upto_region 38 with (fail)
                generalize hW5 : w4.alloc (.cells #[.int .u8 (t8.toNat : Int), .slice xa bs.length xc] 30) = W5
                have hB5 : Below w4.heap.size w4 W5 := by rw [← hW5]; exact (Below.refl _ _).alloc (Nat.le_refl _) _
                have sW5 : w4.heap.size + 1 ≤ W5.heap.size := by rw [← hW5]; simp
                have hq5 : W5.heap[w4.heap.size]? = some (.cells #[.int .u8 (t8.toNat : Int), .slice xa bs.length xc] 30 (0, 0)) := by rw [← hW5]; exact heap_new _ _
                have cq5 := cells_at hq5
                have lq5 := heap_lt hq5
                have hB9 : Below W5.heap.size W5 (W5.alloc (.cells #[.int .u8 (t8.toNat : Int)] 5)) := (Below.refl _ _).alloc (Nat.le_refl _) _
                have hcv1 := conv_str (bs := [t8]) (Sl.of_block (n := 1) (size := 1) (heap_new W5 (.cells #[.int .u8 (t8.toNat : Int)] 5)) rfl (by unfold maxLen; omega))
                have Hxo9 := Lib.hid ((Hxo.out.below hB5).below hB9)
                have hcv2 := conv_str Hxo9.out
                have hsum : ¬ 9223372036854775807 < (strOf [t8]).size + (strOf bs).size := by simp only [strOf_size, List.length_cons, List.length_nil]; omega
                have HK9 := Lib.hid ((HK4.out.below hB5).below hB9)
                have Hq9 := Lib.hid (heap_chg hq5 (Chg.of_below (F := []) hB9) (by simp))
                obtain ⟨D, hD1, hD2, hD3⟩ := HK9.out.map
                have HD1 := Lib.hid hD1
                have HD2 := Lib.hid hD2
                have HD3 := Lib.hid hD3
                have Hky := Lib.hid (key_cat t8 bs hbl)
                have hc60 : cnt (t8 :: bs) L3 ≤ 60 := Nat.le_trans (cnt_le _ _) (by omega)
                have hce1 := cnt_erase (t8 :: bs) L3 0 _ Hl.out
                rw [lkey_of, if_pos rfl] at hce1
                have hcge : (cnt (t8 :: bs) (L3.eraseIdx 0) : Int) = (cnt (t8 :: bs) L3 : Int) - 1 := by omega
                have hc1 : 1 ≤ cnt (t8 :: bs) L3 := by omega
                have Hcge := Lib.hid hcge
                have Hce1 := Lib.hid hce1
                have hs9 := HK9.out.bel.size
                clear hq5 hB9 hB5 hW5 hD1 hD2 hD3 hce1 hcge
                go_upto_region 39 with (first
                  | (at_lookup; refine wpList_lookup_own_int _ rfl _ _ 28 rfl 9 3 .i64 (Go.Maps.string_keyed Try.underlying9) Try.underlying28 Try.underlying3 (zero_int _) w1.heap.size (100 + n) D rfl HD1.out _ _ rfl Hky.out ?_; intro c hat hwc; have hce := look_eq hat HD3.out; clear hat hwc; subst hce)
                  | (at_mapUpdate; refine wpList_mapUpdate_own _ rfl _ _ _ 28 rfl 9 3 (Go.Maps.string_keyed Try.underlying9) Try.underlying28 _ w1.heap.size (100 + n) D rfl HD1.out (by unfold maxLen; omega) _ _ _ rfl rfl Hky.out (.lit (.int .i64 ((cnt (t8 :: bs) L3 : Int) - 1))) [] (plainElem_int Try.underlying3 (wf_small (by omega) (by omega))) ?_; intro w7 hown7 hgrow7))
                go_frame
                have hMC : MapC w7 w1.heap.size (100 + (n + 1)) (L3.eraseIdx 0) := MapC.put HD2.out HD3.out hown7 Hcge.out.symm (fun k' hk' => by
                  have h := cnt_erase k' L3 0 _ Hl.out
                  rw [lkey_of, if_neg (fun h => hk' h.symm)] at h
                  omega)
                have HK7 := Lib.hid (HK9.out.put hgrow7 hMC)
                have hsl7 := Hxo9.out.chg (Chg.grown hgrow7) (fun x hx he => by simp at he; exact Hxm.out x hx he)
                have hq7 := heap_chg Hq9.out (Chg.grown hgrow7) (by simp; omega)
                have cq7 := cells_at hq7
                have lq7 := heap_lt hq7
                have hB10 : Below w7.heap.size w7 (w7.alloc (.cells #[.int .u8 (t8.toNat : Int)] 5)) := (Below.refl _ _).alloc (Nat.le_refl _) _
                have hcv3 := conv_str (bs := [t8]) (Sl.of_block (n := 1) (size := 1) (heap_new w7 (.cells #[.int .u8 (t8.toNat : Int)] 5)) rfl (by unfold maxLen; omega))
                have hcv4 := conv_str (hsl7.below hB10)
                have HK10 := Lib.hid (HK7.out.below hB10)
                obtain ⟨D2, hD4, hD5, hD6⟩ := HK10.out.map
                have HD4 := Lib.hid hD4
                have HD6 := Lib.hid hD6
                clear hown7 hgrow7 hMC hcv1 hcv2 cq5 hsl7 hq7 hB10 hD4 hD5 hD6
                have hlk := HD4.out.lookup_int (t := 28) (Go.Maps.string_keyed Try.underlying9) Try.underlying28 Try.underlying3 (zero_int _) Hky.out
                obtain ⟨c, hlk, hat, _⟩ := hlk
                have hce := look_eq hat HD6.out
                subst hce
                clear hat
                go_wp2_with fail
                clear hcv3 hcv4 cq7 hsum hlk
                go_roundw
                case rel => exact ⟨n + 1, by omega, by simp, _, _, by rw [List.length_eraseIdx_of_lt (by omega)]; have := HL3.out; omega, HK10.out⟩
                case measure => simp [intOf]; omega
            · have hnm' : ¬ (n : Int) < (m : Int) := by omega
              have hz : L3 = [] := List.eq_nil_of_length_eq_zero (by have := HL3.out; omega)
              subst hz
              go_wp2_with fail
              refine (len_R w.heap.size _ [] F3 HK3.out.bag).mono ?_
              rintro e w8 ⟨rfl, rfl⟩
              go_wp2_with fail
              refine (known_any _).mono ?_
              rintro e w5 ⟨rfl, hb5⟩
              go_wp2_with fail
              go_ret
              exact ⟨rfl, HK3.out.bel.trans (hb5.mono (HK3.out.bel.size))⟩
end Go.Proofs.Ytkgbdgnfidpelaa
