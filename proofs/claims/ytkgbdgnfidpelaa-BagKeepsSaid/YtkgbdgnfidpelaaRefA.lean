/- The reference's bag in memory; add, Put, is, Copy. -/
import Derived.Test.YtkgbdgnfidpelaaBagJ
import Derived.Test.YtkgbdgnfidpelaaMemC
namespace Go.Proofs.Ytkgbdgnfidpelaa
open Go.RowKit
set_option linter.unusedVariables false
set_option linter.unusedSimpArgs false

theorem Try.info_string : (Try.prog.info? 9).map (fun i => (i.zero, i.size, i.bytes)) = some (some (.string ⟨#[]⟩), 1, 16) := by kernel_rfl
theorem Try.info_bool : (Try.prog.info? 4).map (fun i => (i.zero, i.size, i.bytes)) = some (some (.bool false), 1, 1) := by kernel_rfl

def tcells (L : List Lt) : List Value := L.map fun l => .int .u8 l.t
def bcells (L : List Lt) : List Value := L.map fun l => .string (strOf l.b)
def ccells (L : List Lt) : List Value := L.map fun l => .bool l.ch
theorem tcells_one (L : List Lt) : ∀ u ∈ tcells L, u.oneCell' = true := by intro u hu; obtain ⟨b, _, rfl⟩ := List.mem_map.1 hu; rfl
theorem bcells_one (L : List Lt) : ∀ u ∈ bcells L, u.oneCell' = true := by intro u hu; obtain ⟨b, _, rfl⟩ := List.mem_map.1 hu; rfl
theorem ccells_one (L : List Lt) : ∀ u ∈ ccells L, u.oneCell' = true := by intro u hu; obtain ⟨b, _, rfl⟩ := List.mem_map.1 hu; rfl

structure RefAt (w : World) (pr : Nat) (L : List Lt) (ta : Option Addr) (tc : Nat) (ba : Option Addr) (bc : Nat) (wa : Option Addr) (wc : Nat) : Prop where
  blk : w.heap[pr]? = some (.cells #[.slice ta L.length tc, .slice ba L.length bc, .slice wa L.length wc] 44 (0, 0))
  t : w.ownsRow 0 5 1 (.slice ta L.length tc) L.length (tcells L)
  b : w.ownsRow 0 9 1 (.slice ba L.length bc) L.length (bcells L)
  c : w.ownsRow 0 4 1 (.slice wa L.length wc) L.length (ccells L)
/-- the reference's bag holds L; in the blocks F -/
def RefR (w : World) (pr : Nat) (L : List Lt) (F : List Nat) : Prop := ∃ ta tc ba bc wa wc, RefAt w pr L ta tc ba bc wa wc ∧ F = pr :: (ob ta ++ ob ba ++ ob wa)
theorem RefR.chg {F G : List Nat} {w w' : World} {pr : Nat} {L : List Lt} (h : RefR w pr L F) (hc : Chg G w w') (hd : ∀ k ∈ F, k ∉ G) : RefR w' pr L F := by
  obtain ⟨ta, tc, ba, bc, wa, wc, h1, rfl⟩ := h
  exact ⟨ta, tc, ba, bc, wa, wc, ⟨heap_chg h1.blk hc (hd _ (by simp)), owns_chg h1.t hc fun k hk => hd k (by simp [hk]), owns_chg h1.b hc fun k hk => hd k (by simp [hk]), owns_chg h1.c hc fun k hk => hd k (by simp [hk])⟩, rfl⟩
theorem RefR.lt {F : List Nat} {w : World} {pr : Nat} {L : List Lt} (h : RefR w pr L F) : ∀ k ∈ F, k < w.heap.size := by
  obtain ⟨ta, tc, ba, bc, wa, wc, h1, rfl⟩ := h
  intro k hk
  simp at hk
  rcases hk with rfl | hk | hk | hk
  · exact heap_lt h1.blk
  · exact (owns_lt h1.t k hk).2
  · exact (owns_lt h1.b k hk).2
  · exact (owns_lt h1.c k hk).2
/-- behind a call of the reference's -/
def RefTo (w : World) (pr : Nat) (F : List Nat) (L : List Lt) (w' : World) : Prop := ∃ F', RefR w' pr L F' ∧ (∀ k ∈ F', k ∈ F ∨ w.heap.size ≤ k) ∧ Chg [pr] w w'

theorem is_ref (pr : Nat) (x y z : Value) (n c : Nat) (ba : Option Addr) (i : Int) (w : World) (h : w.heap[pr]? = some (.cells #[x, .slice ba n c, z] 44 (0, 0))) :
    Calls Try.prog 29 #[.pointer (some ⟨pr, 0, none⟩), .int .i64 i] w fun e w' => e = .returned (.bool (decide (0 ≤ i ∧ i < n))) ∧ w = w' := by
  have cc := cells_at h
  clear h
  by_cases h0 : 0 ≤ i
  · by_cases h1 : i < (n : Int)
    · go_enter Try.func29, Try.ntmps29
      go_wp2_with fail
      go_ret
      exact ⟨by simp [h0, h1], rfl⟩
    · go_enter Try.func29, Try.ntmps29
      go_wp2_with fail
      go_ret
      exact ⟨by simp [h1], rfl⟩
  · go_enter Try.func29, Try.ntmps29
    go_wp2_with fail
    go_ret
    exact ⟨by simp; omega, rfl⟩

theorem block_ne {w : World} {pr : Nat} {C : Array Value} {T e : TypeId} {a : Option Addr} {n c m : Nat} {xs : List Value} {size : Nat} (hb : w.heap[pr]? = some (.cells C T (0, 0))) (h : w.ownsRow 0 e size (.slice a n c) m xs) (hne : e ≠ T) : ∀ k ∈ ob a, k ≠ pr := by
  intro k hk hkp
  rcases h.2 with ⟨h', _⟩ | ⟨g', cap', cur', h', _, hg', _⟩
  · simp at h'; rw [h'.1] at hk; simp [ob] at hk
  · simp at h'; rw [h'.1] at hk; simp [ob] at hk
    rw [← hk, hkp, hb] at hg'; simp at hg'; exact hne hg'.2.symm
theorem notpr {w : World} {pr : Nat} {L : List Lt} {ta : Option Addr} {tc : Nat} {ba : Option Addr} {bc : Nat} {wa : Option Addr} {wc : Nat} (h : RefAt w pr L ta tc ba bc wa wc) : (∀ k ∈ ob ta, k ≠ pr) ∧ (∀ k ∈ ob ba, k ≠ pr) ∧ (∀ k ∈ ob wa, k ≠ pr) :=
  ⟨block_ne h.blk h.t (by decide), block_ne h.blk h.b (by decide), block_ne h.blk h.c (by decide)⟩

/-- behind two appends of one's own: nothing old has changed -/
theorem piece {W w1 w2 : World} {o0 o1 : Obj} {a1 a2 : Option Addr} (hc1 : Chg (ob (some ⟨W.heap.size, 0, none⟩)) (W.alloc o0) w1) (hl1 : ∀ k ∈ ob a1, k ∈ ob (some ⟨W.heap.size, 0, none⟩) ∨ W.heap.size + 1 ≤ k)
    (hc2 : Chg (ob a1) (w1.alloc o1) w2) (hl2 : ∀ k ∈ ob a2, k ∈ ob a1 ∨ w1.heap.size + 1 ≤ k) : Below W.heap.size W w2 ∧ (∀ k ∈ ob a2, W.heap.size ≤ k) := by
  have s1 := hc1.size
  simp at s1
  have h1 : ∀ k ∈ ob a1, W.heap.size ≤ k := fun k hk => by rcases hl1 k hk with h | h; simp [ob] at h; omega; omega
  refine ⟨?_, fun k hk => by rcases hl2 k hk with h | h; exact h1 k h; omega⟩
  have b1 : Below W.heap.size W w1 := ((Below.refl _ _).alloc (Nat.le_refl _) _).trans (hc1.below (by simp) (by simp [ob]))
  exact (b1.alloc (by omega) _).trans (hc2.below (by simp; omega) h1)

set_option maxHeartbeats 2000000 in
theorem add_any (pr : Nat) (t8 : Int) (bs : List UInt8) (ch : Bool) (L : List Lt) (F : List Nat) (w : World) (h : RefR w pr L F) (hm : L.length ≤ 1000000) :
    Calls Try.prog 28 #[.pointer (some ⟨pr, 0, none⟩), .int .u8 t8, .string (strOf bs), .bool ch] w fun e w' => e = .returned (.tuple #[]) ∧ RefTo w pr F (L ++ [⟨t8, bs, ch⟩]) w' := by
  obtain ⟨i0, hi0, hz0, hz1, hz2⟩ := info_parts Try.info_u8
  obtain ⟨j0, hj0, hy0, hy1, hy2⟩ := info_parts Try.info_string
  obtain ⟨k0, hk0, hx0, hx1, hx2⟩ := info_parts Try.info_bool
  obtain ⟨ta, tc, ba, bc, wa, wc, hR, rfl⟩ := h
  have lp := heap_lt hR.blk
  have cc := cells_at hR.blk
  have HR := Lib.hid hR
  clear hR
  go_enter Try.func28, Try.ntmps28
  go_wp2_with (at_builtin; go_must (refine wpList_append_sl rfl _ _ 24 rfl w.heap.size 5 i0 (.int .u8 0) 1 1 Try.underlying24 hi0 hz0 hz1 hz2 rfl (by decide) _ 0 0 [] rfl (World.ownsRow_made w #[] 0 (Nat.le_refl _) (by decide) rfl) ta L.length tc (tcells L) rfl ((Sl.of_owns HR.out.t).below ((Below.refl _ _).alloc (Nat.le_refl _) _)) (tcells_one L) ?c3 ?c4 ?c5 ?_))
  case c3 => unfold maxLen; omega
  case c4 => omega
  case c5 => simp
  intro a1 c1 w1 ho1 hc1 hl1
  have hs1 := hc1.size
  simp at hs1
  go_wp2_with (at_builtin; go_must (refine wpList_append_sl rfl _ _ 24 rfl w.heap.size 5 i0 (.int .u8 0) 1 1 Try.underlying24 hi0 hz0 hz1 hz2 rfl (by decide) a1 L.length c1 (tcells L) rfl (ho1.alloc _) (some ⟨w1.heap.size, 0, none⟩) 1 1 [.int .u8 t8] rfl (Sl.of_block (C := #[.int .u8 t8]) (heap_new w1 _) rfl (by decide)) (by simp [Value.oneCell']) ?c3 ?c4 ?c5 ?_))
  case c3 => unfold maxLen; omega
  case c4 => omega
  case c5 => simp; omega
  intro a2 c2 w2 ho2 hc2 hl2
  obtain ⟨hB, hF⟩ := piece hc1 hl1 hc2 hl2
  have hblk : w2.heap[pr]? = _ := heap_chg HR.out.blk (Chg.of_below (F := []) hB) (by simp)
  have cc2 := cells_at hblk
  have ff2 := free_at hblk
  have Hblk := Lib.hid hblk
  clear hblk cc hl1 hc1 ho1 hl2 hc2 hs1
  go_upto_region 1 with (fail)
  generalize hW : w2.setCell ⟨pr, 0, none⟩ (.slice a2 (L.length + 1) c2) = W
  have hbW : W.heap[pr]? = some (.cells #[.slice a2 (L.length + 1) c2, .slice ba L.length bc, .slice wa L.length wc] 44 (0, 0)) := by rw [← hW, heap_setCell_same w2 pr 0 _ _ _ Hblk.out]; rfl
  have hCW : Chg [pr] w W := by rw [← hW]; exact (Chg.of_below (F := [pr]) hB).trans (Chg.setCell w2 ⟨pr, 0, none⟩ _) (by simp)
  have hoW : W.ownsRow w.heap.size 5 1 (.slice a2 (L.length + 1) c2) (L.length + 1) (tcells L ++ [.int .u8 t8]) := by
    rw [← hW]; exact owns_chg ho2 (Chg.setCell w2 ⟨pr, 0, none⟩ _) (fun k hk => by have := hF k hk; simp; omega)
  have hsW : w.heap.size ≤ W.heap.size := hCW.size
  have np := notpr HR.out
  have hbW' : W.ownsRow 0 9 1 (.slice ba L.length bc) L.length (bcells L) := owns_chg HR.out.b hCW (by simpa using np.2.1)
  have hcW' : W.ownsRow 0 4 1 (.slice wa L.length wc) L.length (ccells L) := owns_chg HR.out.c hCW (by simpa using np.2.2)
  have HoW := Lib.hid hoW
  have HbW := Lib.hid hbW'
  have HcW := Lib.hid hcW'
  have HCW := Lib.hid hCW
  have HF := Lib.hid hF
  have ccW := cells_at hbW
  have HbbW := Lib.hid hbW
  have lpW : pr < W.heap.size := by omega
  clear hW ho2 hB hF cc2 ff2 Hblk hbW hCW hoW np hbW' hcW'
  go_wp2_with (at_builtin; go_must (refine wpList_append_sl rfl _ _ 41 rfl W.heap.size 9 j0 (.string ⟨#[]⟩) 1 16 Try.underlying41 hj0 hy0 hy1 hy2 rfl (by decide) _ 0 0 [] rfl (World.ownsRow_made W #[] 0 (Nat.le_refl _) (by decide) rfl) ba L.length bc (bcells L) rfl ((Sl.of_owns HbW.out).below ((Below.refl _ _).alloc (Nat.le_refl _) _)) (bcells_one L) ?c3 ?c4 ?c5 ?_))
  case c3 => unfold maxLen; omega
  case c4 => omega
  case c5 => simp
  intro b1 d1 x1 ho1 hc1 hl1
  have hs1 := hc1.size
  simp at hs1
  go_wp2_with (at_builtin; go_must (refine wpList_append_sl rfl _ _ 41 rfl W.heap.size 9 j0 (.string ⟨#[]⟩) 1 16 Try.underlying41 hj0 hy0 hy1 hy2 rfl (by decide) b1 L.length d1 (bcells L) rfl (ho1.alloc _) (some ⟨x1.heap.size, 0, none⟩) 1 1 [.string (strOf bs)] rfl (Sl.of_block (C := #[.string (strOf bs)]) (heap_new x1 _) rfl (by decide)) (by simp [Value.oneCell']) ?c3 ?c4 ?c5 ?_))
  case c3 => unfold maxLen; omega
  case c4 => omega
  case c5 => simp; omega
  intro b2 d2 x2 ho2 hc2 hl2
  obtain ⟨hB, hF⟩ := piece hc1 hl1 hc2 hl2
  have hblk : x2.heap[pr]? = _ := heap_chg HbbW.out (Chg.of_below (F := []) hB) (by simp)
  have cc2 := cells_at hblk
  have ff2 := free_at hblk
  have Hblk := Lib.hid hblk
  clear hblk ccW hl1 hc1 ho1 hl2 hc2 hs1
  go_upto_region 2 with (fail)
  generalize hV : x2.setCell ⟨pr, 1, none⟩ (.slice b2 (L.length + 1) d2) = V
  have hbV : V.heap[pr]? = some (.cells #[.slice a2 (L.length + 1) c2, .slice b2 (L.length + 1) d2, .slice wa L.length wc] 44 (0, 0)) := by rw [← hV, heap_setCell_same x2 pr 1 _ _ _ Hblk.out]; rfl
  have hCV0 : Chg [pr] W V := by rw [← hV]; exact (Chg.of_below (F := [pr]) hB).trans (Chg.setCell x2 ⟨pr, 1, none⟩ _) (by simp)
  have hCV : Chg [pr] w V := HCW.out.trans hCV0 (by simp)
  have hoV2 : V.ownsRow W.heap.size 9 1 (.slice b2 (L.length + 1) d2) (L.length + 1) (bcells L ++ [.string (strOf bs)]) := by
    rw [← hV]; exact owns_chg ho2 (Chg.setCell x2 ⟨pr, 1, none⟩ _) (fun k hk => by have := hF k hk; simp; omega)
  have hoV1 := owns_chg HoW.out hCV0 (fun k hk => by have := HF.out k hk; simp; omega)
  have hsV : W.heap.size ≤ V.heap.size := hCV0.size
  have np := notpr HR.out
  have hcV' : V.ownsRow 0 4 1 (.slice wa L.length wc) L.length (ccells L) := owns_chg HcW.out hCV0 (by simpa using np.2.2)
  have HoV1 := Lib.hid hoV1
  have HoV2 := Lib.hid hoV2
  have HcV := Lib.hid hcV'
  have HCV := Lib.hid hCV
  have HFb := Lib.hid hF
  have ccV := cells_at hbV
  have HbbV := Lib.hid hbV
  have lpV : pr < V.heap.size := by omega
  clear hV ho2 hB hF cc2 ff2 Hblk hbV hCV hoV1 hoV2 np hcV' hCV0 HoW HbW HcW HbbW HCW
  go_wp2_with (at_builtin; go_must (refine wpList_append_sl rfl _ _ 42 rfl V.heap.size 4 k0 (.bool false) 1 1 Try.underlying42 hk0 hx0 hx1 hx2 rfl (by decide) _ 0 0 [] rfl (World.ownsRow_made V #[] 0 (Nat.le_refl _) (by decide) rfl) wa L.length wc (ccells L) rfl ((Sl.of_owns HcV.out).below ((Below.refl _ _).alloc (Nat.le_refl _) _)) (ccells_one L) ?c3 ?c4 ?c5 ?_))
  case c3 => unfold maxLen; omega
  case c4 => omega
  case c5 => simp
  intro e1 f1 y1 ho1 hc1 hl1
  have hs1 := hc1.size
  simp at hs1
  go_wp2_with (at_builtin; go_must (refine wpList_append_sl rfl _ _ 42 rfl V.heap.size 4 k0 (.bool false) 1 1 Try.underlying42 hk0 hx0 hx1 hx2 rfl (by decide) e1 L.length f1 (ccells L) rfl (ho1.alloc _) (some ⟨y1.heap.size, 0, none⟩) 1 1 [.bool ch] rfl (Sl.of_block (C := #[.bool ch]) (heap_new y1 _) rfl (by decide)) (by simp [Value.oneCell']) ?c3 ?c4 ?c5 ?_))
  case c3 => unfold maxLen; omega
  case c4 => omega
  case c5 => simp; omega
  intro e2 f2 y2 ho2 hc2 hl2
  obtain ⟨hB, hF⟩ := piece hc1 hl1 hc2 hl2
  have hblk : y2.heap[pr]? = _ := heap_chg HbbV.out (Chg.of_below (F := []) hB) (by simp)
  have cc2 := cells_at hblk
  have ff2 := free_at hblk
  have Hblk := Lib.hid hblk
  clear hblk ccV hl1 hc1 ho1 hl2 hc2 hs1
  go_wp2_with fail
  go_end0
  have hCU0 : Chg [pr] V (y2.setCell ⟨pr, 2, none⟩ (.slice e2 (L.length + 1) f2)) := (Chg.of_below (F := [pr]) hB).trans (Chg.setCell y2 ⟨pr, 2, none⟩ _) (by simp)
  refine ⟨rfl, _, ⟨a2, c2, b2, d2, e2, f2, ⟨?_, ?_, ?_, ?_⟩, rfl⟩, ?_, HCV.out.trans hCU0 (by simp)⟩
  · rw [heap_setCell_same y2 pr 2 _ _ _ Hblk.out]; simp
  · have := owns_base (owns_chg HoV1.out hCU0 (fun k hk => by have := HF.out k hk; simp; omega)) (Nat.zero_le _)
    simpa [tcells] using this
  · have := owns_base (owns_chg HoV2.out hCU0 (fun k hk => by have := HFb.out k hk; simp; omega)) (Nat.zero_le _)
    simpa [bcells] using this
  · have := owns_base (owns_chg ho2 (Chg.setCell y2 ⟨pr, 2, none⟩ (.slice e2 (L.length + 1) f2)) (fun k hk => by have := hF k hk; simp; omega)) (Nat.zero_le _)
    simpa [ccells] using this
  · intro k hk
    simp at hk
    rcases hk with rfl | hk | hk | hk
    · left; simp
    · right; exact HF.out k hk
    · right; have := HFb.out k hk; omega
    · right; have := hF k hk; omega

theorem refnew (w : World) : RefR (w.alloc (.cells #[.slice none 0 0, .slice none 0 0, .slice none 0 0] 44)) w.heap.size [] [w.heap.size] :=
  ⟨none, 0, none, 0, none, 0, ⟨heap_new _ _, World.ownsRow_nil _ _ _ _, World.ownsRow_nil _ _ _ _, World.ownsRow_nil _ _ _ _⟩, rfl⟩
theorem RefTo.alloc {w w' : World} {pr : Nat} {F : List Nat} {L : List Lt} {o : Obj} (h : RefTo (w.alloc o) pr F L w') : RefTo w pr F L w' := by
  obtain ⟨F', h1, h2, h3⟩ := h
  exact ⟨F', h1, fun k hk => (h2 k hk).imp id (fun h => by simp at h; omega), (Chg.alloc [pr] w o).trans h3 (by simp)⟩
theorem RefTo.drew {w w' : World} {pr : Nat} {F : List Nat} {L : List Lt} (h : RefTo w.drew pr F L w') : RefTo w pr F L w' := by
  obtain ⟨F', h1, h2, h3⟩ := h
  exact ⟨F', h1, h2, (Chg.drew [pr] w).trans h3 (by simp)⟩
theorem RefR.alloc {w : World} {pb : Nat} {L : List Lt} {F : List Nat} (h : RefR w pb L F) (o : Obj) : RefR (w.alloc o) pb L F := h.chg (Chg.alloc [] w o) (by simp)
theorem RefR.drew {w : World} {pb : Nat} {L : List Lt} {F : List Nat} (h : RefR w pb L F) : RefR w.drew pb L F := h.chg (Chg.drew [] w) (by simp)

theorem put_ref (pr : Nat) (t8 : Int) (bs : List UInt8) (a : Option Addr) (n c : Nat) (L : List Lt) (F : List Nat) (w : World) (hs : Sl w 1 a n c (u8s bs)) (h : RefR w pr L F) (hm : L.length ≤ 1000000) :
    Calls Try.prog 14 #[.pointer (some ⟨pr, 0, none⟩), .agg #[.int .u8 t8, .slice a n c]] w fun e w' => e = .returned (.tuple #[]) ∧ RefTo w pr F (L ++ [⟨t8, bs, false⟩]) w' := by
  have hcv := conv_str (hs.below ((Below.refl _ _).alloc (Nat.le_refl _) (.cells #[.int .u8 t8, .slice a n c] 30)))
  have H := Lib.hid (h.alloc (.cells #[.int .u8 t8, .slice a n c] 30))
  clear h hs
  go_enter Try.func14, Try.ntmps14
  go_wp2_with fail
  refine (add_any pr t8 bs false L F _ H.out hm).mono ?_
  rintro e w' ⟨rfl, hT⟩
  go_wp2_with fail
  go_end0
  exact ⟨rfl, hT.alloc⟩

theorem copy_ref (pr : Nat) (L : List Lt) (F : List Nat) (w : World) (h : RefR w pr L F) :
    Calls Try.prog 20 #[.pointer (some ⟨pr, 0, none⟩)] w fun e w' => e = .returned (.pointer (some ⟨w.heap.size, 0, none⟩)) ∧ ∃ F', RefR w' w.heap.size L F' ∧ (∀ k ∈ F', k ∈ F ∨ k = w.heap.size) ∧ Below w.heap.size w w' := by
  obtain ⟨ta, tc, ba, bc, wa, wc, hR, rfl⟩ := h
  have cc := cells_at hR.blk
  have HR := Lib.hid hR
  clear hR
  go_enter Try.func20, Try.ntmps20
  go_wp2_with fail
  go_ret
  refine ⟨rfl, _, ⟨ta, tc, ba, bc, wa, wc, ⟨heap_new _ _, HR.out.t.alloc _, HR.out.b.alloc _, HR.out.c.alloc _⟩, rfl⟩, ?_, (Below.refl _ _).alloc (Nat.le_refl _) _⟩
  intro k hk
  simp at hk ⊢
  rcases hk with rfl | hk
  · exact .inr rfl
  · exact .inl (.inr hk)

/-- a row's i-th cell -/
theorem own_at {w : World} {e : TypeId} {a : Option Addr} {n c i : Nat} {xs : List Value} {u : Value} (h : w.ownsRow 0 e 1 (.slice a n c) n xs) (hu : xs[i]? = some u) : ∃ g, a = some ⟨g, 0, none⟩ ∧ w.cell? ⟨g, i, none⟩ = some u ∧ w.frozen? ⟨g, i, none⟩ = false ∧ i < n := by
  have hl := h.1
  have hi : i < n := by
    rcases Nat.lt_or_ge i xs.length with h' | h'
    · omega
    · rw [List.getElem?_eq_none h'] at hu; cases hu
  rcases h.2 with ⟨h1, h2⟩ | ⟨g, cap, cur, h1, _⟩
  · omega
  · simp at h1
    obtain ⟨rfl, rfl⟩ := h1
    exact ⟨g, rfl, (h.cellAt i (by omega)).trans hu, h.frozenAt i, hi⟩

set_option maxHeartbeats 1000000 in
theorem double_ref (pr i : Nat) (l : Lt) (L : List Lt) (F : List Nat) (w : World) (h : RefR w pr L F) (hi : L[i]? = some l) (hm : L.length ≤ 1000000) :
    Calls Try.prog 17 #[.pointer (some ⟨pr, 0, none⟩), .int .i64 i] w fun e w' => e = .returned (.bool true) ∧ RefTo w pr F (L ++ [l]) w' := by
  have H := Lib.hid h
  obtain ⟨ta, tc, ba, bc, wa, wc, hR, hF⟩ := h
  obtain ⟨g1, rfl, t1, _, hi1⟩ := own_at (i := i) (u := .int .u8 l.t) hR.t (by simp only [tcells, List.getElem?_map, hi, Option.map_some])
  obtain ⟨g2, rfl, t2, _, _⟩ := own_at (i := i) (u := .string (strOf l.b)) hR.b (by simp only [bcells, List.getElem?_map, hi, Option.map_some])
  obtain ⟨g3, rfl, t3, _, _⟩ := own_at (i := i) (u := .bool l.ch) hR.c (by simp only [ccells, List.getElem?_map, hi, Option.map_some])
  have cc := cells_at hR.blk
  have HR := Lib.hid hR
  have hi' : (i : Int) < (L.length : Int) := by omega
  have hdec : decide (0 ≤ (i : Int) ∧ (i : Int) < (L.length : Int)) = true := by simp; omega
  obtain ⟨t8, bs, ch⟩ := l
  dsimp only at t1 t2 t3
  have Hd := Lib.hid hdec
  clear hF hR hdec
  go_enter Try.func17, Try.ntmps17
  go_wp2_with fail
  refine (is_ref pr _ (.bool true) _ L.length bc _ i _ HR.out.blk).mono ?_
  rintro e w' ⟨rfl, rfl⟩
  rw [Hd.out]
  go_wp2_with fail
  refine region_text [([0, 1, 2, 3, 4, 5, 6, 7, 8, 9, 10, 11, 12, 13, 14, 15, 16, 17, 18, 19, 20, 21, 22], false)] mixed (by kernel_rfl) ?_
  simp only [wpSegs, List.map_cons, List.map_nil, List.getD_cons_succ, List.getD_cons_zero]
  go_wp2_with fail
  refine (add_any pr t8 bs ch L F _ H.out.drew hm).mono ?_
  rintro e w' ⟨rfl, hT⟩
  go_wp2_with fail
  refine And.intro (by kernel_rfl) ?_
  go_wp2_with fail
  go_ret
  exact ⟨rfl, hT.drew⟩
theorem double_ref_no (pr : Nat) (i : Int) (L : List Lt) (F : List Nat) (w : World) (h : RefR w pr L F) (hi : i < 0 ∨ (L.length : Int) ≤ i) :
    Calls Try.prog 17 #[.pointer (some ⟨pr, 0, none⟩), .int .i64 i] w fun e w' => e = .returned (.bool false) ∧ w = w' := by
  obtain ⟨ta, tc, ba, bc, wa, wc, hR, hF⟩ := h
  have hdec : decide (0 ≤ i ∧ i < (L.length : Int)) = false := by simp; omega
  have Hd := Lib.hid hdec
  have HR := Lib.hid hR
  clear hF hR hdec
  go_enter Try.func17, Try.ntmps17
  go_wp2_with fail
  refine (is_ref pr _ (.bool true) _ L.length bc _ i _ HR.out.blk).mono ?_
  rintro e w' ⟨rfl, rfl⟩
  rw [Hd.out]
  go_wp2_with fail
  go_ret
  exact ⟨rfl, rfl⟩
end Go.Proofs.Ytkgbdgnfidpelaa
