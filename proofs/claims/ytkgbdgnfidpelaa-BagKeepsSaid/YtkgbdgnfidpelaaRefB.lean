/- The reference's Take. -/
import Derived.Test.YtkgbdgnfidpelaaRefA
namespace Go.Proofs.Ytkgbdgnfidpelaa
open Go.RowKit
set_option linter.unusedVariables false
set_option linter.unusedSimpArgs false

theorem erase_take (L : List Lt) (i k : Nat) (l : Lt) (hk : L[k]? = some l) : (L.take (k + 1)).eraseIdx i = if k = i then (L.take k).eraseIdx i else (L.take k).eraseIdx i ++ [l] := by
  have hkl : k < L.length := by
    rcases Nat.lt_or_ge k L.length with h | h
    · exact h
    · rw [List.getElem?_eq_none h] at hk; cases hk
  have ht : (L.take k).length = k := by rw [List.length_take]; omega
  rw [List.take_add_one, hk]
  simp only [Option.toList_some]
  by_cases hki : k = i
  · subst hki
    rw [if_pos rfl, List.eraseIdx_append_of_length_le (by omega), ht]
    simp
    rw [List.eraseIdx_of_length_le (by omega)]
  · rw [if_neg hki]
    by_cases hlt : k < i
    · rw [List.eraseIdx_append_of_length_le (by omega), ht]
      congr 1
      · rw [List.eraseIdx_of_length_le (by omega)]
      · rw [List.eraseIdx_of_length_le (by simp; omega)]
    · rw [List.eraseIdx_append_of_lt_length (by omega)]

/-- behind the letter that is told -/
def TakeMid (w : World) (t8 : Int) (bs : List UInt8) (o : Obj) (s : Value) (wx : World) : Prop :=
  ∃ vb xa c, s = .pointer (some ⟨vb, 0, none⟩) ∧ wx.heap[vb]? = some (.cells #[.int .u8 t8, .slice xa bs.length c] 30 (0, 0)) ∧ Sl wx 1 xa bs.length c (u8s bs) ∧ w.heap.size + 1 ≤ vb ∧ (∀ k ∈ ob xa, w.heap.size + 1 ≤ k) ∧ Below (w.heap.size + 1) (w.alloc o) wx
/-- the loop's relation -/
def TakeLoop (wx : World) (lb : Nat) (L : List Lt) (i k : Nat) (wr : World) : Prop :=
  ∃ Fl, RefR wr lb ((L.take k).eraseIdx i) Fl ∧ (∀ x ∈ Fl, lb ≤ x) ∧ Chg [lb] wx wr
/-- what Take gives -/
def RTakeTo (w : World) (pr i : Nat) (F : List Nat) (L : List Lt) (l : Lt) (e : Ending) (w' : World) : Prop :=
  ∃ a c, e = .returned (.tuple #[.agg #[.int .u8 l.t, .slice a l.b.length c], .bool true]) ∧ Sl w' 1 a l.b.length c (u8s l.b) ∧ (∀ k ∈ ob a, w.heap.size ≤ k) ∧ RefTo w pr F (L.eraseIdx i) w'

theorem RefAt.chg {F : List Nat} {w w' : World} {pr : Nat} {L : List Lt} {ta : Option Addr} {tc : Nat} {ba : Option Addr} {bc : Nat} {wa : Option Addr} {wc : Nat} (h : RefAt w pr L ta tc ba bc wa wc) (hc : Chg F w w') (hd : ∀ k ∈ pr :: (ob ta ++ ob ba ++ ob wa), k ∉ F) : RefAt w' pr L ta tc ba bc wa wc :=
  ⟨heap_chg h.blk hc (hd _ (by simp)), owns_chg h.t hc fun k hk => hd k (by simp [hk]), owns_chg h.b hc fun k hk => hd k (by simp [hk]), owns_chg h.c hc fun k hk => hd k (by simp [hk])⟩
theorem RefAt.at {w : World} {pr k g1 g2 g3 tc bc kc : Nat} {L : List Lt} {l : Lt} (h : RefAt w pr L (some ⟨g1, 0, none⟩) tc (some ⟨g2, 0, none⟩) bc (some ⟨g3, 0, none⟩) kc) (hk : L[k]? = some l) :
    w.cell? ⟨g1, k, none⟩ = some (.int .u8 l.t) ∧ w.cell? ⟨g2, k, none⟩ = some (.string (strOf l.b)) ∧ w.cell? ⟨g3, k, none⟩ = some (.bool l.ch) := by
  obtain ⟨_, h1, t1, _, _⟩ := own_at (i := k) (u := .int .u8 l.t) h.t (by simp only [tcells, List.getElem?_map, hk, Option.map_some])
  obtain ⟨_, h2, t2, _, _⟩ := own_at (i := k) (u := .string (strOf l.b)) h.b (by simp only [bcells, List.getElem?_map, hk, Option.map_some])
  obtain ⟨_, h3, t3, _, _⟩ := own_at (i := k) (u := .bool l.ch) h.c (by simp only [ccells, List.getElem?_map, hk, Option.map_some])
  cases h1; cases h2; cases h3
  exact ⟨t1, t2, t3⟩
theorem Agree.of_below' {w w' : World} {n : Nat} (h : Below n w w') (hn : w.heap.size = n) : Agree w w' := Agree.of_below (hn ▸ h)
theorem heap_new' (w : World) (o : Obj) {n : Nat} (hn : w.heap.size = n) : (w.alloc o).heap[n]? = some o := hn ▸ heap_new w o

set_option maxHeartbeats 4000000 in
set_option maxRecDepth 100000 in
theorem take_ref (pr i : Nat) (l : Lt) (L : List Lt) (F : List Nat) (w : World) (h : RefR w pr L F) (hi : L[i]? = some l) (hm : L.length ≤ 1000000) (hb : l.b.length ≤ 1000000) :
    Calls Try.prog 15 #[.pointer (some ⟨pr, 0, none⟩), .int .i64 i] w (RTakeTo w pr i F L l) := by
  have H := Lib.hid h
  have hlt := h.lt
  obtain ⟨ta, tc, ba, bc, wa, kc, hR, rfl⟩ := h
  obtain ⟨g1, rfl, t1, _, hi1⟩ := own_at (i := i) (u := .int .u8 l.t) hR.t (by simp only [tcells, List.getElem?_map, hi, Option.map_some])
  obtain ⟨g2, rfl, t2, _, _⟩ := own_at (i := i) (u := .string (strOf l.b)) hR.b (by simp only [bcells, List.getElem?_map, hi, Option.map_some])
  obtain ⟨g3, rfl, _, _, _⟩ := own_at (i := i) (u := .bool l.ch) hR.c (by simp only [ccells, List.getElem?_map, hi, Option.map_some])
  have cc := cells_at hR.blk
  have HR := Lib.hid hR
  have lpr : pr < w.heap.size := hlt _ (by simp)
  have l1 : g1 < w.heap.size := hlt _ (by simp [ob])
  have l2 : g2 < w.heap.size := hlt _ (by simp [ob])
  have l3 : g3 < w.heap.size := hlt _ (by simp [ob])
  have hi' : (i : Int) < (L.length : Int) := by omega
  have Hd := Lib.hid (show decide (0 ≤ (i : Int) ∧ (i : Int) < (L.length : Int)) = true by simp; omega)
  obtain ⟨t8, bs, ch⟩ := l
  dsimp only at t1 t2 hb
  have hbs : (strOf bs).size ≤ maxLen := by rw [strOf_size]; unfold maxLen; omega
  have Hi := Lib.hid hi
  have Hlt := Lib.hid hlt
  clear hR hi hlt
  go_enter Try.func15, Try.ntmps15
  go_wp2_with fail
  refine (is_ref pr _ (.bool true) _ L.length bc _ i _ (heap_chg HR.out.blk (Chg.alloc [] w _) (by simp))).mono ?_
  rintro e w' ⟨rfl, rfl⟩
  rw [Hd.out]
  go_upto_region 3 with (fail)
  go_cut [6] (fun s6 wx => TakeMid w t8 bs (.cells #[.int .u8 0, .slice none 0 0] 30) s6 wx)
  case first =>
    refine region_tree (.seg [0, 1, 2, 3, 4, 5, 6, 7, 8, 9, 10, 11, 12, 13] false (.fork (.seg [14] true (.seg [15, 16, 17] false .done)) (.seg [16] false (.seg [14] true (.seg [15, 17] false .done))))) mixed (by kernel_rfl) ?_
    simp only [wpSg, List.map_cons, List.map_nil, List.getD_cons_succ, List.getD_cons_zero]
    go_wp2_with fail
    refine And.intro ?_ ?_
    · go_wp2_with (refine wpList_string_bytes rfl 9 24 5 _ rfl (strOf bs) Try.underlying9 Try.underlying24 Try.underlying5 rfl hbs ?_)
      intro c w1 hs1 hb1 hz1
      have Hs := Lib.hid hs1
      have Hb := Lib.hid hb1
      clear hs1 hb1 cc t1 t2
      go_wp2_with fail
      refine And.intro (Agree.of_below' Hb.out (by simp)) ?_
      go_wp2_with fail
      refine And.intro (by kernel_rfl) ?_
      go_wp2_with fail
      go_meet
      have hl := strOf_size bs
      have hl2 : (strOf bs).data.toList = bs := by simp [strOf]
      have hs1 := Hs.out
      have hb1 := Hb.out
      rw [hl, hl2] at hs1
      rw [hl]
      refine ⟨w.heap.size + 1 + 1, _, _, rfl, heap_new' _ _ hz1, hs1.below (((Below.refl _ _).alloc (Nat.le_refl _) _)), by omega, by simp [ob], ?_⟩
      exact ((Below.refl _ _).drew.trans hb1).alloc (by omega) _
    · go_wp2_with (refine wpList_string_bytes rfl 9 24 5 _ rfl (strOf bs) Try.underlying9 Try.underlying24 Try.underlying5 rfl hbs ?_)
      intro c w1 hs1 hb1 hz1
      have Hs := Lib.hid hs1
      have Hb := Lib.hid hb1
      clear hs1 hb1 cc t1 t2
      go_wp2_with fail
      refine And.intro (Agree.of_below' Hb.out (by simp)) ?_
      have hblk : w1.heap[w.heap.size + 1]? = some (.cells #[.int .u8 0, .slice none 0 0] 30 (0, 0)) := by
        rw [Hb.out.block _ (by omega)]; exact heap_new' (w.alloc _) _ (by simp)
      have ff2 := free_at hblk
      have cc2 := cells_at hblk
      have Hblk := Lib.hid hblk
      clear hblk
      have l9 : w.heap.size + 1 < w1.heap.size := by omega
      go_wp2_with fail
      refine And.intro (by kernel_rfl) ?_
      go_wp2_with fail
      go_meet
      have hl := strOf_size bs
      have hl2 : (strOf bs).data.toList = bs := by simp [strOf]
      have hs1 := Hs.out
      have hb1 := Hb.out
      rw [hl, hl2] at hs1
      rw [hl]
      refine ⟨w.heap.size + 1, some ⟨w.heap.size + 1 + 1, 0, none⟩, c, rfl, ?_, ?_, by omega, by simp [ob], ?_⟩
      · rw [heap_setCell_same _ _ 1 _ _ _ (heap_setCell_same _ _ 0 _ _ _ Hblk.out)]; rfl
      · exact (hs1.chg (Chg.setCell w1 ⟨w.heap.size + 1, 0, none⟩ _) (by simp [ob])).chg (Chg.setCell _ ⟨w.heap.size + 1, 1, none⟩ _) (by simp [ob])
      · exact (((((Below.refl (w.heap.size + 1) _).alloc (by simp) _).drew).trans (hb1.mono (by omega))).setCell (by simp) _).setCell (by simp) _
  case rest =>
    obtain ⟨vb, xa, xc, rfl, hvb, hsx, hvg, hxg, hBx⟩ := hcut
    have hBx' : Below w.heap.size w wc := ((Below.refl _ _).alloc (Nat.le_refl _) _).trans (hBx.mono (by omega))
    have hAt : RefAt wc pr L (some ⟨g1, 0, none⟩) tc (some ⟨g2, 0, none⟩) bc (some ⟨g3, 0, none⟩) kc := by
      have hc := Chg.of_below (F := []) hBx'
      have h0 := HR.out
      exact ⟨heap_chg h0.blk hc (by simp), owns_chg h0.t hc (by simp), owns_chg h0.b hc (by simp), owns_chg h0.c hc (by simp)⟩
    have hsz := hBx'.size
    have h4 : wc.heap[w.heap.size]? = some (.cells #[.int .u8 0, .slice none 0 0] 30 (0, 0)) := by
      rw [hBx.block _ (by omega)]; exact heap_new _ _
    have Hvb := Lib.hid hvb
    have Hsx := Lib.hid hsx
    have Hxg := Lib.hid hxg
    have HB := Lib.hid hBx'
    have HAt := Lib.hid hAt
    have H4 := Lib.hid h4
    have lvb : vb < wc.heap.size := heap_lt hvb
    clear hvb hsx hxg hBx' hAt h4 hBx cc t1 t2 H HR
    go_wp2_with fail
    go_loopw [8] (fun s wr => ∃ k : Nat, k ≤ L.length ∧ s = .int .i64 k ∧ TakeLoop wc wc.heap.size L i k wr) (fun s _ => L.length - (intOf s).toNat)
    case atStart => exact ⟨0, Nat.zero_le _, rfl, _, by simpa using refnew wc, by simp, Chg.alloc _ _ _⟩
    case round =>
      obtain ⟨k, hk, rfl, Fl, hRl, hFl, hCl⟩ := hrel
      have hblk := heap_chg HAt.out.blk hCl (by simp; omega)
      have cc := cells_at hblk
      have hszr := hCl.size
      have lpr' : pr < wr.heap.size := by omega
      have HRl := Lib.hid hRl
      have HFl := Lib.hid hFl
      have HCl := Lib.hid hCl
      have Hblk := Lib.hid hblk
      by_cases hlt : k < L.length
      · have hlt' : (k : Int) < (L.length : Int) := by omega
        clear hRl hFl hCl hblk
        by_cases hki : k = i
        · subst hki
          go_wp2_with fail
          go_roundw
          case rel => exact ⟨k + 1, by omega, by simp, Fl, by rw [erase_take L k k _ Hi.out, if_pos rfl]; exact HRl.out, HFl.out, HCl.out⟩
          case measure => simp [intOf]; omega
        · have hki' : ¬ (k : Int) = (i : Int) := by omega
          have hx : ∃ x, L[k]? = some x := ⟨L[k], by simp [hlt]⟩
          obtain ⟨⟨t', bs', ch'⟩, hx⟩ := hx
          obtain ⟨e0, e1, e2⟩ := (HAt.out.chg HCl.out (fun x hx => by have := Hlt.out x hx; simp; omega)).at hx
          dsimp only at e0 e1 e2
          have Hx := Lib.hid hx
          clear hx
          have l1' : g1 < wr.heap.size := by omega
          have l2' : g2 < wr.heap.size := by omega
          have l3' : g3 < wr.heap.size := by omega
          go_wp2_with fail
          refine region_text [([0, 1, 2, 3, 4, 5, 6, 7, 8, 9, 10, 11, 12, 13, 14, 15, 16, 17, 18, 19, 20, 21, 22], false)] mixed (by kernel_rfl) ?_
          simp only [wpSegs, List.map_cons, List.map_nil, List.getD_cons_succ, List.getD_cons_zero]
          go_wp2_with fail
          refine (add_any wc.heap.size t' bs' ch' _ Fl _ HRl.out.drew (Nat.le_trans (List.length_eraseIdx_le _ _) (by simp; omega))).mono ?_
          rintro e w2 ⟨rfl, hT⟩
          have HT := Lib.hid hT.drew
          clear hT
          go_wp2_with fail
          refine And.intro (by kernel_rfl) ?_
          go_wp2_with fail
          go_roundw
          case rel =>
            obtain ⟨F2, hR2, hF2, hC2⟩ := HT.out
            refine ⟨k + 1, by omega, by simp, F2, by rw [erase_take L i k _ Hx.out, if_neg hki]; exact hR2, fun x hx => ?_, HCl.out.trans hC2 (by simp)⟩
            rcases hF2 x hx with h | h
            · exact HFl.out x h
            · omega
          case measure => simp [intOf]; omega
      · have hlt' : ¬ (k : Int) < (L.length : Int) := by omega
        have hkL : k = L.length := by omega
        have hRl' := HRl.out
        rw [hkL, List.take_length] at hRl'
        obtain ⟨ta', tc', ba', bc', wa', kc', hL, hFl'⟩ := hRl'
        have cl := cells_at hL.blk
        have HL := Lib.hid hL
        have lw := heap_lt hL.blk
        have ff := free_at hblk
        clear hRl hFl hCl hblk hL
        go_upto_region 11 with (fail)
        generalize hW : ((wr.setCell ⟨pr, 0, none⟩ (.slice ta' (L.eraseIdx i).length tc')).setCell ⟨pr, 1, none⟩ (.slice ba' (L.eraseIdx i).length bc')).setCell ⟨pr, 2, none⟩ (.slice wa' (L.eraseIdx i).length kc') = W
        have hbW : W.heap[pr]? = some (.cells #[.slice ta' (L.eraseIdx i).length tc', .slice ba' (L.eraseIdx i).length bc', .slice wa' (L.eraseIdx i).length kc'] 44 (0, 0)) := by
          rw [← hW, heap_setCell_same _ _ 2 _ _ _ (heap_setCell_same _ _ 1 _ _ _ (heap_setCell_same _ _ 0 _ _ _ Hblk.out))]; rfl
        have hCW : Chg [pr] wr W := by
          rw [← hW]; exact ((Chg.setCell wr ⟨pr, 0, none⟩ _).trans (Chg.setCell _ ⟨pr, 1, none⟩ _) (by simp)).trans (Chg.setCell _ ⟨pr, 2, none⟩ _) (by simp)
        clear hW
        have h4 := heap_chg (heap_chg H4.out HCl.out (by simp; omega)) hCW (by simp; omega)
        have hv := heap_chg (heap_chg Hvb.out HCl.out (by simp; omega)) hCW (by simp; omega)
        have c4 := cells_at h4
        have f4 := free_at h4
        have cv := cells_at hv
        have HbW := Lib.hid hbW
        have HCW := Lib.hid hCW
        have H4W := Lib.hid h4
        have hsW : wr.heap.size ≤ W.heap.size := hCW.size
        have l4W : w.heap.size < W.heap.size := heap_lt h4
        have lvW : vb < W.heap.size := heap_lt hv
        have hne : w.heap.size ≠ vb := by omega
        clear hbW hCW h4 hv cc cl ff
        go_wp2_with fail
        refine bodyPost_ret (v := .tuple #[.agg #[.int .u8 t8, .slice xa bs.length xc], .bool true]) (by simp [results, Try.results15, go_sem, c4, hne, l4W]) rfl ⟨xa, xc, rfl, ?_, ?_, ?_⟩
        · have h0 := (Hsx.out.below (HCl.out.below (Nat.le_refl _) (by simp))).chg HCW.out (fun x hx => by have := Hxg.out x hx; simp; omega)
          exact (h0.chg (Chg.setCell W ⟨w.heap.size, 0, none⟩ _) (fun x hx => by have := Hxg.out x hx; simp; omega)).chg (Chg.setCell _ ⟨w.heap.size, 1, none⟩ _) (fun x hx => by have := Hxg.out x hx; simp; omega)
        · exact fun x hx => by have := Hxg.out x hx; omega
        · have hCC : Chg [w.heap.size] W ((W.setCell ⟨w.heap.size, 0, none⟩ (.int .u8 t8)).setCell ⟨w.heap.size, 1, none⟩ (.slice xa bs.length xc)) := (Chg.setCell W ⟨w.heap.size, 0, none⟩ _).trans (Chg.setCell _ ⟨w.heap.size, 1, none⟩ _) (by simp)
          have hF3 : ∀ x ∈ ob ta' ++ ob ba' ++ ob wa', wc.heap.size ≤ x := fun x hx => HFl.out x (by rw [hFl']; exact List.mem_cons_of_mem _ hx)
          have hfin : RefAt W pr (L.eraseIdx i) ta' tc' ba' bc' wa' kc' := by
            have h0 := HL.out
            refine ⟨HbW.out, owns_chg h0.t HCW.out ?_, owns_chg h0.b HCW.out ?_, owns_chg h0.c HCW.out ?_⟩ <;> exact fun x hx => by have := hF3 x (by simp [hx]); simp; omega
          refine ⟨_, ⟨ta', tc', ba', bc', wa', kc', hfin.chg hCC ?_, rfl⟩, ?_, ?_⟩
          · intro x hx
            simp only [List.mem_cons] at hx
            rcases hx with rfl | hx
            · simp; omega
            · have := hF3 x hx
              have := hvg
              simp; omega
          · intro x hx
            simp only [List.mem_cons] at hx
            rcases hx with rfl | hx
            · left; simp
            · right; have := hF3 x hx; omega
          · have h1 : Chg [pr] w wr := (Chg.of_below (F := [pr]) HB.out).trans HCl.out (fun x hx hl => by simp at hx; omega)
            have h2 := h1.trans HCW.out (by simp)
            exact h2.trans hCC (fun x hx hl => by simp at hx; omega)
theorem take_ref_no (pr : Nat) (i : Int) (L : List Lt) (F : List Nat) (w : World) (h : RefR w pr L F) (hi : i < 0 ∨ (L.length : Int) ≤ i) :
    Calls Try.prog 15 #[.pointer (some ⟨pr, 0, none⟩), .int .i64 i] w fun e w' => e = .returned (.tuple #[.agg #[.int .u8 0, .slice none 0 0], .bool false]) ∧ Below w.heap.size w w' := by
  obtain ⟨ta, tc, ba, bc, wa, wc, hR, hF⟩ := h
  have Hd := Lib.hid (show decide (0 ≤ i ∧ i < (L.length : Int)) = false by simp; omega)
  have HR := Lib.hid hR
  clear hF hR
  go_enter Try.func15, Try.ntmps15
  go_wp2_with fail
  refine (is_ref pr _ (.bool true) _ L.length bc _ i _ (heap_chg HR.out.blk (Chg.alloc [] w _) (by simp))).mono ?_
  rintro e w' ⟨rfl, rfl⟩
  rw [Hd.out]
  go_wp2_with fail
  exact bodyPost_ret (v := .tuple #[.agg #[.int .u8 0, .slice none 0 0], .bool false]) (by simp [results, Try.results15, go_sem]) rfl ⟨rfl, (Below.refl _ _).alloc (Nat.le_refl _) _⟩
end Go.Proofs.Ytkgbdgnfidpelaa
