/- Trees in memory: their cells; size, Great. | The reference's May on leaves (varveref05), whole: contract. | The reference's tree.May. -/
import Derived.Test.YtaandcblndldmaaGreatGraP
import Derived.Test.YtaandcblndldmaaGreatROpA
import Derived.Test.YtaandcblndldmaaGreatRefLA
/- MeanV -/
namespace Go.Proofs.YtaandcblndldmaaGreat
open Go.RowKit
set_option linter.unusedVariables false
set_option linter.unusedSimpArgs false

structure NdAt (w : World) (b : Addr) (x : Nd) : Prop where
  c0 : w.cell? b = some (.string x.name)
  c1 : w.cell? ⟨b.block, b.off + 1, none⟩ = some (.slice x.la x.ls.length x.lc)
  c2 : w.cell? ⟨b.block, b.off + 2, none⟩ = some (.slice x.ba x.kids.length x.bc)
theorem nds_at {w : World} {a : Option Addr} {c : Nat} {T : List Nd} (h : Sl w 3 a T.length c (T.flatMap ndcell)) {i : Nat} {x : Nd} (hx : T[i]? = some x) : ∃ ad, a = some ad ∧ NdAt w (ad.add (i * 3)) x ∧ ad.block < w.heap.size := by
  have hi := (List.getElem?_eq_some_iff.1 hx).1
  rcases h.2.2.2 with ⟨_, h5, _⟩ | ⟨ad, rfl, hc⟩
  · omega
  · have g : ∀ j, j < 3 → w.cell? (ad.add (i * 3 + j)) = (ndcell x)[j]? := fun j hj => by
      have e := flatMap_at (enc := ndcell) (k := 3) ndcell_len T i j x hx hj
      have e2 : (ndcell x)[j]? = some ((ndcell x)[j]'(by rw [ndcell_len]; exact hj)) := by simp
      rw [e2]
      exact hc _ _ (by rw [e, e2])
    have g0 := g 0 (by omega)
    have g1 := g 1 (by omega)
    have g2 := g 2 (by omega)
    rw [Nat.add_zero] at g0
    rw [← Go.Deep.add_add] at g1 g2
    refine ⟨ad, rfl, ⟨g0, g1, g2⟩, ?_⟩
    have := World.block_lt_of_cell? w _ g0
    rwa [add_block] at this
structure LvC (w : World) (b : Addr) (v : Lv) : Prop where
  c0 : w.cell? b = some (.int .u8 v.l.k)
  c1 : w.cell? ⟨b.block, b.off + 1, none⟩ = some (.int .i64 v.l.n)
  c2 : w.cell? ⟨b.block, b.off + 2, none⟩ = some (.int .u64 v.l.t)
  c3 : w.cell? ⟨b.block, b.off + 3, none⟩ = some (.int .u8 v.l.d.1.1)
  c4 : w.cell? ⟨b.block, b.off + 4, none⟩ = some (.int .u32 v.l.d.1.2)
  c5 : w.cell? ⟨b.block, b.off + 5, none⟩ = some (.int .u64 v.l.d.2)
  c6 : w.cell? ⟨b.block, b.off + 6, none⟩ = some (.string v.l.x)
  c7 : w.cell? ⟨b.block, b.off + 7, none⟩ = some (.slice v.ia v.l.items.length v.ic)
  c8 : w.cell? ⟨b.block, b.off + 8, none⟩ = some (.slice v.ta v.l.tombs.length v.tc)
theorem LvsRd.at {w : World} {a : Option Addr} {c : Nat} {ls : List Lv} (h : LvsRd w a c ls) {i : Nat} {v : Lv} (hv : ls[i]? = some v) : ∃ ad, a = some ad ∧ LvC w (ad.add (i * 9)) v ∧ ad.block < w.heap.size ∧ LvRd w v := by
  have hi := (List.getElem?_eq_some_iff.1 hv).1
  rcases h.1.2.2.2 with ⟨_, h5, _⟩ | ⟨ad, rfl, hc⟩
  · omega
  · have g : ∀ j, j < 9 → w.cell? (ad.add (i * 9 + j)) = (lvcell v)[j]? := fun j hj => by
      have e := flatMap_at (enc := lvcell) (k := 9) lvcell_len ls i j v hv hj
      have e2 : (lvcell v)[j]? = some ((lvcell v)[j]'(by rw [lvcell_len]; exact hj)) := by simp
      rw [e2]
      exact hc _ _ (by rw [e, e2])
    have g0 := g 0 (by omega)
    have g1 := g 1 (by omega)
    have g2 := g 2 (by omega)
    have g3 := g 3 (by omega)
    have g4 := g 4 (by omega)
    have g5 := g 5 (by omega)
    have g6 := g 6 (by omega)
    have g7 := g 7 (by omega)
    have g8 := g 8 (by omega)
    rw [Nat.add_zero] at g0
    rw [← Go.Deep.add_add] at g1 g2 g3 g4 g5 g6 g7 g8
    refine ⟨ad, rfl, ⟨g0, g1, g2, g3, g4, g5, g6, g7, g8⟩, ?_, h.2 v (List.mem_of_getElem? hv)⟩
    have := World.block_lt_of_cell? w _ g0
    rwa [add_block] at this
theorem sum_take_snoc {α : Type} (f : α → Nat) {l : List α} {k : Nat} {x : α} (h : l[k]? = some x) : ((l.take (k + 1)).map f).sum = ((l.take k).map f).sum + f x := by
  rw [take_snoc' h]; simp
theorem sum_take_le {α : Type} (f : α → Nat) (l : List α) (k : Nat) : ((l.take k).map f).sum ≤ (l.map f).sum := by
  have := congrArg (fun m => (m.map f).sum) (List.take_append_drop k l)
  simp only [List.map_append, List.sum_append] at this
  omega
theorem le_sum {α : Type} (f : α → Nat) {l : List α} {x : α} (h : x ∈ l) : f x ≤ (l.map f).sum := by
  induction l with
  | nil => cases h
  | cons a l ih =>
    simp only [List.map_cons, List.sum_cons]
    rcases List.mem_cons.1 h with rfl | h
    · omega
    · have := ih h; omega
def szN (f : Nat) (x : Nd) : Nat := 1 + x.name.size + szT f x.kids + (x.ls.map fun v => szL v.l).sum
theorem szT_succ (f : Nat) (T : List Nd) : szT (f + 1) T = (T.map (szN f)).sum := rfl
set_option maxRecDepth 100000 in
set_option maxHeartbeats 2000000 in
theorem size_any (f : Nat) : ∀ (m : Nat) (a : Option Addr) (c : Nat) (T : List Nd) (deep : Int) (w : World), deep + f = 10 → 0 ≤ deep → TrRd w m a c T → szT f T ≤ 1100000 →
    Calls Tryz.prog 116 #[.slice a T.length c, .int .i64 deep] w fun e w' => e = .returned (.int .i64 ((szT f T : Nat) : Int)) ∧ Below w.heap.size w w' := by
  induction f with
  | zero =>
    intro m a c T deep w hd h0 hT hs
    obtain rfl : deep = 10 := by omega
    have hlen := hT.sl.2.1
    have hcap := hT.sl.2.2.1
    clear hT hs hd h0
    unfold maxLen at hcap
    go_enter Tryz.func116, Tryz.ntmps116
    go_wp2_with fail
    go_loop [5, 6] (fun n i => n = .int .i64 0 ∧ i = .int .i64 0) (fun _ _ => 0)
    case atStart => exact ⟨rfl, rfl⟩
    case round =>
      obtain ⟨rfl, rfl⟩ := hrel
      by_cases hl : 0 < T.length
      all_goals
        go_wp2_with fail
        go_ret
        exact ⟨rfl, Below.refl _ _⟩
  | succ f ih =>
    intro m a c T deep w hd h0 hT hs
    have HT := Lib.hid hT
    have hlen := hT.sl.2.1
    have hcap := hT.sl.2.2.1
    have Hs := Lib.hid hs
    have hd9 : deep < 10 := by omega
    have Hd := Lib.hid hd
    clear hT hs hd
    unfold maxLen at hcap
    go_enter Tryz.func116, Tryz.ntmps116
    go_wp2_with fail
    go_loopw [5, 6] (fun n i wr => ∃ q : Nat, q ≤ T.length ∧ i = .int .i64 q ∧ n = .int .i64 ((((T.take q).map (szN f)).sum : Nat) : Int) ∧ Below w.heap.size w wr) (fun _ i _ => T.length - (intOf i).toNat)
    case atStart => exact ⟨0, Nat.zero_le _, rfl, rfl, Below.refl _ _⟩
    case round =>
      obtain ⟨q, hq, rfl, rfl, hb⟩ := hrel
      have HB := Lib.hid hb
      clear hb
      by_cases hlt : q < T.length
      · obtain ⟨x, hx⟩ : ∃ x, T[q]? = some x := ⟨T[q], by simp [hlt]⟩
        have hmem := List.mem_of_getElem? hx
        cases m with
        | zero => exact absurd HT.out.1 (by intro e; rw [e] at hlt; cases hlt)
        | succ m =>
          obtain ⟨ad, had, ⟨c0, c1, c2⟩, hlb⟩ := nds_at (HT.out.below HB.out).sl hx
          have hsum := sum_take_snoc (szN f) hx
          have hle := sum_take_le (szN f) T (q + 1)
          have hs1 := Hs.out
          rw [szT_succ] at hs1
          have Hsum := Lib.hid hsum
          have hxn : szN f x = 1 + x.name.size + szT f x.kids + (x.ls.map fun v => szL v.l).sum := rfl
          have Hxn := Lib.hid hxn
          have hS : ((T.take q).map (szN f)).sum + szN f x ≤ 1100000 := by omega
          clear hsum hle hs1
          generalize hSS : ((T.take q).map (szN f)).sum = S at *
          clear hSS
          have hnm : x.name.size ≤ 1100000 := by omega
          have hbl : szT f x.kids ≤ 1100000 := by omega
          have hS2 : S + (1 + x.name.size + szT f x.kids) ≤ 1100000 := by omega
          have hS3 : S + (1 + x.name.size + szT f x.kids) + (x.ls.map fun v => szL v.l).sum ≤ 1100000 := by omega
          clear hxn hS
          have Hx := Lib.hid ((HT.out.2 x hmem))
          subst had
          have Hxx := Lib.hid hx
          clear hmem hx
          go_upto_region 5 with (fail)
          refine region_text [([0, 1, 2, 3, 4, 5, 6, 7, 8, 9, 10, 11, 12, 13, 14, 15], false), ([16], true), ([17, 18], false)] mixed (by kernel_rfl) ?_
          simp only [wpSegs, List.map_cons, List.map_nil, List.getD_cons_succ, List.getD_cons_zero]
          go_wp2_with fail
          refine (ih m x.ba x.bc x.kids (deep + 1) _ (by have := Hd.out; omega) (by omega) ((Hx.out.2.below HB.out).below ((Below.refl _ _).drew)) hbl).mono ?_
          rintro e w1 ⟨rfl, hb1⟩
          have HA := Lib.hid (Agree.of_below hb1)
          have HB1 := Lib.hid (below2 HB.out (((Below.refl _ _).drew).trans hb1) HB.out.size)
          clear hb1
          generalize hsk : szT f x.kids = sk at *
          clear hsk
          go_wp2_with fail
          refine And.intro HA.out ?_
          go_wp2_with fail
          refine And.intro (by kernel_rfl) ?_
          clear HA c0 c1 c2
          go_wp2_with fail
          have HX1 := Lib.hid (Hx.out.1.below HB1.out)
          have hll := HX1.out.1.2.1
          have hlc := HX1.out.1.2.2.1
          unfold maxLen at hlc
          go_loopw [5, 7] (fun n k wx => ∃ r : Nat, r ≤ x.ls.length ∧ k = .int .i64 r ∧ n = .int .i64 ((S + (1 + x.name.size + sk) + ((x.ls.take r).map fun v => szL v.l).sum : Nat) : Int) ∧ Below w.heap.size w wx) (fun _ k _ => x.ls.length - (intOf k).toNat)
          case atStart => exact ⟨0, Nat.zero_le _, rfl, by simp; omega, HB1.out⟩
          case round =>
            obtain ⟨r, hr, rfl, rfl, hbx⟩ := hrel
            have HBx := Lib.hid hbx
            clear hbx
            obtain ⟨ad', had', ⟨c0, c1, c2⟩, hlb'⟩ := nds_at (HT.out.below HBx.out).sl Hxx.out
            injection had' with had'
            subst had'
            by_cases hlt2 : r < x.ls.length
            · obtain ⟨v, hv⟩ : ∃ v, x.ls[r]? = some v := ⟨x.ls[r], by simp [hlt2]⟩
              obtain ⟨al, hal, ⟨e0, e1, e2, e3, e4, e5, e6, e7, e8⟩, hlv, hvr⟩ := (Hx.out.1.below HBx.out).at hv
              have hlv1 := sum_take_snoc (fun v : Lv => szL v.l) hv
              have hlv2 := sum_take_le (fun v : Lv => szL v.l) x.ls (r + 1)
              have Hlv1 := Lib.hid hlv1
              have hSr : S + (1 + x.name.size + sk) + ((x.ls.take r).map fun v => szL v.l).sum + szL v.l ≤ 1100000 := by omega
              clear hlv1 hlv2
              generalize hR : ((x.ls.take r).map fun v => szL v.l).sum = R at *
              clear hR
              obtain ⟨⟨lk, ln, lt, ld, lx, li, lm⟩, ia, ic, ta, tc⟩ := v
              rw [hal] at c1
              dsimp only at e0 e1 e2 e3 e4 e5 e6 e7 e8 hSr
              have hzl : szL ⟨lk, ln, lt, ld, lx, li, lm⟩ = 1 + lx.size + lm.length + (li.map szI).sum := rfl
              have Hzl := Lib.hid hzl
              have hz1 : lx.size ≤ 1100000 := by omega
              have hz2 : lm.length ≤ 1100000 := by omega
              have hz3 : S + (1 + x.name.size + sk) + R + (1 + lx.size + lm.length) ≤ 1100000 := by omega
              have hz4 : S + (1 + x.name.size + sk) + R + (1 + lx.size + lm.length) + (li.map szI).sum ≤ 1100000 := by omega
              have Hv := Lib.hid hvr.1.its
              have Hhv := Lib.hid hv
              clear hzl hvr hv hal hSr
              dsimp only at Hv
              go_upto_region 10 with (fail)
              have hW : Below wr.heap.size wr (wr.alloc (.cells (lcells ⟨lk, ln, lt, ld, lx, li, lm⟩ ia ic ta tc) 178)) := (Below.refl _ _).alloc (Nat.le_refl _) _
              have HW := Lib.hid hW
              have b0 := heap_new wr (.cells (lcells ⟨lk, ln, lt, ld, lx, li, lm⟩ ia ic ta tc) 178)
              simp only [lcells] at b0
              have d0 := cells_at b0
              clear b0 hW e0 e1 e2 e3 e4 e5 e6 e7 e8 c0 c1 c2
              have hil := (Hv.out.below HW.out).2.1
              have hic := (Hv.out.below HW.out).2.2.1
              unfold maxLen at hic
              go_wp2_with fail
              go_loop [5, 9] (fun n j => ∃ u : Nat, u ≤ li.length ∧ j = .int .i64 u ∧ n = .int .i64 ((S + (1 + x.name.size + sk) + R + (1 + lx.size + lm.length) + ((li.take u).map szI).sum : Nat) : Int)) (fun _ j => li.length - (intOf j).toNat)
              case atStart => exact ⟨0, Nat.zero_le _, rfl, by simp; omega⟩
              case round =>
                obtain ⟨u, hu, rfl, rfl⟩ := hrel
                by_cases hlt3 : u < li.length
                · obtain ⟨y, hy⟩ : ∃ y, li[u]? = some y := ⟨li[u], by simp [hlt3]⟩
                  obtain ⟨ai, hai, ⟨f0, f1, f2, f3, f4⟩, hli⟩ := (Hv.out.below HW.out).at hy
                  subst hai
                  simp only [lcells] at f0 f1 f2 f3 f4
                  have hy1 := sum_take_snoc szI hy
                  have hy2 := sum_take_le szI li (u + 1)
                  have Hy1 := Lib.hid hy1
                  have hyz : szI y = 1 + y.x.size := rfl
                  have hyn : S + (1 + x.name.size + sk) + R + (1 + lx.size + lm.length) + ((li.take u).map szI).sum + (1 + y.x.size) ≤ 1100000 := by omega
                  have Hyz := Lib.hid hyz
                  clear hy hy1 hy2 hyz
                  generalize hG : ((li.take u).map szI).sum = G at *
                  clear hG
                  go_wp2_with fail
                  go_round
                  case rel => exact ⟨u + 1, by omega, by go_num, by rw [Hy1.out, Hyz.out]; exact congrArg (Value.int .i64) (by omega)⟩
                  case measure => simp [intOf]; omega
                · have hfin : ((li.take u).map szI).sum = (li.map szI).sum := by rw [List.take_of_length_le (by omega)]
                  have hend : S + (1 + x.name.size + sk) + R + (1 + lx.size + lm.length) + (li.map szI).sum = S + (1 + x.name.size + sk) + ((x.ls.take (r + 1)).map fun v => szL v.l).sum := by rw [Hlv1.out, Hzl.out]; omega
                  rw [hfin, hend]
                  clear hfin hend
                  go_wp2_with fail
                  go_roundw
                  case rel => exact ⟨r + 1, by omega, by go_num, rfl, below2 HBx.out HW.out HBx.out.size⟩
                  case measure => simp [intOf]; omega
            · have hfin : ((x.ls.take r).map fun v => szL v.l).sum = (x.ls.map fun v => szL v.l).sum := by rw [List.take_of_length_le (by omega)]
              have hend : S + (1 + x.name.size + sk) + (x.ls.map fun v => szL v.l).sum = ((T.take (q + 1)).map (szN f)).sum := by rw [Hsum.out, Hxn.out]; omega
              rw [hfin, hend]
              have Hend := Lib.hid hend
              clear hfin hend
              go_wp2_with fail
              go_roundw
              case rel => exact ⟨q + 1, by omega, by go_num, rfl, HBx.out⟩
              case measure => simp [intOf]; omega
      · have hfin : ((T.take q).map (szN f)).sum = szT (f + 1) T := by rw [List.take_of_length_le (by omega)]; rfl
        rw [hfin]
        go_wp2_with fail
        go_ret
        exact ⟨rfl, HB.out⟩
set_option maxRecDepth 100000 in
theorem greatT_any (m : Nat) (a : Option Addr) (c : Nat) (T : List Nd) (w : World) (hT : TrRd w m a c T) (hs : szT 10 T ≤ 1100000) :
    Calls Tryz.prog 53 #[.slice a T.length c] w fun e w' => ∃ z : Bool, e = .returned (.bool z) ∧ (z = false → szT 10 T ≤ 1500) ∧ Below w.heap.size w w' := by
  have HT := Lib.hid hT
  have Hs := Lib.hid hs
  clear hT hs
  go_enter Tryz.func53, Tryz.ntmps53
  go_wp2_with fail
  refine (size_any 10 m a c T 0 _ (by omega) (by omega) HT.out Hs.out).mono ?_
  rintro e w1 ⟨rfl, hb⟩
  have HB := Lib.hid hb
  clear hb
  go_wp2_with fail
  go_ret
  exact ⟨_, rfl, fun h => by simp at h; omega, HB.out⟩
end Go.Proofs.YtaandcblndldmaaGreat

/- RefLC -/
namespace Go.Proofs.YtaandcblndldmaaGreat
open Go.RowKit
set_option linter.unusedVariables false
set_option linter.unusedSimpArgs false

theorem notMay {l : Lf} (h1 : l.k = 1 → ¬ (NoReg l ∧ l.items = [] ∧ l.tombs = [])) (h2 : l.k = 2 → ¬ (l.n = 0 ∧ MayReg l.t l.d l.x ∧ l.items = [] ∧ l.tombs = [])) (h3 : l.k = 3 → ¬ (l.n = 0 ∧ NoReg l)) (h4 : l.k = 4 → ¬ (l.n = 0 ∧ NoReg l ∧ l.tombs = [])) : ¬ MayLf l := by
  rintro (h | h | h | h)
  · exact h1 h.1 h.2
  · exact h2 h.1 h.2
  · exact h3 h.1 ⟨h.2.1, h.2.2.1⟩
  · exact h4 h.1 ⟨h.2.1, h.2.2.1, h.2.2.2.2⟩
theorem len_pos {α : Type} {l : List α} (h : l ≠ []) : 0 < l.length := List.length_pos_iff.2 h

set_option maxRecDepth 100000 in
set_option maxHeartbeats 8000000 in
theorem rmayK3 (l : Lf) (ia ta : Option Addr) (ic tc : Nat) (w : World) (hl : LfAt w l ia ic ta tc) (h0 : 0 ≤ l.t) (hk : l.k = 3) :
    Calls Tryz.prog 195 #[lval l ia ic ta tc] w fun e w' => ∃ q : Bool, e = .returned (.bool q) ∧ (q = true ↔ MayLf l) ∧ Below w.heap.size w w' := by
  obtain ⟨lk, ln, lt, ⟨⟨lr, li⟩, ls⟩, lx, is, ts⟩ := l
  dsimp only at hk h0
  subst hk
  have H0 := Lib.hid h0
  have Hl := Lib.hid hl
  clear hl h0
  by_cases hn : ln = 0
  · subst hn
    by_cases ht : lt = 0
    · subst ht
      cases hd : eqD ((lr, li), ls) ((0, 0), 0) with
      | false =>
        have He := Lib.hid (show ¬ MayLf ⟨3, 0, 0, ((lr, li), ls), lx, is, ts⟩ from notMay (fun h => by simp at h) (fun h => by simp at h) (fun _ hh => by have := (eqD_iff _ _).2 (show ((lr, li), ls) = ((0, 0), 0) from hh.2.2.1); rw [hd] at this; cases this) (fun h => by simp at h))
        simp only [lval]
        go_enter Tryz.func195, Tryz.ntmps195
        go_wp2_with fail
        go_ret
        first
          | exact ⟨false, rfl, false_iff' He.out, ((Below.refl _ _).alloc (Nat.le_refl _) _).alloc (by simp) _⟩
          | exact .inl ⟨rfl, He.out, ((Below.refl _ _).alloc (Nat.le_refl _) _).alloc (by simp) _⟩
      | true =>
        by_cases hx : lx.toList = []
        · have Hd := Lib.hid ((eqD_iff _ _).1 hd)
          have Hx := Lib.hid (toList_nil.1 hx)
          refine (rmayL3 lr li ls lx is ts ia ta ic tc w Hl.out hd hx).mono ?_
          rintro e w1 ⟨q, rfl, hq, hb⟩
          refine ⟨q, rfl, hq.trans ?_, hb⟩
          constructor
          · intro h
            have h2 := allIT h.1 h.2
            exact .inr (.inr (.inl ⟨rfl, rfl, ⟨rfl, Hd.out, Hx.out⟩, h2.1, h2.2⟩))
          · rintro (⟨h, _⟩ | ⟨h, _⟩ | ⟨_, _, _, h1, h2⟩ | ⟨h, _⟩)
            · simp at h
            · simp at h
            · exact allIT' h1 h2
            · simp at h
        · have hx' : lx.toList.isEmpty = false := by simpa using hx
          have He := Lib.hid (show ¬ MayLf ⟨3, 0, 0, ((lr, li), ls), lx, is, ts⟩ from notMay (fun h => by simp at h) (fun h => by simp at h) (fun _ hh => hx (toList_nil.2 hh.2.2.2)) (fun h => by simp at h))
          simp only [lval]
          go_enter Tryz.func195, Tryz.ntmps195
          go_wp2_with fail
          go_ret
          first
            | exact ⟨false, rfl, false_iff' He.out, ((Below.refl _ _).alloc (Nat.le_refl _) _).alloc (by simp) _⟩
            | exact .inl ⟨rfl, He.out, ((Below.refl _ _).alloc (Nat.le_refl _) _).alloc (by simp) _⟩
    · have ht' : (lt == 0) = false := by simpa using ht
      have He := Lib.hid (show ¬ MayLf ⟨3, 0, lt, ((lr, li), ls), lx, is, ts⟩ from notMay (fun h => by simp at h) (fun h => by simp at h) (fun _ hh => ht hh.2.1) (fun h => by simp at h))
      simp only [lval]
      go_enter Tryz.func195, Tryz.ntmps195
      go_wp2_with fail
      go_ret
      first
        | exact ⟨false, rfl, false_iff' He.out, ((Below.refl _ _).alloc (Nat.le_refl _) _).alloc (by simp) _⟩
        | exact .inl ⟨rfl, He.out, ((Below.refl _ _).alloc (Nat.le_refl _) _).alloc (by simp) _⟩
  · have hn' : (ln != 0) = true := by simpa using hn
    have He := Lib.hid (show ¬ MayLf ⟨3, ln, lt, ((lr, li), ls), lx, is, ts⟩ from notMay (fun h => by simp at h) (fun h => by simp at h) (fun _ hh => hn hh.1) (fun h => by simp at h))
    clear hn
    simp only [lval]
    go_enter Tryz.func195, Tryz.ntmps195
    go_wp2_with fail
    go_ret
    first
      | exact ⟨false, rfl, false_iff' He.out, (Below.refl _ _).alloc (Nat.le_refl _) _⟩
      | exact .inl ⟨rfl, He.out, (Below.refl _ _).alloc (Nat.le_refl _) _⟩

set_option maxRecDepth 100000 in
set_option maxHeartbeats 8000000 in
theorem rmayK4 (l : Lf) (ia ta : Option Addr) (ic tc : Nat) (w : World) (hl : LfAt w l ia ic ta tc) (h0 : 0 ≤ l.t) (hk : l.k = 4) :
    Calls Tryz.prog 195 #[lval l ia ic ta tc] w fun e w' => ∃ q : Bool, e = .returned (.bool q) ∧ (q = true ↔ MayLf l) ∧ Below w.heap.size w w' := by
  obtain ⟨lk, ln, lt, ⟨⟨lr, li⟩, ls⟩, lx, is, ts⟩ := l
  dsimp only at hk h0
  subst hk
  have H0 := Lib.hid h0
  have Hl := Lib.hid hl
  clear hl h0
  by_cases hn : ln = 0
  · subst hn
    by_cases hts : ts = []
    · subst hts
      by_cases ht : lt = 0
      · subst ht
        cases hd : eqD ((lr, li), ls) ((0, 0), 0) with
        | false =>
          have He := Lib.hid (show ¬ MayLf ⟨4, 0, 0, ((lr, li), ls), lx, is, []⟩ from notMay (fun h => by simp at h) (fun h => by simp at h) (fun h => by simp at h) (fun _ hh => by have := (eqD_iff _ _).2 (show ((lr, li), ls) = ((0, 0), 0) from hh.2.1.2.1); rw [hd] at this; cases this))
          simp only [lval]
          go_enter Tryz.func195, Tryz.ntmps195
          go_wp2_with fail
          go_ret
          first
            | exact ⟨false, rfl, false_iff' He.out, ((Below.refl _ _).alloc (Nat.le_refl _) _).alloc (by simp) _⟩
            | exact .inl ⟨rfl, He.out, ((Below.refl _ _).alloc (Nat.le_refl _) _).alloc (by simp) _⟩
        | true =>
          by_cases hx : lx.toList = []
          · have Hd := Lib.hid ((eqD_iff _ _).1 hd)
            have Hx := Lib.hid (toList_nil.1 hx)
            refine (rmayL4 lr li ls lx is [] ia ta ic tc w Hl.out hd hx rfl).mono ?_
            rintro e w1 ⟨q, rfl, hq, hb⟩
            refine ⟨q, rfl, hq.trans ?_, hb⟩
            constructor
            · intro h
              exact .inr (.inr (.inr ⟨rfl, rfl, ⟨rfl, Hd.out, Hx.out⟩, h.1.1, rfl⟩))
            · rintro (⟨h, _⟩ | ⟨h, _⟩ | ⟨h, _⟩ | ⟨_, _, _, h1, _⟩)
              · simp at h
              · simp at h
              · simp at h
              · exact ⟨⟨h1, by simp⟩, by simp, by simp⟩
          · have hx' : lx.toList.isEmpty = false := by simpa using hx
            have He := Lib.hid (show ¬ MayLf ⟨4, 0, 0, ((lr, li), ls), lx, is, []⟩ from notMay (fun h => by simp at h) (fun h => by simp at h) (fun h => by simp at h) (fun _ hh => hx (toList_nil.2 hh.2.1.2.2)))
            simp only [lval]
            go_enter Tryz.func195, Tryz.ntmps195
            go_wp2_with fail
            go_ret
            first
              | exact ⟨false, rfl, false_iff' He.out, ((Below.refl _ _).alloc (Nat.le_refl _) _).alloc (by simp) _⟩
              | exact .inl ⟨rfl, He.out, ((Below.refl _ _).alloc (Nat.le_refl _) _).alloc (by simp) _⟩
      · have ht' : (lt == 0) = false := by simpa using ht
        have He := Lib.hid (show ¬ MayLf ⟨4, 0, lt, ((lr, li), ls), lx, is, []⟩ from notMay (fun h => by simp at h) (fun h => by simp at h) (fun h => by simp at h) (fun _ hh => ht hh.2.1.1))
        simp only [lval]
        go_enter Tryz.func195, Tryz.ntmps195
        go_wp2_with fail
        go_ret
        first
          | exact ⟨false, rfl, false_iff' He.out, ((Below.refl _ _).alloc (Nat.le_refl _) _).alloc (by simp) _⟩
          | exact .inl ⟨rfl, He.out, ((Below.refl _ _).alloc (Nat.le_refl _) _).alloc (by simp) _⟩
    · have hlen := len_pos hts
      have He := Lib.hid (show ¬ MayLf ⟨4, 0, lt, ((lr, li), ls), lx, is, ts⟩ from notMay (fun h => by simp at h) (fun h => by simp at h) (fun h => by simp at h) (fun _ hh => hts hh.2.2))
      clear hts
      simp only [lval]
      go_enter Tryz.func195, Tryz.ntmps195
      go_wp2_with fail
      go_ret
      first
        | exact ⟨false, rfl, false_iff' He.out, (Below.refl _ _).alloc (Nat.le_refl _) _⟩
        | exact .inl ⟨rfl, He.out, (Below.refl _ _).alloc (Nat.le_refl _) _⟩
  · have hn' : (ln != 0) = true := by simpa using hn
    have He := Lib.hid (show ¬ MayLf ⟨4, ln, lt, ((lr, li), ls), lx, is, ts⟩ from notMay (fun h => by simp at h) (fun h => by simp at h) (fun h => by simp at h) (fun _ hh => hn hh.1))
    clear hn
    simp only [lval]
    go_enter Tryz.func195, Tryz.ntmps195
    go_wp2_with fail
    go_ret
    first
      | exact ⟨false, rfl, false_iff' He.out, (Below.refl _ _).alloc (Nat.le_refl _) _⟩
      | exact .inl ⟨rfl, He.out, (Below.refl _ _).alloc (Nat.le_refl _) _⟩

set_option maxRecDepth 100000 in
set_option maxHeartbeats 8000000 in
theorem rmayK1 (l : Lf) (ia ta : Option Addr) (ic tc : Nat) (w : World) (hl : LfAt w l ia ic ta tc) (h0 : 0 ≤ l.t) (hk : l.k = 1) :
    Calls Tryz.prog 195 #[lval l ia ic ta tc] w fun e w' => ∃ q : Bool, e = .returned (.bool q) ∧ (q = true ↔ MayLf l) ∧ Below w.heap.size w w' := by
  obtain ⟨lk, ln, lt, ⟨⟨lr, li⟩, ls⟩, lx, is, ts⟩ := l
  dsimp only at hk h0
  subst hk
  have H0 := Lib.hid h0
  have Hl := Lib.hid hl
  clear hl h0
  by_cases his : is = []
  · subst his
    by_cases hts : ts = []
    · subst hts
      by_cases ht : lt = 0
      · subst ht
        cases hd : eqD ((lr, li), ls) ((0, 0), 0) with
        | false =>
          have He := Lib.hid (show ¬ MayLf ⟨1, ln, 0, ((lr, li), ls), lx, [], []⟩ from notMay (fun _ hh => by have := (eqD_iff _ _).2 (show ((lr, li), ls) = ((0, 0), 0) from hh.1.2.1); rw [hd] at this; cases this) (fun h => by simp at h) (fun h => by simp at h) (fun h => by simp at h))
          simp only [lval]
          go_enter Tryz.func195, Tryz.ntmps195
          go_wp2_with fail
          go_ret
          first
            | exact ⟨false, rfl, false_iff' He.out, ((Below.refl _ _).alloc (Nat.le_refl _) _).alloc (by simp) _⟩
            | exact .inl ⟨rfl, He.out, ((Below.refl _ _).alloc (Nat.le_refl _) _).alloc (by simp) _⟩
        | true =>
          by_cases hx : lx.toList = []
          · have Hd := Lib.hid ((eqD_iff _ _).1 hd)
            have Hx := Lib.hid (toList_nil.1 hx)
            simp only [lval]
            have E : Hid (RM w (lcells ⟨1, ln, 0, ((lr, li), ls), lx, [], []⟩ ia ic ta tc) #[.int .u8 0, .int .u32 0, .int .u64 0] (two w (lcells ⟨1, ln, 0, ((lr, li), ls), lx, [], []⟩ ia ic ta tc) #[.int .u8 0, .int .u32 0, .int .u64 0] 178 49)) := Lib.hid (RM.of (Below.refl _ _))
            go_enter Tryz.func195, Tryz.ntmps195
            go_wp2_with fail
            go_loopw [4] (fun j wr => j = .int .i64 0 ∧ Hid (RM w (lcells ⟨1, ln, 0, ((lr, li), ls), lx, [], []⟩ ia ic ta tc) #[.int .u8 0, .int .u32 0, .int .u64 0] wr)) (fun j _ => 0)
            case atStart => exact ⟨rfl, E⟩
            case round =>
              obtain ⟨rfl, hE⟩ := hrel
              have E := Lib.hid hE.out
              have g0 := cells_at E.out.g
              simp only [lcells] at g0
              clear hE
              go_wp2_with fail
              go_loopw [6] (fun j wr => j = .int .i64 0 ∧ Hid (RM w (lcells ⟨1, ln, 0, ((lr, li), ls), lx, [], []⟩ ia ic ta tc) #[.int .u8 0, .int .u32 0, .int .u64 0] wr)) (fun j _ => 0)
              case atStart => exact ⟨rfl, E⟩
              case round =>
                clear E g0
                obtain ⟨rfl, hE⟩ := hrel
                have E := Lib.hid hE.out
                have g0 := cells_at E.out.g
                simp only [lcells] at g0
                clear hE
                go_wp2_with fail
                go_ret
                exact ⟨true, rfl, true_iff' (.inl ⟨rfl, ⟨rfl, Hd.out, Hx.out⟩, rfl, rfl⟩), E.out.bel⟩
          · have hx' : lx.toList.isEmpty = false := by simpa using hx
            have He := Lib.hid (show ¬ MayLf ⟨1, ln, 0, ((lr, li), ls), lx, [], []⟩ from notMay (fun _ hh => hx (toList_nil.2 hh.1.2.2)) (fun h => by simp at h) (fun h => by simp at h) (fun h => by simp at h))
            simp only [lval]
            go_enter Tryz.func195, Tryz.ntmps195
            go_wp2_with fail
            go_ret
            first
              | exact ⟨false, rfl, false_iff' He.out, ((Below.refl _ _).alloc (Nat.le_refl _) _).alloc (by simp) _⟩
              | exact .inl ⟨rfl, He.out, ((Below.refl _ _).alloc (Nat.le_refl _) _).alloc (by simp) _⟩
      · have ht' : (lt == 0) = false := by simpa using ht
        have He := Lib.hid (show ¬ MayLf ⟨1, ln, lt, ((lr, li), ls), lx, [], []⟩ from notMay (fun _ hh => ht hh.1.1) (fun h => by simp at h) (fun h => by simp at h) (fun h => by simp at h))
        simp only [lval]
        go_enter Tryz.func195, Tryz.ntmps195
        go_wp2_with fail
        go_ret
        first
          | exact ⟨false, rfl, false_iff' He.out, ((Below.refl _ _).alloc (Nat.le_refl _) _).alloc (by simp) _⟩
          | exact .inl ⟨rfl, He.out, ((Below.refl _ _).alloc (Nat.le_refl _) _).alloc (by simp) _⟩
    · have hlen := len_pos hts
      have He := Lib.hid (show ¬ MayLf ⟨1, ln, lt, ((lr, li), ls), lx, [], ts⟩ from notMay (fun _ hh => hts hh.2.2) (fun h => by simp at h) (fun h => by simp at h) (fun h => by simp at h))
      clear hts
      simp only [lval]
      go_enter Tryz.func195, Tryz.ntmps195
      go_wp2_with fail
      go_ret
      first
        | exact ⟨false, rfl, false_iff' He.out, (Below.refl _ _).alloc (Nat.le_refl _) _⟩
        | exact .inl ⟨rfl, He.out, (Below.refl _ _).alloc (Nat.le_refl _) _⟩
  · have hlen := len_pos his
    have He := Lib.hid (show ¬ MayLf ⟨1, ln, lt, ((lr, li), ls), lx, is, ts⟩ from notMay (fun _ hh => his hh.2.1) (fun h => by simp at h) (fun h => by simp at h) (fun h => by simp at h))
    clear his
    simp only [lval]
    go_enter Tryz.func195, Tryz.ntmps195
    go_wp2_with fail
    go_ret
    first
      | exact ⟨false, rfl, false_iff' He.out, (Below.refl _ _).alloc (Nat.le_refl _) _⟩
      | exact .inl ⟨rfl, He.out, (Below.refl _ _).alloc (Nat.le_refl _) _⟩

set_option maxRecDepth 100000 in
set_option maxHeartbeats 8000000 in
theorem rmayK2 (l : Lf) (ia ta : Option Addr) (ic tc : Nat) (w : World) (hl : LfAt w l ia ic ta tc) (h0 : 0 ≤ l.t) (hk : l.k = 2) :
    Calls Tryz.prog 195 #[lval l ia ic ta tc] w fun e w' => ∃ q : Bool, e = .returned (.bool q) ∧ (q = true ↔ MayLf l) ∧ Below w.heap.size w w' := by
  obtain ⟨lk, ln, lt, ⟨⟨lr, li⟩, ls⟩, lx, is, ts⟩ := l
  dsimp only at hk h0
  subst hk
  have H0 := Lib.hid h0
  have Hl := Lib.hid hl
  clear hl h0
  by_cases hn : ln = 0
  · subst hn
    by_cases his : is = []
    · subst his
      by_cases hts : ts = []
      · subst hts
        by_cases ht : lt = 0
        · subst ht
          cases hd : eqD ((lr, li), ls) ((0, 0), 0) with
          | false =>
            have He := Lib.hid (show ¬ MayLf ⟨2, 0, 0, ((lr, li), ls), lx, [], []⟩ from notMay (fun h => by simp at h) (fun _ hh => by
              rcases hh.2.1 with ⟨_, h, _⟩ | ⟨h, _⟩
              · have := (eqD_iff _ _).2 (show ((lr, li), ls) = ((0, 0), 0) from h); rw [hd] at this; cases this
              · exact h rfl) (fun h => by simp at h) (fun h => by simp at h))
            simp only [lval]
            go_enter Tryz.func195, Tryz.ntmps195
            go_wp2_with fail
            go_ret
            first
              | exact ⟨false, rfl, false_iff' He.out, ((Below.refl _ _).alloc (Nat.le_refl _) _).alloc (by simp) _⟩
              | exact .inl ⟨rfl, He.out, ((Below.refl _ _).alloc (Nat.le_refl _) _).alloc (by simp) _⟩
          | true =>
            by_cases hx : lx.toList = []
            · have Hd := Lib.hid ((eqD_iff _ _).1 hd)
              have Hx := Lib.hid (toList_nil.1 hx)
              simp only [lval]
              have E : Hid (RM w (lcells ⟨2, 0, 0, ((lr, li), ls), lx, [], []⟩ ia ic ta tc) #[.int .u8 0, .int .u32 0, .int .u64 0] (two w (lcells ⟨2, 0, 0, ((lr, li), ls), lx, [], []⟩ ia ic ta tc) #[.int .u8 0, .int .u32 0, .int .u64 0] 178 49)) := Lib.hid (RM.of (Below.refl _ _))
              go_enter Tryz.func195, Tryz.ntmps195
              go_wp2_with fail
              go_loopw [4] (fun j wr => j = .int .i64 0 ∧ Hid (RM w (lcells ⟨2, 0, 0, ((lr, li), ls), lx, [], []⟩ ia ic ta tc) #[.int .u8 0, .int .u32 0, .int .u64 0] wr)) (fun j _ => 0)
              case atStart => exact ⟨rfl, E⟩
              case round =>
                obtain ⟨rfl, hE⟩ := hrel
                have E := Lib.hid hE.out
                have g0 := cells_at E.out.g
                simp only [lcells] at g0
                clear hE
                go_wp2_with fail
                go_loopw [6] (fun j wr => j = .int .i64 0 ∧ Hid (RM w (lcells ⟨2, 0, 0, ((lr, li), ls), lx, [], []⟩ ia ic ta tc) #[.int .u8 0, .int .u32 0, .int .u64 0] wr)) (fun j _ => 0)
                case atStart => exact ⟨rfl, E⟩
                case round =>
                  clear E g0
                  obtain ⟨rfl, hE⟩ := hrel
                  have E := Lib.hid hE.out
                  have g0 := cells_at E.out.g
                  simp only [lcells] at g0
                  clear hE
                  go_wp2_with fail
                  go_ret
                  exact ⟨true, rfl, true_iff' (.inr (.inl ⟨rfl, rfl, .inl ⟨rfl, Hd.out, Hx.out⟩, rfl, rfl⟩)), E.out.bel⟩
            · have hx' : lx.toList.isEmpty = false := by simpa using hx
              have He := Lib.hid (show ¬ MayLf ⟨2, 0, 0, ((lr, li), ls), lx, [], []⟩ from notMay (fun h => by simp at h) (fun _ hh => by
                rcases hh.2.1 with ⟨_, _, h⟩ | ⟨h, _⟩
                · exact hx (toList_nil.2 h)
                · exact h rfl) (fun h => by simp at h) (fun h => by simp at h))
              simp only [lval]
              go_enter Tryz.func195, Tryz.ntmps195
              go_wp2_with fail
              go_ret
              first
                | exact ⟨false, rfl, false_iff' He.out, ((Below.refl _ _).alloc (Nat.le_refl _) _).alloc (by simp) _⟩
                | exact .inl ⟨rfl, He.out, ((Below.refl _ _).alloc (Nat.le_refl _) _).alloc (by simp) _⟩
        · have ht' : (lt == 0) = false := by simpa using ht
          by_cases htm : lt ≤ 1099511627776
          · have Ht := Lib.hid ht
            simp only [lval]
            go_enter Tryz.func195, Tryz.ntmps195
            go_wp2_with fail
            refine (rmay_any lr li ls _).mono ?_
            rintro e w1 ⟨rfl, hb1⟩
            have E : Hid (RM w (lcells ⟨2, 0, lt, ((lr, li), ls), lx, [], []⟩ ia ic ta tc) #[.int .u8 0, .int .u32 0, .int .u64 0] w1) := Lib.hid (RM.of hb1)
            have g0 := cells_at E.out.g
            simp only [lcells] at g0
            clear hb1
            cases hm : may ((lr, li), ls) with
            | false =>
              have He := Lib.hid (show ¬ MayLf ⟨2, 0, lt, ((lr, li), ls), lx, [], []⟩ from notMay (fun h => by simp at h) (fun _ hh => by
                rcases hh.2.1 with ⟨h, _⟩ | ⟨_, _, h, _⟩
                · exact Ht.out h
                · rw [hm] at h; cases h) (fun h => by simp at h) (fun h => by simp at h))
              clear hm
              go_wp2_with fail
              go_ret
              exact ⟨false, rfl, false_iff' He.out, E.out.bel⟩
            | true =>
              have Hm := Lib.hid hm
              clear hm
              by_cases hsz : lx.size ≤ 40
              · have Hsz := Lib.hid hsz
                have Htm := Lib.hid htm
                go_wp2_with fail
                go_loopw [4] (fun j wr => j = .int .i64 0 ∧ Hid (RM w (lcells ⟨2, 0, lt, ((lr, li), ls), lx, [], []⟩ ia ic ta tc) #[.int .u8 0, .int .u32 0, .int .u64 0] wr)) (fun j _ => 0)
                case atStart => exact ⟨rfl, E⟩
                case round =>
                  obtain ⟨rfl, hE⟩ := hrel
                  have E := Lib.hid hE.out
                  have g0 := cells_at E.out.g
                  simp only [lcells] at g0
                  clear hE
                  go_wp2_with fail
                  go_loopw [6] (fun j wr => j = .int .i64 0 ∧ Hid (RM w (lcells ⟨2, 0, lt, ((lr, li), ls), lx, [], []⟩ ia ic ta tc) #[.int .u8 0, .int .u32 0, .int .u64 0] wr)) (fun j _ => 0)
                  case atStart => exact ⟨rfl, E⟩
                  case round =>
                    clear E g0
                    obtain ⟨rfl, hE⟩ := hrel
                    have E := Lib.hid hE.out
                    have g0 := cells_at E.out.g
                    simp only [lcells] at g0
                    clear hE
                    go_wp2_with fail
                    go_ret
                    exact ⟨true, rfl, true_iff' (.inr (.inl ⟨rfl, rfl, .inr ⟨Ht.out, Htm.out, Hm.out, Hsz.out⟩, rfl, rfl⟩)), E.out.bel⟩
              · have hsz' : decide (40 < (lx.size : Int)) = true := by simp; omega
                have He := Lib.hid (show ¬ MayLf ⟨2, 0, lt, ((lr, li), ls), lx, [], []⟩ from notMay (fun h => by simp at h) (fun _ hh => by
                  rcases hh.2.1 with ⟨h, _⟩ | ⟨_, _, _, h⟩
                  · exact Ht.out h
                  · exact hsz h) (fun h => by simp at h) (fun h => by simp at h))
                clear hsz
                go_wp2_with fail
                go_ret
                exact ⟨false, rfl, false_iff' He.out, E.out.bel⟩
          · have htm' : decide (1099511627776 < lt) = true := by simp; omega
            have He := Lib.hid (show ¬ MayLf ⟨2, 0, lt, ((lr, li), ls), lx, [], []⟩ from notMay (fun h => by simp at h) (fun _ hh => by
              rcases hh.2.1 with ⟨h, _⟩ | ⟨_, h, _⟩
              · exact ht h
              · exact htm h) (fun h => by simp at h) (fun h => by simp at h))
            simp only [lval]
            go_enter Tryz.func195, Tryz.ntmps195
            go_wp2_with fail
            go_ret
            first
              | exact ⟨false, rfl, false_iff' He.out, ((Below.refl _ _).alloc (Nat.le_refl _) _).alloc (by simp) _⟩
              | exact .inl ⟨rfl, He.out, ((Below.refl _ _).alloc (Nat.le_refl _) _).alloc (by simp) _⟩
      · have hlen := len_pos hts
        have He := Lib.hid (show ¬ MayLf ⟨2, 0, lt, ((lr, li), ls), lx, [], ts⟩ from notMay (fun h => by simp at h) (fun _ hh => hts hh.2.2.2) (fun h => by simp at h) (fun h => by simp at h))
        clear hts
        simp only [lval]
        go_enter Tryz.func195, Tryz.ntmps195
        go_wp2_with fail
        go_ret
        first
          | exact ⟨false, rfl, false_iff' He.out, (Below.refl _ _).alloc (Nat.le_refl _) _⟩
          | exact .inl ⟨rfl, He.out, (Below.refl _ _).alloc (Nat.le_refl _) _⟩
    · have hlen := len_pos his
      have He := Lib.hid (show ¬ MayLf ⟨2, 0, lt, ((lr, li), ls), lx, is, ts⟩ from notMay (fun h => by simp at h) (fun _ hh => his hh.2.2.1) (fun h => by simp at h) (fun h => by simp at h))
      clear his
      simp only [lval]
      go_enter Tryz.func195, Tryz.ntmps195
      go_wp2_with fail
      go_ret
      first
        | exact ⟨false, rfl, false_iff' He.out, (Below.refl _ _).alloc (Nat.le_refl _) _⟩
        | exact .inl ⟨rfl, He.out, (Below.refl _ _).alloc (Nat.le_refl _) _⟩
  · have hn' : (ln != 0) = true := by simpa using hn
    have He := Lib.hid (show ¬ MayLf ⟨2, ln, lt, ((lr, li), ls), lx, is, ts⟩ from notMay (fun h => by simp at h) (fun _ hh => hn hh.1) (fun h => by simp at h) (fun h => by simp at h))
    clear hn
    simp only [lval]
    go_enter Tryz.func195, Tryz.ntmps195
    go_wp2_with fail
    go_ret
    first
      | exact ⟨false, rfl, false_iff' He.out, (Below.refl _ _).alloc (Nat.le_refl _) _⟩
      | exact .inl ⟨rfl, He.out, (Below.refl _ _).alloc (Nat.le_refl _) _⟩

set_option maxRecDepth 100000 in
set_option maxHeartbeats 4000000 in
theorem rmayK5 (l : Lf) (ia ta : Option Addr) (ic tc : Nat) (w : World) (hk : l.k ≠ 1 ∧ l.k ≠ 2 ∧ l.k ≠ 3 ∧ l.k ≠ 4) :
    Calls Tryz.prog 195 #[lval l ia ic ta tc] w fun e w' => ∃ q : Bool, e = .returned (.bool q) ∧ (q = true ↔ MayLf l) ∧ Below w.heap.size w w' := by
  have He := Lib.hid (show ¬ MayLf l by intro h; rcases h.kind with h | h | h | h <;> simp [h] at hk)
  obtain ⟨lk, ln, lt, ⟨⟨lr, li⟩, ls⟩, lx, is, ts⟩ := l
  dsimp only at hk
  simp only [lval]
  by_cases h1 : lk < 1
  · clear hk
    go_enter Tryz.func195, Tryz.ntmps195
    go_wp2_with fail
    go_ret
    exact ⟨false, rfl, false_iff' He.out, (Below.refl _ _).alloc (Nat.le_refl _) _⟩
  · have h1' : decide (lk < 1) = false := by simpa using h1
    have h2 : decide (4 < lk) = true := by simp; omega
    clear hk h1
    go_enter Tryz.func195, Tryz.ntmps195
    go_wp2_with fail
    go_ret
    exact ⟨false, rfl, false_iff' He.out, (Below.refl _ _).alloc (Nat.le_refl _) _⟩
theorem rmayLf_any (l : Lf) (ia ta : Option Addr) (ic tc : Nat) (w : World) (hl : LfAt w l ia ic ta tc) (hok : okL l) :
    Calls Tryz.prog 195 #[lval l ia ic ta tc] w fun e w' => ∃ q : Bool, e = .returned (.bool q) ∧ (q = true ↔ MayLf l) ∧ Below w.heap.size w w' := by
  by_cases h1 : l.k = 1
  · exact rmayK1 l ia ta ic tc w hl hok.2.1.1 h1
  by_cases h2 : l.k = 2
  · exact rmayK2 l ia ta ic tc w hl hok.2.1.1 h2
  by_cases h3 : l.k = 3
  · exact rmayK3 l ia ta ic tc w hl hok.2.1.1 h3
  by_cases h4 : l.k = 4
  · exact rmayK4 l ia ta ic tc w hl hok.2.1.1 h4
  exact rmayK5 l ia ta ic tc w ⟨h1, h2, h3, h4⟩
end Go.Proofs.YtaandcblndldmaaGreat

/- MeanW -/
namespace Go.Proofs.YtaandcblndldmaaGreat
open Go.RowKit
set_option linter.unusedVariables false
set_option linter.unusedSimpArgs false

/-- leaves are so long at the most -/
def BdT (b : Nat) : Nat → List Nd → Prop
  | 0, _ => True
  | n + 1, T => ∀ x ∈ T, (∀ v ∈ x.ls, v.l.items.length ≤ b ∧ v.l.tombs.length ≤ b) ∧ BdT b n x.kids
def nlt (a b : Nd) : Prop := ltS a.name b.name = true
def klt (a b : Lv) : Prop := a.l.k < b.l.k
/-- what is asked of one node -/
def OkN (f : Nat) (x : Nd) : Prop := NameP x.name ∧ (x.ls ≠ [] ∨ x.kids ≠ []) ∧ MayT f x.kids ∧ MayLs x.ls
theorem mayT_of {f : Nat} {T : List Nd} (h : ∀ x ∈ T, OkN f x) (k : upTo nlt T T.length) : MayT (f + 1) T :=
  ⟨upTo.all (lt := nlt) (fun {a b c} => ltS_trans) k (Nat.le_refl _), h⟩
theorem not_node {f : Nat} {T : List Nd} {q : Nat} {x : Nd} (hx : T[q]? = some x) (h : ¬ OkN f x) : ¬ MayT (f + 1) T := fun hm => h (hm.2 x (List.mem_of_getElem? hx))
theorem not_pair {f : Nat} {T : List Nd} {q : Nat} {x y : Nd} (hx : T[q]? = some x) (hy : T[q + 1]? = some y) (h : ltS x.name y.name = false) : ¬ MayT (f + 1) T := fun hm => by
  have := pairwise_next hm.1 hx hy
  rw [h] at this; cases this
theorem not_lpair {ls : List Lv} {q : Nat} {x y : Lv} (hx : ls[q]? = some x) (hy : ls[q + 1]? = some y) (h : ¬ x.l.k < y.l.k) : ¬ MayLs ls := fun hm => h (pairwise_next hm.2 hx hy)
/-- the round's box of a node -/
structure NbE (w wr W : World) (x : Nd) : Prop where
  b0 : W.heap[wr.heap.size]? = some (.cells (ndcell x).toArray 175 (0, 0))
  bel : Below wr.heap.size wr W
theorem NbE.step {w wr W W' : World} {x : Nd} (h : NbE w wr W x) (hb : Below W.heap.size W W') : NbE w wr W' x := ⟨(hb.block _ (heap_lt h.b0)).trans h.b0, below2 h.bel hb h.bel.size⟩
/-- what the first test of a node tells -/
def CutW (f : Nat) (w wr : World) (T : List Nd) (q : Nat) (x : Nd) (v : Value) (wx : World) : Prop :=
  (v = .bool true ∧ Hid (¬ MayT (f + 1) T) ∧ Hid (Below w.heap.size w wx)) ∨
  (v = .bool false ∧ Hid (NameP x.name ∧ (x.ls ≠ [] ∨ x.kids ≠ []) ∧ MayT f x.kids) ∧ Hid (upTo nlt T (q + 1)) ∧ Hid (NbE w wr wx x))
set_option maxRecDepth 100000 in
set_option maxHeartbeats 2000000 in
theorem rmayT_any (f : Nat) : ∀ (m : Nat) (a : Option Addr) (c : Nat) (T : List Nd) (deep : Int) (w : World), deep + f = 3 → 0 ≤ deep → TrRd w m a c T → BdT 1100000 f T →
    Calls Tryz.prog 145 #[.slice a T.length c, .int .i64 deep] w (IsTo w (MayT f T)) := by
  induction f with
  | zero =>
    intro m a c T deep w hd h0 hT hB
    obtain rfl : deep = 3 := by omega
    have HT := Lib.hid hT
    have hlen := hT.sl.2.1
    have hcap := hT.sl.2.2.1
    clear hT hd h0 hB
    unfold maxLen at hcap
    go_enter Tryz.func145, Tryz.ntmps145
    go_wp2_with fail
    go_loop [5] (fun i => i = .int .i64 0) (fun _ => 0)
    case atStart => exact rfl
    case round =>
      obtain rfl := hrel
      by_cases hl : 0 < T.length
      · obtain ⟨x, hx⟩ : ∃ x, T[0]? = some x := ⟨T[0], by simp [hl]⟩
        obtain ⟨ad, had, ⟨c0, c1, c2⟩, hlb⟩ := nds_at HT.out.sl hx
        subst had
        have e00 : ad.add (0 * 3) = ad := rfl
        rw [e00] at c0 c1 c2
        clear e00
        have Hn := Lib.hid (show ¬ MayT 0 T from fun e => by have e : T = [] := e; rw [e] at hl; cases hl)
        clear hx
        go_upto_region 5 with (fail)
        refine region_text [([0, 1, 2, 3, 4, 5, 6, 7, 8, 9, 10, 11, 12, 13, 14, 15, 16, 17, 18, 19, 20, 21, 22, 23, 24, 25, 26, 27, 28, 29, 30, 31, 32, 33, 34, 35, 36, 37, 38, 39, 40, 41, 42], false)] mixed (by kernel_rfl) ?_
        simp only [wpSegs, List.map_cons, List.map_nil, List.getD_cons_succ, List.getD_cons_zero]
        go_wp2_with fail
        refine And.intro (by kernel_rfl) ?_
        go_wp2_with fail
        go_ret
        exact no_name Hn.out (((Below.refl _ _).alloc (Nat.le_refl _) _).drew)
      · have Hn := Lib.hid (show MayT 0 T from List.eq_nil_of_length_eq_zero (by omega))
        go_wp2_with fail
        go_ret
        exact yes_name Hn.out (Below.refl _ _)
  | succ f ih =>
    intro m a c T deep w hd h0 hT hB
    have HT := Lib.hid hT
    have HBd := Lib.hid hB
    have hlen := hT.sl.2.1
    have hcap := hT.sl.2.2.1
    have Hd := Lib.hid hd
    have hd3 : deep < 3 := by omega
    have e3 : decide (3 ≤ deep) = false := by simpa using hd3
    clear hT hd hB
    unfold maxLen at hcap
    go_enter Tryz.func145, Tryz.ntmps145
    go_wp2_with fail
    go_loopw [5] (fun i wr => ∃ q : Nat, q ≤ T.length ∧ i = .int .i64 q ∧ Hid (∀ x ∈ T.take q, OkN f x) ∧ Hid (upTo nlt T q) ∧ Below w.heap.size w wr) (fun i _ => T.length - (intOf i).toNat)
    case atStart => exact ⟨0, Nat.zero_le _, rfl, Lib.hid (by simp), Lib.hid upTo.zero, Below.refl _ _⟩
    case round =>
      obtain ⟨q, hq, rfl, HO, HU, hb⟩ := hrel
      have HB := Lib.hid hb
      clear hb
      by_cases hlt : q < T.length
      · obtain ⟨x, hx⟩ : ∃ x, T[q]? = some x := ⟨T[q], by simp [hlt]⟩
        have hmem := List.mem_of_getElem? hx
        cases m with
        | zero => exact absurd HT.out.1 (by intro e; rw [e] at hlt; cases hlt)
        | succ m =>
          obtain ⟨ad, had, ⟨c0, c1, c2⟩, hlb⟩ := nds_at (HT.out.below HB.out).sl hx
          subst had
          have Hx := Lib.hid hx
          have Hm := Lib.hid (HT.out.2 x hmem)
          have Hbx := Lib.hid (HBd.out x hmem)
          clear hx hmem
          go_upto_region 5 with (fail)
          go_cut [60] (fun v wx => CutW f w wr T q x v wx)
          case first =>
            have E0 : Hid (NbE w wr (wr.alloc (.cells #[.string x.name, .slice x.la x.ls.length x.lc, .slice x.ba x.kids.length x.bc] 175)) x) := Lib.hid ⟨heap_new _ _, (Below.refl _ _).alloc (Nat.le_refl _) _⟩
            refine region_text [([0, 1, 2, 3, 4, 5, 6, 7, 8, 9, 10, 11, 12, 13, 14, 15, 16, 17, 18, 19, 20, 21, 22, 23, 24, 25, 26, 27, 28, 29, 30, 31, 32, 33, 34, 35, 36, 37, 38, 39, 40, 41, 42], false)] mixed (by kernel_rfl) ?_
            simp only [wpSegs, List.map_cons, List.map_nil, List.getD_cons_succ, List.getD_cons_zero]
            go_wp2_with fail
            refine (isNameX_any x.name _).mono ?_
            intro e w1 hto
            obtain ⟨z, rfl, hz, hb1⟩ := hto
            have E := Lib.hid (E0.out.step (((Below.refl _ _).drew).trans hb1))
            have Hz := Lib.hid hz
            clear hz hb1 E0
            have d0 := cells_at E.out.b0
            simp only [ndcell] at d0
            generalize hll : x.ls.length = ll at d0
            generalize hkk : x.kids.length = kk at d0
            have Hll := Lib.hid hll
            have Hkk := Lib.hid hkk
            clear hll hkk
            obtain ⟨ad', had', ⟨c0', c1', c2'⟩, hlb'⟩ := nds_at (HT.out.below (below2 HB.out E.out.bel HB.out.size)).sl Hx.out
            injection had' with had'
            subst had'
            clear c0 c1 c2 c1' c2' hlb
            cases z with
            | false =>
              have Hn := Lib.hid (not_node (f := f) Hx.out (fun hh => by have := Hz.out.2 hh.1; cases this))
              go_wp2_with fail
              refine And.intro (by kernel_rfl) ?_
              go_wp2_with fail
              go_meet
              exact .inl ⟨rfl, Hn, Lib.hid (below2 HB.out E.out.bel HB.out.size)⟩
            | true =>
              have Hnm := Lib.hid (Hz.out.1 rfl)
              clear Hz
              cases q with
              | zero =>
                by_cases hl0 : ll = 0 ∧ kk = 0
                · have Hn := Lib.hid (not_node (f := f) Hx.out (fun hh => hh.2.1.elim (fun h => h (List.eq_nil_of_length_eq_zero (by rw [Hll.out]; exact hl0.1))) (fun h => h (List.eq_nil_of_length_eq_zero (by rw [Hkk.out]; exact hl0.2)))))
                  obtain ⟨rfl, rfl⟩ := hl0
                  go_wp2_with fail
                  refine And.intro (by kernel_rfl) ?_
                  go_wp2_with fail
                  go_meet
                  exact .inl ⟨rfl, Hn, Lib.hid (below2 HB.out E.out.bel HB.out.size)⟩
                · have Hne := Lib.hid (show x.ls ≠ [] ∨ x.kids ≠ [] from Classical.byContradiction fun hh => hl0 ⟨by rw [← Hll.out]; exact (Classical.byContradiction fun h => hh (.inl fun e => h (by rw [e]; rfl))), by rw [← Hkk.out]; exact (Classical.byContradiction fun h => hh (.inr fun e => h (by rw [e]; rfl)))⟩)
                  by_cases h1 : ll = 0
                  · have h2 : kk ≠ 0 := fun h => hl0 ⟨h1, h⟩
                    have e1 : ((ll : Int) == 0) = true := by rw [h1]; rfl
                    have e2 : ((kk : Int) == 0) = false := by simpa using h2
                    clear hl0 h1 h2
                    go_wp2_with fail
                    have hcall := ih m x.ba x.bc x.kids (deep + 1) w1 (by have := Hd.out; omega) (by omega) (Hm.out.2.below (below2 HB.out E.out.bel HB.out.size)) Hbx.out.2
                    rw [Hkk.out] at hcall
                    refine hcall.mono ?_
                    intro e w3 hto
                    obtain ⟨z2, rfl, hz2, hb3⟩ := hto
                    have E3 := Lib.hid (E.out.step hb3)
                    have Hz2 := Lib.hid hz2
                    clear hz2 hb3 d0
                    cases z2 with
                    | false =>
                      have Hn := Lib.hid (not_node (f := f) Hx.out (fun hh => by have := Hz2.out.2 hh.2.2.1; cases this))
                      go_wp2_with fail
                      refine And.intro (by kernel_rfl) ?_
                      go_wp2_with fail
                      go_meet
                      exact .inl ⟨rfl, Hn, Lib.hid (below2 HB.out E3.out.bel HB.out.size)⟩
                    | true =>
                      have Hk2 := Lib.hid (Hz2.out.1 rfl)
                      go_wp2_with fail
                      refine And.intro (by kernel_rfl) ?_
                      go_wp2_with fail
                      go_meet
                      exact .inr ⟨rfl, Lib.hid ⟨Hnm.out, Hne.out, Hk2.out⟩, Lib.hid (upTo.one), E3⟩
                  · have e1 : ((ll : Int) == 0) = false := by simpa using h1
                    clear hl0 h1
                    go_wp2_with fail
                    have hcall := ih m x.ba x.bc x.kids (deep + 1) w1 (by have := Hd.out; omega) (by omega) (Hm.out.2.below (below2 HB.out E.out.bel HB.out.size)) Hbx.out.2
                    rw [Hkk.out] at hcall
                    refine hcall.mono ?_
                    intro e w3 hto
                    obtain ⟨z2, rfl, hz2, hb3⟩ := hto
                    have E3 := Lib.hid (E.out.step hb3)
                    have Hz2 := Lib.hid hz2
                    clear hz2 hb3 d0
                    cases z2 with
                    | false =>
                      have Hn := Lib.hid (not_node (f := f) Hx.out (fun hh => by have := Hz2.out.2 hh.2.2.1; cases this))
                      go_wp2_with fail
                      refine And.intro (by kernel_rfl) ?_
                      go_wp2_with fail
                      go_meet
                      exact .inl ⟨rfl, Hn, Lib.hid (below2 HB.out E3.out.bel HB.out.size)⟩
                    | true =>
                      have Hk2 := Lib.hid (Hz2.out.1 rfl)
                      go_wp2_with fail
                      refine And.intro (by kernel_rfl) ?_
                      go_wp2_with fail
                      go_meet
                      exact .inr ⟨rfl, Lib.hid ⟨Hnm.out, Hne.out, Hk2.out⟩, Lib.hid (upTo.one), E3⟩
              | succ q =>
                obtain ⟨y, hy⟩ : ∃ y, T[q]? = some y := ⟨T[q], by simp⟩
                obtain ⟨ad', had', ⟨f0, f1, f2⟩, hlb2⟩ := nds_at (HT.out.below (below2 HB.out E.out.bel HB.out.size)).sl hy
                injection had' with had'
                subst had'
                have Hy := Lib.hid hy
                clear hy f1 f2
                cases hcmp : Op.bytesLess y.name.toList x.name.toList with
                | false =>
                  have Hn := Lib.hid (not_pair (f := f) Hy.out Hx.out hcmp)
                  go_wp2_with fail
                  refine And.intro (by kernel_rfl) ?_
                  go_wp2_with fail
                  go_meet
                  exact .inl ⟨rfl, Hn, Lib.hid (below2 HB.out E.out.bel HB.out.size)⟩
                | true =>
                  have Hup := Lib.hid (HU.out.succ Hy.out Hx.out (show nlt y x from hcmp))
                  by_cases hl0 : ll = 0 ∧ kk = 0
                  · have Hn := Lib.hid (not_node (f := f) Hx.out (fun hh => hh.2.1.elim (fun h => h (List.eq_nil_of_length_eq_zero (by rw [Hll.out]; exact hl0.1))) (fun h => h (List.eq_nil_of_length_eq_zero (by rw [Hkk.out]; exact hl0.2)))))
                    obtain ⟨rfl, rfl⟩ := hl0
                    go_wp2_with fail
                    refine And.intro (by kernel_rfl) ?_
                    go_wp2_with fail
                    go_meet
                    exact .inl ⟨rfl, Hn, Lib.hid (below2 HB.out E.out.bel HB.out.size)⟩
                  · have Hne := Lib.hid (show x.ls ≠ [] ∨ x.kids ≠ [] from Classical.byContradiction fun hh => hl0 ⟨by rw [← Hll.out]; exact (Classical.byContradiction fun h => hh (.inl fun e => h (by rw [e]; rfl))), by rw [← Hkk.out]; exact (Classical.byContradiction fun h => hh (.inr fun e => h (by rw [e]; rfl)))⟩)
                    by_cases h1 : ll = 0
                    · have h2 : kk ≠ 0 := fun h => hl0 ⟨h1, h⟩
                      have e1 : ((ll : Int) == 0) = true := by rw [h1]; rfl
                      have e2 : ((kk : Int) == 0) = false := by simpa using h2
                      clear hl0 h1 h2
                      go_wp2_with fail
                      have hcall := ih m x.ba x.bc x.kids (deep + 1) w1 (by have := Hd.out; omega) (by omega) (Hm.out.2.below (below2 HB.out E.out.bel HB.out.size)) Hbx.out.2
                      rw [Hkk.out] at hcall
                      refine hcall.mono ?_
                      intro e w3 hto
                      obtain ⟨z2, rfl, hz2, hb3⟩ := hto
                      have E3 := Lib.hid (E.out.step hb3)
                      have Hz2 := Lib.hid hz2
                      clear hz2 hb3 d0
                      cases z2 with
                      | false =>
                        have Hn := Lib.hid (not_node (f := f) Hx.out (fun hh => by have := Hz2.out.2 hh.2.2.1; cases this))
                        go_wp2_with fail
                        refine And.intro (by kernel_rfl) ?_
                        go_wp2_with fail
                        go_meet
                        exact .inl ⟨rfl, Hn, Lib.hid (below2 HB.out E3.out.bel HB.out.size)⟩
                      | true =>
                        have Hk2 := Lib.hid (Hz2.out.1 rfl)
                        go_wp2_with fail
                        refine And.intro (by kernel_rfl) ?_
                        go_wp2_with fail
                        go_meet
                        exact .inr ⟨rfl, Lib.hid ⟨Hnm.out, Hne.out, Hk2.out⟩, Lib.hid (Hup.out), E3⟩
                    · have e1 : ((ll : Int) == 0) = false := by simpa using h1
                      clear hl0 h1
                      go_wp2_with fail
                      have hcall := ih m x.ba x.bc x.kids (deep + 1) w1 (by have := Hd.out; omega) (by omega) (Hm.out.2.below (below2 HB.out E.out.bel HB.out.size)) Hbx.out.2
                      rw [Hkk.out] at hcall
                      refine hcall.mono ?_
                      intro e w3 hto
                      obtain ⟨z2, rfl, hz2, hb3⟩ := hto
                      have E3 := Lib.hid (E.out.step hb3)
                      have Hz2 := Lib.hid hz2
                      clear hz2 hb3 d0
                      cases z2 with
                      | false =>
                        have Hn := Lib.hid (not_node (f := f) Hx.out (fun hh => by have := Hz2.out.2 hh.2.2.1; cases this))
                        go_wp2_with fail
                        refine And.intro (by kernel_rfl) ?_
                        go_wp2_with fail
                        go_meet
                        exact .inl ⟨rfl, Hn, Lib.hid (below2 HB.out E3.out.bel HB.out.size)⟩
                      | true =>
                        have Hk2 := Lib.hid (Hz2.out.1 rfl)
                        go_wp2_with fail
                        refine And.intro (by kernel_rfl) ?_
                        go_wp2_with fail
                        go_meet
                        exact .inr ⟨rfl, Lib.hid ⟨Hnm.out, Hne.out, Hk2.out⟩, Lib.hid (Hup.out), E3⟩
          case rest =>
            rcases hcut with ⟨rfl, Hn, HBn⟩ | ⟨rfl, hok, HU2, E1⟩
            · go_wp2_with fail
              go_ret
              exact no_name Hn.out HBn.out
            have Hok := Lib.hid hok.out
            clear hok c0 c1 c2
            have hll := Hm.out.1.1.2.1
            have hlc := Hm.out.1.1.2.2.1
            unfold maxLen at hlc
            go_wp2_with fail
            go_loopw [7] (fun k wx => ∃ r : Nat, r ≤ x.ls.length ∧ k = .int .i64 r ∧ Hid (∀ v ∈ x.ls.take r, MayLf v.l) ∧ Hid (upTo klt x.ls r) ∧ Hid (NbE w wr wx x)) (fun k _ => x.ls.length - (intOf k).toNat)
            case atStart => exact ⟨0, Nat.zero_le _, rfl, Lib.hid (by simp), Lib.hid upTo.zero, E1⟩
            case round =>
              obtain ⟨r, hr, rfl, HL, HK, E2⟩ := hrel
              have d0 := cells_at E2.out.b0
              simp only [ndcell] at d0
              have b2lt := heap_lt E2.out.b0
              have HB2 := Lib.hid (below2 HB.out E2.out.bel HB.out.size)
              by_cases hlt2 : r < x.ls.length
              · obtain ⟨v, hv⟩ : ∃ v, x.ls[r]? = some v := ⟨x.ls[r], by simp [hlt2]⟩
                obtain ⟨al, hal, ⟨e0, e1, e2, e3', e4, e5, e6, e7, e8⟩, hlv, hvr⟩ := (Hm.out.1.below HB2.out).at hv
                rw [hal] at d0
                have Hal := Lib.hid hal
                have Hv := Lib.hid hv
                have hbd := Hbx.out.1 v (List.mem_of_getElem? hv)
                have Hla := Lib.hid (show LfAt wr v.l v.ia v.ic v.ta v.tc from ⟨hvr.1.its, hvr.1.tms, hbd.1, hbd.2⟩)
                have Hok2 := Lib.hid hvr.1.ok
                clear hv hvr hbd hal
                go_upto_region 10 with (fail)
                refine region_text [([0, 1, 2, 3, 4, 5, 6, 7, 8, 9, 10, 11, 12, 13, 14, 15, 16, 17, 18, 19, 20, 21, 22, 23, 24, 25, 26], false)] mixed (by kernel_rfl) ?_
                simp only [wpSegs, List.map_cons, List.map_nil, List.getD_cons_succ, List.getD_cons_zero]
                go_wp2_with fail
                refine (rmayLf_any v.l v.ia v.ta v.ic v.tc _ (Hla.out.below ((Below.refl _ _).drew)) Hok2.out).mono ?_
                rintro e w3 ⟨z, rfl, hz, hb3⟩
                have E3 := Lib.hid (E2.out.step (((Below.refl _ _).drew).trans hb3))
                have HB3 := Lib.hid (below2 HB.out E3.out.bel HB.out.size)
                have Hz := Lib.hid hz
                clear hz hb3 d0 e0 e1 e2 e3' e4 e5 e6 e7 e8 b2lt
                have d0 := cells_at E3.out.b0
                simp only [ndcell] at d0
                rw [Hal.out] at d0
                cases z with
                | false =>
                  have Hn := Lib.hid (not_node (f := f) Hx.out (fun hh => by have := Hz.out.2 (hh.2.2.2.1 v (List.mem_of_getElem? Hv.out)); cases this))
                  go_wp2_with fail
                  refine And.intro (by kernel_rfl) ?_
                  go_wp2_with fail
                  go_ret
                  exact no_name Hn.out HB3.out
                | true =>
                  have Hmv := Lib.hid (Hz.out.1 rfl)
                  clear Hz
                  cases r with
                  | zero =>
                    go_wp2_with fail
                    refine And.intro (by kernel_rfl) ?_
                    go_wp2_with fail
                    go_roundw
                    case rel => exact ⟨1, by omega, by go_num, Lib.hid (all_snoc (p := fun v : Lv => MayLf v.l) Hv.out HL.out Hmv.out), Lib.hid (upTo.one), E3⟩
                    case measure => simp [intOf]; omega
                  | succ r =>
                    obtain ⟨y, hy⟩ : ∃ y, x.ls[r]? = some y := ⟨x.ls[r], by simp⟩
                    obtain ⟨al', hal', ⟨f0, _, _, _, _, _, _, _, _⟩, hlv2, _⟩ := (Hm.out.1.below HB3.out).at hy
                    obtain ⟨al2, hal2, ⟨g0, _, _, _, _, _, _, _, _⟩, hlv3, _⟩ := (Hm.out.1.below HB3.out).at Hv.out
                    obtain rfl : al' = al := by have := hal'.symm.trans Hal.out; injection this
                    obtain rfl : al2 = al' := by have := hal2.symm.trans Hal.out; injection this
                    have Hy := Lib.hid hy
                    clear hy hal' hal2
                    by_cases hc : y.l.k < v.l.k
                    · have hc1 : decide (v.l.k ≤ y.l.k) = false := by simpa using hc
                      have Hup := Lib.hid (HK.out.succ Hy.out Hv.out (show klt y v from hc))
                      go_wp2_with fail
                      refine And.intro (by kernel_rfl) ?_
                      go_wp2_with fail
                      go_roundw
                      case rel => exact ⟨r + 2, by omega, by go_num, Lib.hid (all_snoc (p := fun v : Lv => MayLf v.l) Hv.out HL.out Hmv.out), Lib.hid (Hup.out), E3⟩
                      case measure => simp [intOf]; omega
                    · have hc1 : decide (v.l.k ≤ y.l.k) = true := by simp; omega
                      have Hn := Lib.hid (not_node (f := f) Hx.out (fun hh => not_lpair Hy.out Hv.out hc hh.2.2.2))
                      go_wp2_with fail
                      refine And.intro (by kernel_rfl) ?_
                      go_wp2_with fail
                      go_ret
                      exact no_name Hn.out HB3.out
              · have Hls := Lib.hid (show MayLs x.ls from ⟨fun v hv => HL.out v (by rw [List.take_of_length_le (by omega)]; exact hv), upTo.all (lt := klt) (fun {a b c} h k => by unfold klt at *; omega) HK.out (by omega)⟩)
                go_wp2_with fail
                go_roundw
                case rel => exact ⟨q + 1, by omega, by go_num, Lib.hid (all_snoc Hx.out HO.out ⟨Hok.out.1, Hok.out.2.1, Hok.out.2.2, Hls.out⟩), HU2, HB2.out⟩
                case measure => simp [intOf]; omega
      · have Hfin := Lib.hid (mayT_of (T := T) (f := f) (fun x hx => HO.out x (by rw [List.take_of_length_le (by omega)]; exact hx)) (by have := HU.out; rwa [show q = T.length by omega] at this))
        go_wp2_with fail
        go_ret
        exact yes_name Hfin.out HB.out
theorem rmayTop_any (m : Nat) (a : Option Addr) (c : Nat) (T : List Nd) (w : World) (hT : TrRd w m a c T) (hB : BdT 1100000 3 T) :
    Calls Tryz.prog 98 #[.slice a T.length c] w (IsTo w (MayT 3 T)) := by
  have HT := Lib.hid hT
  have HB := Lib.hid hB
  clear hT hB
  go_enter Tryz.func98, Tryz.ntmps98
  go_wp2_with fail
  refine (rmayT_any 3 m a c T 0 _ (by omega) (by omega) HT.out HB.out).mono ?_
  intro e w1 hto
  obtain ⟨z, rfl, hz, hb⟩ := hto
  have Hz := Lib.hid hz
  have HB1 := Lib.hid hb
  clear hz hb
  go_wp2_with fail
  go_ret
  exact ⟨z, rfl, Hz.out, HB1.out⟩
end Go.Proofs.YtaandcblndldmaaGreat
