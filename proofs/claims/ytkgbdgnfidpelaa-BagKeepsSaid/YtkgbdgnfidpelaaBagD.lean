/- Double. -/
import Derived.Test.YtkgbdgnfidpelaaBagC
import Derived.Deep.RegionLaw
namespace Go.Proofs.Ytkgbdgnfidpelaa
open Go.RowKit
set_option linter.unusedVariables false
set_option linter.unusedSimpArgs false

/-- the cells of the i-th letter -/
theorem rcells_at (M : List Ml) (i : Nat) (x : Ml) (h : M[i]? = some x) : (rcells M)[i * 3]? = some (.int .u8 x.1.t) ∧ (rcells M)[i * 3 + 1]? = some (.slice x.2.1 x.1.b.length x.2.2) ∧ (rcells M)[i * 3 + 2]? = some (.bool x.1.ch) := by
  induction M generalizing i with
  | nil => simp at h
  | cons y M ih =>
    cases i with
    | zero => simp at h; subst h; simp [rcells, lcells]
    | succ i =>
      simp at h
      have := ih i h
      have e : ∀ k, (rcells (y :: M))[(i + 1) * 3 + k]? = (rcells M)[i * 3 + k]? := fun k => by
        simp only [rcells, List.flatMap_cons]
        rw [List.getElem?_append_right (by simp [lcells]; omega)]
        congr 1
        simp [lcells]; omega
      have e0 := e 0
      simp only [Nat.add_zero] at e0
      rw [e0, e 1, e 2]; exact this
theorem row_at {w : World} {g c i : Nat} {M : List Ml} {x : Ml} (h : w.ownsRow 0 55 3 (.slice (some ⟨g, 0, none⟩) M.length c) M.length (rcells M)) (hi : M[i]? = some x) :
    w.cell? ⟨g, i * 3, none⟩ = some (.int .u8 x.1.t) ∧ w.cell? ⟨g, i * 3 + 1, none⟩ = some (.slice x.2.1 x.1.b.length x.2.2) ∧ w.cell? ⟨g, i * 3 + 2, none⟩ = some (.bool x.1.ch) := by
  have hil : i < M.length := by
    rcases Nat.lt_or_ge i M.length with h' | h'
    · exact h'
    · rw [List.getElem?_eq_none h'] at hi; cases hi
  obtain ⟨a, b, c⟩ := rcells_at M i x hi
  exact ⟨(h.cellAt _ (by omega)).trans a, (h.cellAt _ (by omega)).trans b, (h.cellAt _ (by omega)).trans c⟩
theorem pb_same {w0 w1 w2 : World} {pb g sc : Nat} {M : List Ml} {o : Obj} (hb : BagAt w0 pb M (some ⟨g, 0, none⟩) sc) (hbl : Below w0.heap.size w0 w1) (hg : (w1.alloc o).grownBy w2 (Value.slice (some ⟨g, 0, none⟩) M.length sc).ownBlock) :
    w2.heap[pb]? = some (.cells #[.slice (some ⟨g, 0, none⟩) M.length sc] 53 (0, 0)) := by
  have h1 := heap_chg hb.blk (F := []) (Chg.of_below hbl) (by simp)
  have h2 := heap_chg h1 (Chg.alloc [] w1 o) (by simp)
  refine heap_chg h2 (Chg.grown hg) ?_
  have := hb.nodup
  simp [foot, ob, Value.ownBlock] at this ⊢
  omega
theorem q_same {w w1 w2 : World} {q pb g sc n : Nat} {M : List Ml} {o x : Obj} (hq : w.heap[q]? = some x) (hbl : Below w.drew.heap.size w.drew w1) (hg : (w1.alloc o).grownBy w2 (Value.slice (some ⟨g, 0, none⟩) n sc).ownBlock) (hqf : q ∉ foot pb (some ⟨g, 0, none⟩) M) :
    w2.heap[q]? = some x := by
  have h1 := heap_chg (w := w.drew) hq (F := []) (Chg.of_below hbl) (by simp)
  have h2 := heap_chg h1 (Chg.alloc [] w1 o) (by simp)
  refine heap_chg h2 (Chg.grown hg) ?_
  simp [foot, ob, Value.ownBlock] at hqf ⊢
  exact hqf.2.1

/-- what lies behind an append of a letter in memory of its own -/
theorem snoc_close {w w1 w2 : World} {pb g sc q g2 c2 : Nat} {M : List Ml} {t8 : Int} {bs : List UInt8} {ch : Bool} {a' : Option Addr} {c' : Nat} {x : Obj} (hb : BagAt w.drew pb M (some ⟨g, 0, none⟩) sc) (hq : w.heap[q]? = some x)
    (ho1 : w1.ownsRow w.drew.heap.size 5 1 (.slice a' bs.length c') bs.length (u8s bs)) (hbl : Below w.drew.heap.size w.drew w1)
    (ho2 : w2.ownsRow 0 55 3 (.slice (some ⟨g2, 0, none⟩) (M.length + 1) c2) (M.length + 1) (rcells M ++ [.int .u8 t8, .slice a' bs.length c', .bool ch]))
    (hg2 : (w1.alloc (.cells #[.int .u8 t8, .slice a' bs.length c', .bool ch] 55)).grownBy w2 (Value.slice (some ⟨g, 0, none⟩) M.length sc).ownBlock) (hat2 : (Value.slice (some ⟨g, 0, none⟩) M.length sc).ownBlock = some g2 ∨ g2 = w1.heap.size + 1) :
    ∃ M' sa' sc', BagAt (w2.setCell ⟨pb, 0, none⟩ (.slice (some ⟨g2, 0, none⟩) (M.length + 1) c2)) pb M' sa' sc' ∧ M'.map (·.1) = M.map (·.1) ++ [⟨t8, bs, ch⟩] ∧ (∀ k ∈ foot pb sa' M', k ∈ foot pb (some ⟨g, 0, none⟩) M ∨ w.heap.size ≤ k) ∧ Chg (foot pb (some ⟨g, 0, none⟩) M) w (w2.setCell ⟨pb, 0, none⟩ (.slice (some ⟨g2, 0, none⟩) (M.length + 1) c2)) := by
  have hb1 := hb.chg (F := []) (Chg.of_below hbl) (by simp)
  have hcg : Chg (ob (some ⟨g, 0, none⟩)) w1 w2 := (Chg.alloc (ob (some ⟨g, 0, none⟩)) w1 _).trans (Chg.grown hg2) (by simp [ob, Value.ownBlock])
  obtain ⟨hB1, hB2⟩ := bag_snoc (x := (⟨t8, bs, ch⟩, a', c')) (a2 := some ⟨g2, 0, none⟩) (c2 := c2) (B := w.heap.size) (w2 := w2) hb1 (by simpa using ho1) (fun k hk => hb.lt k hk) hbl.size ho2 hcg (by
    intro k hk
    simp [ob] at hk
    subst hk
    rcases hat2 with h1 | h1
    · left; simp [ob, Value.ownBlock] at h1 ⊢; exact h1.symm
    · right; omega)
  refine ⟨_, _, _, hB1, by simp, hB2, ?_⟩
  have hF : ∀ k ∈ ob (some ⟨g, 0, none⟩), k ∈ foot pb (some ⟨g, 0, none⟩) M := fun k hk => by simp [foot, hk]
  refine (((Chg.drew (foot pb (some ⟨g, 0, none⟩) M) w).trans (Chg.of_below (F := []) hbl) (by simp)).trans hcg fun x hx _ => hF x hx).trans (Chg.setCell w2 ⟨pb, 0, none⟩ _) ?_
  intro x hx _
  simp at hx
  subst hx
  simp [foot]

set_option maxHeartbeats 4000000 in
set_option maxRecDepth 100000 in
theorem double1 (pb q g i : Nat) (l : Lt) (la : Option Addr) (lc : Nat) (sc : Nat) (w : World) (M : List Ml)
    (hb : BagAt w pb M (some ⟨g, 0, none⟩) sc) (hi : M[i]? = some (l, la, lc)) (hn : l.b.length ≤ 140737488355328) (hm : M.length ≤ 1000000)
    (hq : w.heap[q]? = some (.cells #[.pointer (some ⟨pb, 0, none⟩)] 25 (0, 0))) (hqf : q ∉ foot pb (some ⟨g, 0, none⟩) M) :
    Calls Try.prog 25 #[.pointer (some ⟨g, i * 3, none⟩), .pointer (some ⟨q, 0, none⟩)] w fun e w' => e = .returned (.bool true) ∧ ∃ M' sa' sc', BagAt w' pb M' sa' sc' ∧ M'.map (·.1) = M.map (·.1) ++ [l] ∧ (∀ k ∈ foot pb sa' M', k ∈ foot pb (some ⟨g, 0, none⟩) M ∨ w.heap.size ≤ k) ∧ Chg (foot pb (some ⟨g, 0, none⟩) M) w w' := by
  obtain ⟨i0, hi0, hz0, hz1, hz2⟩ := info_parts Try.info_letter
  obtain ⟨t8, bs, ch⟩ := l
  have Hb := Lib.hid hb
  have cp := cells_at hb.blk
  have fp := free_at hb.blk
  have cq := cells_at hq
  have Hq := Lib.hid hq
  clear hq
  have hil : i < M.length := by
    rcases Nat.lt_or_ge i M.length with h | h
    · exact h
    · rw [List.getElem?_eq_none h] at hi; cases hi
  have Hi := Lib.hid hi
  clear hi
  obtain ⟨e0, e1, e2⟩ := row_at Hb.out.row Hi.out
  have hsl := Lib.hid (Sl.of_owns (Hb.out.bytes _ (List.mem_of_getElem? Hi.out)))
  have hb0 : BagAt w.drew pb M (some ⟨g, 0, none⟩) sc := Hb.out.chg (Chg.drew [] w) (by simp)
  have Hb0 := Lib.hid hb0
  have lq : q < w.heap.size := heap_lt Hq.out
  have lp : pb < w.heap.size := Hb.out.lt pb (by simp [foot])
  have lg : g < w.heap.size := Hb.out.lt g (by simp [foot, ob])
  clear hb hb0
  go_enter Try.func25, Try.ntmps25
  go_wp2_with fail
  go_region_law (first
    | (refine step_append_lies _ (by rfl) _ _ _ (by rfl) 0 55 i0 (.agg #[.int .u8 0, .slice none 0 0, .bool false]) 3 40 Try.underlying51 hi0 hz0 hz1 hz2 rfl (by decide) (.slice (some ⟨g, 0, none⟩) M.length sc) M.length (rcells M) (by rfl) ((Hb0.out.chg (F := []) (Chg.of_below hbl) (by simp)).row.alloc _) ⟨w1.heap.size, 0, none⟩ 1 1 [.int .u8 t8, .slice a' bs.length c', .bool ch] (by rfl) (by rfl) (World.news_of_block (cs := #[.int .u8 t8, .slice a' bs.length c', .bool ch]) (t := 55) (fr := (0, 0)) (heap_alloc_new w1 _)) (by simp [Value.oneCell']) (by decide) (by unfold maxLen; omega) (by omega) (by omega) (w1.heap.size + 1) (by simp) ?_; intro g2 c2 w2 ho2 hg2 hat2 hlt2; have cp2 := cells_at (pb_same Hb0.out hbl hg2); have fp2 := free_at (pb_same Hb0.out hbl hg2); have cq2 := cells_at (q_same Hq.out hbl hg2 hqf))
    | (go_simp; go_at_call 22; refine (own_any t8 ch la bs.length lc (u8s bs) _ (hsl.out.below ((Below.refl _ _).drew)) (u8s_one bs) hn).mono ?_; rintro e w1 ⟨a', c', rfl, ho1, hbl⟩; have cp1 := cells_at (heap_chg Hb.out.blk (F := []) ((Chg.drew [] w).trans (Chg.of_below (F := []) hbl) (by simp)) (by simp)); have cq1 := cells_at (heap_chg Hq.out (F := []) ((Chg.drew [] w).trans (Chg.of_below (F := []) hbl) (by simp)) (by simp)); have lp1 : pb < w1.heap.size := Nat.lt_of_lt_of_le lp hbl.size; have lq1 : q < w1.heap.size := Nat.lt_of_lt_of_le lq hbl.size))
  all_goals
    go_wp2_with fail
    go_ret
    exact ⟨rfl, snoc_close Hb0.out Hq.out ho1 hbl ho2 hg2 hat2⟩
end Go.Proofs.Ytkgbdgnfidpelaa
