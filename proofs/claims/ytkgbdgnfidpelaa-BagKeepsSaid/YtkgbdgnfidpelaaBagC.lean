/- The bag in memory; the contract of Put. -/
import Derived.Test.YtkgbdgnfidpelaaBagA
import Derived.Test.YtkgbdgnfidpelaaBagB
import Derived.Test.YtkgbdgnfidpelaaMemB
namespace Go.Proofs.Ytkgbdgnfidpelaa
open Go.RowKit
set_option linter.unusedVariables false
set_option linter.unusedSimpArgs false

theorem Try.info_letter : (Try.prog.info? 55).map (fun i => (i.zero, i.size, i.bytes)) = some (some (.agg #[.int .u8 0, .slice none 0 0, .bool false]), 3, 40) := by kernel_rfl
theorem mixed : Try.prog.follows .mixedOrders = true := by kernel_rfl

/-- a letter: to whom, its bytes, whether it was changed -/
structure Lt where
  t : Int
  b : List UInt8
  ch : Bool
/-- a letter in memory: with its slice's address and capacity -/
abbrev Ml := Lt × Option Addr × Nat
def lcells (x : Ml) : List Value := [.int .u8 x.1.t, .slice x.2.1 x.1.b.length x.2.2, .bool x.1.ch]
def rcells (M : List Ml) : List Value := M.flatMap lcells
theorem rcells_length (M : List Ml) : (rcells M).length = M.length * 3 := by
  induction M with
  | nil => rfl
  | cons x M ih => simp only [rcells, List.flatMap_cons, List.length_append, List.length_cons] at ih ⊢; rw [ih]; simp [lcells]; omega
theorem rcells_snoc (M : List Ml) (x : Ml) : rcells (M ++ [x]) = rcells M ++ lcells x := by simp [rcells]
def foot (pb : Nat) (sa : Option Addr) (M : List Ml) : List Nat := pb :: (ob sa ++ M.flatMap fun x => ob x.2.1)

structure BagAt (w : World) (pb : Nat) (M : List Ml) (sa : Option Addr) (sc : Nat) : Prop where
  blk : w.heap[pb]? = some (.cells #[.slice sa M.length sc] 53 (0, 0))
  row : w.ownsRow 0 55 3 (.slice sa M.length sc) M.length (rcells M)
  bytes : ∀ x ∈ M, w.ownsRow 0 5 1 (.slice x.2.1 x.1.b.length x.2.2) x.1.b.length (u8s x.1.b)
  nodup : (foot pb sa M).Nodup

theorem BagAt.lt {w : World} {pb : Nat} {M : List Ml} {sa : Option Addr} {sc : Nat} (h : BagAt w pb M sa sc) : ∀ k ∈ foot pb sa M, k < w.heap.size := by
  intro k hk
  simp only [foot, List.mem_cons, List.mem_append, List.mem_flatMap] at hk
  rcases hk with rfl | hk | ⟨x, hx, hk⟩
  · exact heap_lt h.blk
  · exact (owns_lt h.row k hk).2
  · exact (owns_lt (h.bytes x hx) k hk).2
theorem BagAt.chg {F : List Nat} {w w' : World} {pb : Nat} {M : List Ml} {sa : Option Addr} {sc : Nat} (h : BagAt w pb M sa sc) (hc : Chg F w w') (hd : ∀ k ∈ foot pb sa M, k ∉ F) : BagAt w' pb M sa sc := by
  refine ⟨heap_chg h.blk hc (hd _ (by simp [foot])), owns_chg h.row hc fun k hk => hd k (by simp [foot, hk]), fun x hx => owns_chg (h.bytes x hx) hc fun k hk => hd k ?_, h.nodup⟩
  simp only [foot, List.mem_cons, List.mem_append, List.mem_flatMap]
  exact .inr (.inr ⟨x, hx, hk⟩)

/-- a bag that holds the letters L, in the blocks F -/
def BagR (w : World) (pb : Nat) (L : List Lt) (F : List Nat) : Prop := ∃ M sa sc, BagAt w pb M sa sc ∧ L = M.map (·.1) ∧ F = foot pb sa M
theorem BagR.chg {F G : List Nat} {w w' : World} {pb : Nat} {L : List Lt} (h : BagR w pb L F) (hc : Chg G w w') (hd : ∀ k ∈ F, k ∉ G) : BagR w' pb L F := by
  obtain ⟨M, sa, sc, h1, h2, rfl⟩ := h
  exact ⟨M, sa, sc, h1.chg hc hd, h2, rfl⟩
theorem BagR.lt {F : List Nat} {w : World} {pb : Nat} {L : List Lt} (h : BagR w pb L F) : ∀ k ∈ F, k < w.heap.size := by
  obtain ⟨M, sa, sc, h1, h2, rfl⟩ := h
  exact h1.lt

theorem new_bag (w : World) : BagR (w.alloc (.cells #[.slice none 0 0] 53)) w.heap.size [] [w.heap.size] :=
  ⟨[], none, 0, ⟨heap_new _ _, World.ownsRow_nil _ _ _ _, fun x hx => (by cases hx), by simp [foot, ob]⟩, rfl, rfl⟩

/-- what lies behind an append of one letter and the store of the new slice into the bag -/
theorem bag_snoc {w1 w2 : World} {pb : Nat} {M : List Ml} {sa : Option Addr} {sc : Nat} {x : Ml} {a2 : Option Addr} {c2 : Nat} {B : Nat}
    (h : BagAt w1 pb M sa sc) (hx : w1.ownsRow B 5 1 (.slice x.2.1 x.1.b.length x.2.2) x.1.b.length (u8s x.1.b)) (hB : ∀ k ∈ foot pb sa M, k < B) (hBs : B ≤ w1.heap.size)
    (ho : w2.ownsRow 0 55 3 (.slice a2 (M.length + 1) c2) (M.length + 1) (rcells M ++ lcells x)) (hg : Chg (ob sa) w1 w2) (ha : ∀ k ∈ ob a2, k ∈ ob sa ∨ w1.heap.size ≤ k) :
    BagAt (w2.setCell ⟨pb, 0, none⟩ (.slice a2 (M.length + 1) c2)) pb (M ++ [x]) a2 c2 ∧ (∀ k ∈ foot pb a2 (M ++ [x]), k ∈ foot pb sa M ∨ B ≤ k) := by
  have hnd := h.nodup
  simp only [foot, List.nodup_cons, List.nodup_append, List.mem_append, List.mem_flatMap, not_or] at hnd
  obtain ⟨⟨hn1, hn2⟩, hn3, hn4, hn5⟩ := hnd
  have hpb := heap_chg h.blk hg hn1
  have hlt := h.lt
  have hxl := owns_lt hx
  have hBw : ∀ k ∈ foot pb sa M, k < w1.heap.size := h.lt
  have hxb : ∀ k ∈ ob x.2.1, k ∉ foot pb sa M := fun k hk hf => by have := hB k hf; have := (hxl k hk).1; omega
  have hpbx : pb < B := hB pb (by simp [foot])
  have ha2 : ∀ k ∈ ob a2, k ≠ pb := fun k hk e => by
    rcases ha k hk with h1 | h1
    · exact hn1 (e ▸ h1)
    · have := hlt pb (by simp [foot]); omega
  have hlen : (M ++ [x]).length = M.length + 1 := by simp
  have hset : Chg [pb] w2 (w2.setCell ⟨pb, 0, none⟩ (.slice a2 (M.length + 1) c2)) := Chg.setCell w2 ⟨pb, 0, none⟩ _
  refine ⟨⟨?_, ?_, ?_, ?_⟩, ?_⟩
  · rw [hlen]; exact heap_setCell1 hpb
  · rw [hlen, rcells_snoc]
    exact owns_chg ho hset fun k hk => by simpa using ha2 k hk
  · intro y hy
    rw [List.mem_append, List.mem_singleton] at hy
    rcases hy with hy | rfl
    · refine owns_chg (owns_chg (h.bytes y hy) hg fun k hk hs => ?_) hset fun k hk => ?_
      · exact hn5 k hs k ⟨y, hy, hk⟩ rfl
      · have := hn2; simp only [List.mem_singleton]; intro e; subst e; exact hn2 ⟨y, hy, hk⟩
    · refine owns_base (owns_chg (owns_chg hx hg fun k hk hs => ?_) hset fun k hk => ?_) (Nat.zero_le _)
      · exact hxb k hk (by simp [foot, hs])
      · simp only [List.mem_singleton]; intro e; subst e; exact hxb k hk (by simp [foot])
  · simp only [foot, List.nodup_cons, List.nodup_append, List.mem_append, List.mem_flatMap, not_or, List.flatMap_append, List.flatMap_cons, List.flatMap_nil, List.append_nil, List.mem_singleton]
    refine ⟨⟨fun hk => ha2 pb hk rfl, hn2, fun hk => hxb pb hk (by simp [foot])⟩, ?_, ⟨hn4, ?_, ?_⟩, ?_⟩
    · cases a2 <;> simp [ob]
    · cases x.2.1 <;> simp [ob]
    · rintro k ⟨y, hy, hk⟩ j hj rfl
      exact hxb k hj (by simp only [foot, List.mem_cons, List.mem_append, List.mem_flatMap]; exact .inr (.inr ⟨y, hy, hk⟩))
    · rintro k hk j hj rfl
      rcases hj with ⟨y, hy, hj⟩ | hj
      · rcases ha k hk with h1 | h1
        · exact hn5 k h1 k ⟨y, hy, hj⟩ rfl
        · have := (owns_lt (h.bytes y hy) k hj).2; omega
      · rcases ha k hk with h1 | h1
        · exact hxb k hj (by simp [foot, h1])
        · have := (hxl k hj).2; omega
  · intro k hk
    simp only [foot, List.mem_cons, List.mem_append, List.mem_flatMap, List.not_mem_nil, or_false] at hk ⊢
    rcases hk with rfl | hk | ⟨y, hy | rfl, hk⟩
    · exact .inl (.inl rfl)
    · rcases ha k hk with h1 | h1
      · exact .inl (.inr (.inl h1))
      · right; omega
    · exact .inl (.inr (.inr ⟨y, hy, hk⟩))
    · exact .inr (hxl k hk).1

theorem put_any (pb : Nat) (l : Lt) (a : Option Addr) (c : Nat) (w : World) (M : List Ml) (sa : Option Addr) (sc : Nat)
    (h : Sl w 1 a l.b.length c (u8s l.b)) (hn : l.b.length ≤ 140737488355328) (hl : l.ch = false)
    (hb : BagAt w pb M sa sc) (hm : M.length ≤ 1000000) :
    Calls Try.prog 8 #[.pointer (some ⟨pb, 0, none⟩), .agg #[.int .u8 l.t, .slice a l.b.length c]] w fun e w' => e = .returned (.tuple #[]) ∧ ∃ M' sa' sc', BagAt w' pb M' sa' sc' ∧ M'.map (·.1) = M.map (·.1) ++ [l] ∧ (∀ k ∈ foot pb sa' M', k ∈ foot pb sa M ∨ w.heap.size ≤ k) ∧ Chg (foot pb sa M) w w' := by
  obtain ⟨i0, hi, hz0, hz1, hz2⟩ := info_parts Try.info_letter
  obtain ⟨t8, bs, ch⟩ := l
  obtain rfl : ch = false := hl
  have Hb := Lib.hid hb
  have hp := hb.blk
  have c0 := cells_at hp
  have f0 := free_at hp
  have hlt : pb < w.heap.size := heap_lt hp
  clear hp hb
  dsimp only at h hn ⊢
  go_enter Try.func8, Try.ntmps8
  go_wp2_with fail
  refine region_text [([0, 1, 2, 3, 4, 5, 6], false), ([7], true), ([8, 9, 10, 11, 12], false)] mixed (by kernel_rfl) ?_
  simp only [wpSegs, List.map_cons, List.map_nil, List.getD_cons_succ, List.getD_cons_zero]
  go_wp2_with fail
  refine (own_any t8 false a bs.length c (u8s bs) _ (h.below ?b1) (u8s_one bs) hn).mono ?_
  case b1 => exact ((Below.refl _ _).alloc (Nat.le_refl _) _).drew
  rintro e w1 ⟨a', c', rfl, ho1, hbl⟩
  clear c0 f0
  go_wp2_with fail
  refine And.intro (Agree.of_below hbl) ?_
  have hsz : w.heap.size + 1 ≤ w1.heap.size := by have := hbl.size; simpa using this
  have hbel : Below w.heap.size w w1 := (((Below.refl _ _).alloc (Nat.le_refl _) _).drew).trans (hbl.mono (by simp))
  have hb1 := Lib.hid (Hb.out.chg (F := []) (Chg.of_below hbel) (by simp))
  clear hbl
  have hown : (w1.alloc (.cells #[.int .u8 t8, .slice a' bs.length c', .bool false] 55)).ownsRow 0 55 3 (.slice sa M.length sc) M.length (rcells M) := hb1.out.row.alloc _
  have Hown := Lib.hid hown
  clear hown
  go_wp2_with (at_builtin; go_must (refine wpList_append_lies _ rfl _ _ 51 rfl 0 55 i0 (.agg #[.int .u8 0, .slice none 0 0, .bool false]) 3 40 Try.underlying51 hi hz0 hz1 hz2 rfl (by decide) _ M.length (rcells M) rfl Hown.out ⟨w1.heap.size, 0, none⟩ 1 1 [.int .u8 t8, .slice a' bs.length c', .bool false] rfl rfl (World.news_of_block (cs := #[.int .u8 t8, .slice a' bs.length c', .bool false]) (t := 55) (fr := (0, 0)) (heap_alloc_new w1 _)) (by simp [Value.oneCell']) (by decide) ?c3 ?c4 ?c5 (w1.heap.size + 1) (by simp) ?_))
  case c3 => unfold maxLen; omega
  case c4 => omega
  case c5 => omega
  intro g2 c2 w2 ho2 hg2 hat2 hlt2
  have hcg : Chg (ob sa) w1 w2 := (Chg.alloc (ob sa) w1 _).trans (Chg.grown hg2) (by rw [ownBlock_eq]; cases sa <;> simp [ob])
  have hpb2 := heap_chg hb1.out.blk hcg (by have := hb1.out.nodup; simp only [foot, List.nodup_cons, List.mem_append, not_or] at this; exact this.1.1)
  have c0 := cells_at hpb2
  have f0 := free_at hpb2
  clear hpb2
  go_wp2_with fail
  refine And.intro (by kernel_rfl) ?_
  go_wp2_with fail
  go_end0
  refine ⟨rfl, ?_⟩
  obtain ⟨hB1, hB2⟩ := bag_snoc (x := (⟨t8, bs, false⟩, a', c')) (a2 := some ⟨g2, 0, none⟩) (c2 := c2) (B := w.heap.size + 1) (w2 := w2) hb1.out (by simpa using ho1) (fun k hk => by have := Hb.out.lt k hk; omega) hsz ho2 hcg (by
    intro k hk
    simp [ob] at hk
    subst hk
    rcases hat2 with h1 | h1
    · left; rw [ownBlock_eq] at h1; cases sa <;> simp [ob] at h1 ⊢; exact h1.symm
    · right; omega)
  refine ⟨_, _, _, hB1, by simp, fun k hk => (hB2 k hk).imp id (by omega), ?_⟩
  have hF : ∀ k ∈ ob sa, k ∈ foot pb sa M := fun k hk => by simp [foot, hk]
  refine ((Chg.of_below (F := foot pb sa M) hbel).trans hcg fun x hx _ => hF x hx).trans (Chg.setCell w2 ⟨pb, 0, none⟩ _) ?_
  intro x hx _
  simp at hx
  subst hx
  simp [foot]
end Go.Proofs.Ytkgbdgnfidpelaa
