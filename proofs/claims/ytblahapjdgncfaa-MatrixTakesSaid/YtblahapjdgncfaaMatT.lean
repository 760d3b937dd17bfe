/- The walk of MatrixTakes. Printed by wip/tools/genmatt.py. -/
import Derived.Test.YtblahapjdgncfaaMatN
import Derived.Test.YtblahapjdgncfaaMatO
import Derived.Test.YtblahapjdgncfaaMatS
import Derived.Test.YtblahapjdgncfaaEpoD
import Derived.Deep.CutBlock
namespace Go.Proofs.Ytblahapjdgncfaa
open Go.RowKit
set_option linter.unusedVariables false
set_option linter.unusedSimpArgs false

theorem ucells_set (u : List Int) (k : Nat) (y : Int) : ucells (u.set k y) = (ucells u).set k (.int .u32 y) := by simp [ucells, List.map_set]
/-- n numbers of its own, whatever they are -/
def OwnU (wr : World) (s : Nat) (a : Option Addr) (n c : Nat) : Prop := ∃ u : List Int, u.length = n ∧ wr.ownsRow s 29 1 (.slice a n c) n (ucells u)
structure PutU (wr : World) (s g : Nat) (n c k : Nat) (x : Int) : Prop where
  lo : s ≤ g
  hi : g < wr.heap.size
  rd : wr.cell? ⟨g, k, none⟩ = some (.int .u32 x)
  fr : wr.frozen? ⟨g, k, none⟩ = false
  put : ∀ y, OwnU (wr.setCell ⟨g, k, none⟩ (.int .u32 y)) s (some ⟨g, 0, none⟩) n c
theorem OwnU.at {wr : World} {s : Nat} {a : Option Addr} {n c k : Nat} (h : OwnU wr s a n c) (hk : k < n) : ∃ g x, a = some ⟨g, 0, none⟩ ∧ PutU wr s g n c k x := by
  obtain ⟨u, hu, ho⟩ := h
  obtain ⟨d, hd⟩ : ∃ d, u[k]? = some d := ⟨u[k], by simp [hu, hk]⟩
  rcases ho.2 with ⟨h2, h3⟩ | ⟨g, cap, cur, h2, hb, hg, hn, hc, hs, ht⟩
  · simp at h2; omega
  · simp at h2
    obtain ⟨rfl, rfl⟩ := h2
    have c2 := ho.cells (g := g) rfl k (.int .u32 d) (by simp [ucells, hd])
    have hadd : (⟨g, 0, none⟩ : Addr).add k = ⟨g, k, none⟩ := by unfold Addr.add; split <;> simp_all
    rw [hadd] at c2
    refine ⟨g, d, rfl, hb, heap_lt hg, ?_, ho.frozenAt _, fun y => ⟨u.set k y, by simp [hu], ?_⟩⟩
    · exact c2
    · rw [ucells_set]; exact (ho.stored _ _).1
theorem OwnU.of {wr : World} {s : Nat} {a : Option Addr} {c : Nat} {v : List Int} (h : wr.ownsRow s 29 1 (.slice a v.length c) v.length (ucells v)) : OwnU wr s a v.length c := ⟨v, rfl, h⟩
theorem OwnU.chg {w w' : World} {F : List Nat} {s : Nat} {a : Option Addr} {n c : Nat} (h : OwnU w s a n c) (hc : Chg F w w') (hF : ∀ k ∈ ob a, k ∉ F) : OwnU w' s a n c := by
  obtain ⟨u, hu, ho⟩ := h
  exact ⟨u, hu, owns_chg ho hc hF⟩
theorem RefR.mono {w : World} {F G : Nat → Prop} {pw n : Nat} {L : List Ak} (h : RefR w F pw n L) (hF : ∀ k, F k → G k) : RefR w G pw n L := rmono h hF

theorem mat_new' {w : World} {F G : Nat → Prop} {pm n : Nat} (h : MatR w F pm n newR) (hG : G pm) : MatR w G pm n newR := by
  obtain ⟨C, P, h⟩ := h
  refine ⟨C, P, h.blk, h.size, h.c0, h.cP, hG, h.hn, fun j hj => ?_⟩
  rcases h.rows j hj with h | ⟨p, a, _, h2, _⟩
  · exact .inl h
  · cases h2
theorem ref_new' {w : World} {pw n : Nat} {F : Nat → Prop} (h : w.heap[pw]? = some (.cells #[.int .i64 n, .slice none 0 0] 65 (0, 0))) (hF : F pw) : RefR w F pw n [] :=
  ⟨none, 0, h, ⟨rfl, Nat.le_refl _, Nat.zero_le _, fun _ => ⟨rfl, rfl⟩, fun i y hy => by simp at hy⟩, hF, fun k hk => by simp [ob] at hk⟩
theorem joinI_le' (a b : List Int) : (joinI a b).length ≤ a.length := by
  by_cases h : a.length = b.length
  · rw [joinI_length h]; exact Nat.le_refl _
  · simp [joinI, h]
/-- what the law knows at the head of a round -/
structure EtE (w wr : World) (pm pw n : Nat) (L : List Ak) (k : Nat) : Prop where
  mat : MatR wr (fun b => b < wr.heap.size ∧ b ≠ pw) pm n (RL L)
  ref : RefR wr (fun b => b < wr.heap.size ∧ b ≠ pm) pw n L
  okl : okR n (RL L)
  oka : ∀ a ∈ L, okA (a.r, a.i)
  len : L.length ≤ k
  ne : pm ≠ pw
  hm : w.heap.size ≤ pm
  hw : w.heap.size ≤ pw
  ltm : pm < wr.heap.size
  ltw : pw < wr.heap.size
  below : Below w.heap.size w wr
/-- within a round: both matrices, and the copy -/
structure TkE (w wx : World) (pm pc pw n : Nat) (R Rc : Mx) (L : List Ak) (FM FC FR : Nat → Prop) : Prop where
  mat : MatR wx FM pm n R
  cop : MatR wx FC pc n Rc
  ref : RefR wx FR pw n L
  below : Below w.heap.size w wx
theorem TkE.step {w wx w' : World} {pm pc pw n : Nat} {R Rc : Mx} {L : List Ak} {FM FC FR : Nat → Prop} (h : TkE w wx pm pc pw n R Rc L FM FC FR) (hb : Below wx.heap.size wx w') : TkE w w' pm pc pw n R Rc L FM FC FR :=
  ⟨h.mat.below hb, h.cop.below hb, h.ref.below hb, h.below.trans (hb.mono h.below.size)⟩
theorem TkE.put {w wx : World} {pm pc pw n : Nat} {R Rc : Mx} {L : List Ak} {FM FC FR : Nat → Prop} (h : TkE w wx pm pc pw n R Rc L FM FC FR) {g o : Nat} {y : Value} (hg : w.heap.size ≤ g) (h1 : ¬ FM g) (h2 : ¬ FC g) (h3 : ¬ FR g) : TkE w (wx.setCell ⟨g, o, none⟩ y) pm pc pw n R Rc L FM FC FR := by
  have hc : Chg [g] wx (wx.setCell ⟨g, o, none⟩ y) := Chg.setCell wx ⟨g, o, none⟩ y
  exact ⟨h.mat.chg hc (by simpa using h1), h.cop.chg hc (by simpa using h2), h.ref.chg hc (by simpa using h3), h.below.setCell hg _⟩
theorem TkE.takeM {w wx w' : World} {pm pc pw n : Nat} {R R' Rc : Mx} {L : List Ak} {FM FC FR : Nat → Prop} (h : TkE w wx pm pc pw n R Rc L FM FC FR) (hm : MatR w' (fun b => FM b ∨ wx.heap.size ≤ b ∧ b < w'.heap.size) pm n R') (hc : Chg [pm] wx w') (hp : w.heap.size ≤ pm) (h2 : ¬ FC pm) (h3 : ¬ FR pm) : TkE w w' pm pc pw n R' Rc L (fun b => FM b ∨ wx.heap.size ≤ b ∧ b < w'.heap.size) FC FR :=
  ⟨hm, h.cop.chg hc (by simpa using h2), h.ref.chg hc (by simpa using h3), h.below.trans (hc.below h.below.size (by simpa using hp))⟩
theorem TkE.takeC {w wx w' : World} {pm pc pw n : Nat} {R Rc R' : Mx} {L : List Ak} {FM FC FR : Nat → Prop} (h : TkE w wx pm pc pw n R Rc L FM FC FR) (hm : MatR w' (fun b => FC b ∨ wx.heap.size ≤ b ∧ b < w'.heap.size) pc n R') (hc : Chg [pc] wx w') (hp : w.heap.size ≤ pc) (h1 : ¬ FM pc) (h3 : ¬ FR pc) : TkE w w' pm pc pw n R R' L FM (fun b => FC b ∨ wx.heap.size ≤ b ∧ b < w'.heap.size) FR :=
  ⟨h.mat.chg hc (by simpa using h1), hm, h.ref.chg hc (by simpa using h3), h.below.trans (hc.below h.below.size (by simpa using hp))⟩
theorem TkE.takeR {w wx w' : World} {pm pc pw n : Nat} {R Rc : Mx} {L L' : List Ak} {FM FC FR : Nat → Prop} (h : TkE w wx pm pc pw n R Rc L FM FC FR) (hm : RefR w' (fun b => FR b ∨ wx.heap.size ≤ b ∧ b < w'.heap.size) pw n L') (hc : Chg [pw] wx w') (hp : w.heap.size ≤ pw) (h1 : ¬ FM pw) (h2 : ¬ FC pw) : TkE w w' pm pc pw n R Rc L' FM FC (fun b => FR b ∨ wx.heap.size ≤ b ∧ b < w'.heap.size) :=
  ⟨h.mat.chg hc (by simpa using h1), h.cop.chg hc (by simpa using h2), hm, h.below.trans (hc.below h.below.size (by simpa using hp))⟩
theorem okl_next {n : Nat} {L : List Ak} {a : Ak} (h : okR n (RL L)) (ha : okAk a) : okR n (RL (nextL n L a)) := by
  rw [RL_next ha.1.1.1]; exact okR_next h ha
theorem oka_next {n : Nat} {L : List Ak} {a : Ak} (h : ∀ a ∈ L, okA (a.r, a.i)) (ha : okAk a) : ∀ x ∈ nextL n L a, okA (x.r, x.i) := by
  intro x hx
  unfold nextL at hx
  split at hx
  · rcases List.mem_append.1 hx with hx | hx
    · exact h x hx
    · rw [List.mem_singleton] at hx; rw [hx]; exact ha.1
  · exact h x hx
theorem len_next {n : Nat} {L : List Ak} {a : Ak} {k : Nat} (h : L.length ≤ k) : (nextL n L a).length ≤ k + 1 := by
  unfold nextL
  split
  · simp; omega
  · omega
/-- 'in': a copy of an acknowledgement in the box b14, the acknowledgement in the box b13 -/
structure InB (wx : World) (s : Nat) (r i : Int) (ai : Option Addr) (ni ci : Nat) (av : Option Addr) (nv cv : Nat) (a5 : Option Addr) (c5 : Nat) (a6 : Option Addr) (c6 : Nat) (l : List Int) (v : List Dt) : Prop where
  bx : wx.heap[s]? = some (.cells #[.int .u8 r, .int .u32 i, .slice ai ni ci, .slice av nv cv] 51 (0, 0))
  bi : wx.heap[s + 1]? = some (.cells #[.int .u8 r, .int .u32 i, .slice a5 l.length c5, .slice a6 v.length c6] 51 (0, 0))
  o5 : wx.ownsRow (s + 2) 29 1 (.slice a5 l.length c5) l.length (ucells l)
  o6 : wx.ownsRow (s + 2) 34 3 (.slice a6 v.length c6) v.length (dcells v)
  dis : ∀ x ∈ ob a5, x ∉ ob a6
theorem InB.chg {w w' : World} {s : Nat} {r i : Int} {ai av a5 a6 : Option Addr} {ni ci nv cv c5 c6 : Nat} {l : List Int} {v : List Dt} {G : List Nat} (h : InB w s r i ai ni ci av nv cv a5 c5 a6 c6 l v) (hc : Chg G w w') (hG : ∀ x ∈ G, x < s) : InB w' s r i ai ni ci av nv cv a5 c5 a6 c6 l v :=
  ⟨heap_chg h.bx hc (fun hg => by have := hG _ hg; omega), heap_chg h.bi hc (fun hg => by have := hG _ hg; omega), owns_chg h.o5 hc (fun b hb hg => by have := (owns_lt h.o5 b hb).1; have := hG _ hg; omega), owns_chg h.o6 hc (fun b hb hg => by have := (owns_lt h.o6 b hb).1; have := hG _ hg; omega), h.dis⟩
theorem InB.step {w w' : World} {s : Nat} {r i : Int} {ai av a5 a6 : Option Addr} {ni ci nv cv c5 c6 : Nat} {l : List Int} {v : List Dt} (h : InB w s r i ai ni ci av nv cv a5 c5 a6 c6 l v) (hb : Below w.heap.size w w') : InB w' s r i ai ni ci av nv cv a5 c5 a6 c6 l v := h.chg (G := []) (Chg.of_below hb) (by simp)
theorem in_end {w0 v0 w6 : World} {s : Nat} {r i : Int} {ai av a5 a6 : Option Addr} {ni ci nv cv c5 c6 : Nat} {l : List Int} {v : List Dt} (hs : s = w0.heap.size) (hv : s + 2 = v0.heap.size) (hB0 : Below w0.heap.size w0 v0) (hB6 : Below v0.heap.size v0 w6)
    (hx : v0.heap[s]? = some (.cells #[.int .u8 r, .int .u32 i, .slice ai ni ci, .slice av nv cv] 51 (0, 0))) (hi : v0.heap[s + 1]? = some (.cells #[.int .u8 r, .int .u32 i, .slice ai ni ci, .slice av nv cv] 51 (0, 0)))
    (h5 : w6.ownsRow v0.heap.size 29 1 (.slice a5 l.length c5) l.length (ucells l)) (h6 : w6.ownsRow v0.heap.size 34 3 (.slice a6 v.length c6) v.length (dcells v)) (hd : ∀ x ∈ ob a5, x ∉ ob a6) :
    InB ((w6.setCell ⟨s + 1, 2, none⟩ (.slice a5 l.length c5)).setCell ⟨s + 1, 3, none⟩ (.slice a6 v.length c6)) s r i ai ni ci av nv cv a5 c5 a6 c6 l v ∧ Below w0.heap.size w0 ((w6.setCell ⟨s + 1, 2, none⟩ (.slice a5 l.length c5)).setCell ⟨s + 1, 3, none⟩ (.slice a6 v.length c6)) := by
  have hC : Chg [s + 1] w6 ((w6.setCell ⟨s + 1, 2, none⟩ (.slice a5 l.length c5)).setCell ⟨s + 1, 3, none⟩ (.slice a6 v.length c6)) := ((Chg.refl _ w6).set _ _ (by simp)).set _ _ (by simp)
  have hx6 := (hB6.block _ (heap_lt hx)).trans hx
  have hi6 := (hB6.block _ (heap_lt hi)).trans hi
  refine ⟨⟨heap_chg hx6 hC (by simp), ?_, ?_, ?_, hd⟩, ((hB0.trans (hB6.mono hB0.size)).setCell (by simp; omega) _).setCell (by simp; omega) _⟩
  · rw [heap_setCell_same _ _ 3 _ _ _ (heap_setCell_same _ _ 2 _ _ _ hi6)]; rfl
  · rw [hv]; exact owns_chg h5 hC (fun b hb => by have := (owns_lt h5 b hb).1; simp; omega)
  · rw [hv]; exact owns_chg h6 hC (fun b hb => by have := (owns_lt h6 b hb).1; simp; omega)
def InTo (w0 wx : World) (s : Nat) (r i : Int) (ai : Option Addr) (ni ci : Nat) (av : Option Addr) (nv cv : Nat) (l : List Int) (v : List Dt) : Prop := ∃ a5 c5 a6 c6, InB wx s r i ai ni ci av nv cv a5 c5 a6 c6 l v ∧ Below w0.heap.size w0 wx

set_option maxRecDepth 100000 in
set_option maxHeartbeats 16000000 in
theorem takes_walk (n : Int) (la ia oa : Option Addr) (lc ic oc : Nat) (ys : List Ak) (l m : List Int) (w : World) (hl : Acks w la lc ys) (hi : U32 w ia ic l) (ho : U32 w oa oc m) :
    Calls Try.prog 6 #[.int .i64 n, .slice la ys.length lc, .slice ia l.length ic, .slice oa m.length oc] w fun e w' => e = .returned (.bool true) ∧ Below w.heap.size w w' := by
  obtain ⟨i0, hi0, hz0, hz1, hz2⟩ := info_parts Try.info_u32
  obtain ⟨j0, hj0, jz0, jz1, jz2⟩ := info_parts Try.info_dot
  have Hl := Lib.hid hl
  have Hi := Lib.hid hi
  have Ho := Lib.hid ho
  have m1 : ys.length ≤ 9223372036854775807 := by have := hl.len; unfold maxLen at this; omega
  have m2 : l.length ≤ 9223372036854775807 := by have := hi.2.1; have := hi.2.2.1; unfold maxLen at this; omega
  have m3 : m.length ≤ 9223372036854775807 := by have := ho.2.1; have := ho.2.2.1; unfold maxLen at this; omega
  clear hl hi ho
  go_enter Try.func6, Try.ntmps6
  go_wp2_with fail
  refine (great17_any la lc ys _ Hl.out).mono ?_
  rintro e w1 ⟨rfl, hb1⟩
  have HB := Lib.hid hb1
  clear hb1
  cases hg : greatL ys with
  | true =>
    clear hg
    go_wp2_with fail
    refine (known17_any _).mono ?_
    rintro e w3 ⟨rfl, hb3⟩
    have HB3 := Lib.hid (HB.out.trans (hb3.mono HB.out.size))
    clear hb3
    go_wp2_with fail
    go_ret
    exact ⟨rfl, HB3.out⟩
  | false =>
    have Hg := Lib.hid hg
    clear hg
    by_cases h20 : 20 < l.length
    · have h20' : decide ((20 : Int) < l.length) = true := by simp; omega
      go_wp2_with fail
      refine (known17_any _).mono ?_
      rintro e w3 ⟨rfl, hb3⟩
      have HB3 := Lib.hid (HB.out.trans (hb3.mono HB.out.size))
      clear hb3
      go_wp2_with fail
      go_ret
      exact ⟨rfl, HB3.out⟩
    · have h20' : decide ((20 : Int) < l.length) = false := by simp; omega
      by_cases h40 : 20 < m.length
      · have h40' : decide ((20 : Int) < m.length) = true := by simp; omega
        go_wp2_with fail
        refine (known17_any _).mono ?_
        rintro e w3 ⟨rfl, hb3⟩
        have HB3 := Lib.hid (HB.out.trans (hb3.mono HB.out.size))
        clear hb3
        go_wp2_with fail
        go_ret
        exact ⟨rfl, HB3.out⟩
      · have h40' : decide ((20 : Int) < m.length) = false := by simp; omega
        have hys : ys.length ≤ 60 := by have := Hg.out; simp [greatL] at this; omega
        have Hgk := Lib.hid (show ∀ y ∈ ys, y.vv.length ≤ 40 ∧ y.incs.length ≤ 20 by
          have := Hg.out; simp only [greatL, Bool.or_eq_false_iff, List.any_eq_false] at this
          intro y hy; have := this.1 y hy; simp [greatK] at this; omega)
        clear Hg
        go_wp2_with fail
        refine (mayIncs_any ia ic l n _ (Hi.out.below HB.out) (by omega)).mono ?_
        rintro e w2 ⟨rfl, hb⟩
        obtain ⟨b1, hb1⟩ : ∃ b, mayIncs l n = b := ⟨_, rfl⟩
        rw [hb1]
        replace HB := Lib.hid (HB.out.trans (hb.mono HB.out.size))
        clear hb
        go_wp2_with fail
        refine (rmayIncs_any ia ic l n _ (Hi.out.below HB.out) (by omega)).mono ?_
        rintro e w3 ⟨rfl, hb⟩
        rw [hb1]
        clear hb1
        replace HB := Lib.hid (HB.out.trans (hb.mono HB.out.size))
        clear hb
        go_wp2_with fail
        refine (withinI_any ia oa ic oc l m _ (Hi.out.below HB.out) (Ho.out.below HB.out) (by omega) (by omega)).mono ?_
        rintro e w4 ⟨rfl, hb⟩
        obtain ⟨b2, hb2⟩ : ∃ b, withinI l m = b := ⟨_, rfl⟩
        rw [hb2]
        replace HB := Lib.hid (HB.out.trans (hb.mono HB.out.size))
        clear hb
        go_wp2_with fail
        refine (rwithinI_any ia oa ic oc l m _ (Hi.out.below HB.out) (Ho.out.below HB.out) (by omega) (by omega)).mono ?_
        rintro e w5 ⟨rfl, hb⟩
        rw [hb2]
        clear hb2
        replace HB := Lib.hid (HB.out.trans (hb.mono HB.out.size))
        clear hb
        go_wp2_with fail
        refine (joinIncs_any ia oa ic oc l m _ (Hi.out.below HB.out) (Ho.out.below HB.out) (by omega) (by omega)).mono ?_
        rintro e w6 ⟨a6, c6, rfl, ho6, hb⟩
        have hjl := joinI_le' l m
        have Ho6 := Lib.hid ho6
        replace HB := Lib.hid (HB.out.trans (hb.mono HB.out.size))
        clear hb
        clear ho6
        go_wp2_with fail
        refine (rjoinIncs_any ia oa ic oc l m _ (Hi.out.below HB.out) (Ho.out.below HB.out) (by omega) (by omega)).mono ?_
        rintro e w7 ⟨a7, c7, rfl, ho7, hb⟩
        have Ho7 := Lib.hid ho7
        replace Ho6 := Lib.hid (owns_chg (F := []) Ho6.out (Chg.of_below hb) (by simp))
        replace HB := Lib.hid (HB.out.trans (hb.mono HB.out.size))
        clear hb
        clear ho7
        generalize joinI l m = jl at *
        go_wp2_with fail
        refine (rsameI_any a6 a7 c6 c7 jl jl _ (u32_of Ho6.out) (u32_of Ho7.out) (by omega) (by omega)).mono ?_
        rintro e w8 ⟨rfl, hb⟩
        rw [decide_eq_true (rfl : jl = jl)]
        replace HB := Lib.hid (HB.out.trans (hb.mono HB.out.size))
        clear hb
        clear Ho6 Ho7
        go_wp2_with fail
        refine (new_any n _).mono ?_
        rintro e w9 (⟨hn, rfl, rfl⟩ | ⟨hn, rfl, hM, hb⟩)
        · by_cases hn1 : n < 1
          · have hn1' : decide (n < 1) = true := by simpa using hn1
            go_wp2_with fail
            refine (known17_any _).mono ?_
            rintro e w3 ⟨rfl, hb3⟩
            have HB3 := Lib.hid (HB.out.trans (hb3.mono HB.out.size))
            clear hb3
            go_wp2_with fail
            go_ret
            exact ⟨rfl, HB3.out⟩
          · have hn1' : decide (n < 1) = false := by simpa using hn1
            have hn2 : decide (16 < n) = true := by simp; omega
            go_wp2_with fail
            refine (known17_any _).mono ?_
            rintro e w3 ⟨rfl, hb3⟩
            have HB3 := Lib.hid (HB.out.trans (hb3.mono HB.out.size))
            clear hb3
            go_wp2_with fail
            go_ret
            exact ⟨rfl, HB3.out⟩
        · obtain ⟨N, rfl⟩ : ∃ N : Nat, n = N := ⟨n.toNat, by omega⟩
          simp only [Int.toNat_natCast] at hM
          have hn1 : decide ((N : Int) < 1) = false := by simp; omega
          have hn2 : decide ((16 : Int) < N) = false := by simp; omega
          have hpm : w.heap.size ≤ w8.heap.size := HB.out.size
          have hpl : w8.heap.size < w9.heap.size := by obtain ⟨C, P, h⟩ := hM; exact heap_lt h.blk
          have HM := Lib.hid (mat_new' (G := fun b => b < w9.heap.size + 1 ∧ b ≠ w9.heap.size) hM ⟨by omega, by omega⟩)
          replace HB := Lib.hid (HB.out.trans (hb.mono HB.out.size))
          clear hb
          clear hM
          generalize w8.heap.size = pm0 at *
          go_upto_region 11 with (fail)
          have hx := heap_new w9 (.cells #[.int .i64 (N : Int), .slice none 0 0] 65)
          have hb := (Below.refl _ w9).alloc (Nat.le_refl _) (.cells #[.int .i64 (N : Int), .slice none 0 0] 65)
          have hM := HM.out.below hb
          have hsz : (w9.alloc (.cells #[.int .i64 (N : Int), .slice none 0 0] 65)).heap.size = w9.heap.size + 1 := by simp
          have E := Lib.hid (⟨hM.mono (fun b hb => by rw [hsz]; exact hb), ref_new' hx ⟨by rw [hsz]; omega, by omega⟩, okR_new _, by simp, Nat.le_refl _, by omega, hpm, by omega, by rw [hsz]; omega, by rw [hsz]; omega, HB.out.trans (hb.mono HB.out.size)⟩ : EtE w (w9.alloc (.cells #[.int .i64 (N : Int), .slice none 0 0] 65)) pm0 w9.heap.size N [] 0)
          clear hM hb hx HM HB hpm hpl hsz
          generalize w9.alloc (.cells #[.int .i64 (N : Int), .slice none 0 0] 65) = w10 at *
          generalize w9.heap.size = pw at *
          go_wp2_with fail
          go_loopw [9, 88] (fun p9 j wr => ∃ (k pm : Nat) (L : List Ak), k ≤ ys.length ∧ j = .int .i64 k ∧ p9 = .pointer (some ⟨pm, 0, none⟩) ∧ Hid (EtE w wr pm pw N L k)) (fun _ j _ => ys.length - (intOf j).toNat)
          case atStart => exact ⟨0, pm0, [], Nat.zero_le _, rfl, rfl, E⟩
          case round =>
            obtain ⟨k, pm, L, hk, rfl, rfl, HE⟩ := hrel
            clear E
            by_cases hlt : k < ys.length
            · obtain ⟨⟨yr, yi, yl, yv⟩, hy⟩ : ∃ y, ys[k]? = some y := ⟨ys[k], by simp [hlt]⟩
              obtain ⟨ad, ai, ci, av, cv, had, hat0, hl0⟩ := Hl.out.at hy
              have hgk := Hgk.out _ (List.mem_of_getElem? hy)
              obtain ⟨c0, c1, c2, c3, t1, t2, t3⟩ := hat0.below HE.out.below
              clear t1 t2 t3
              have Hi1 := Lib.hid hat0.hi
              have Hv1 := Lib.hid hat0.hv
              have hok := hat0.ok
              have hl1 : ad.block < _ := Nat.lt_of_lt_of_le hl0 HE.out.below.size
              clear hat0 hl0
              dsimp only at c0 c1 c2 c3 hgk Hi1 Hv1
              obtain ⟨rn, rfl⟩ : ∃ rn : Nat, yr = rn := ⟨yr.toNat, by have := hok.1.1.1; dsimp only at this; omega⟩
              have hrn : rn ≤ 255 := by have := hok.1.1.2; dsimp only at this; omega
              subst had
              have Hok := Lib.hid hok
              clear hy hok
              go_upto_region 15 with (fail)
              have hv0 := heap_new2 wr (.cells #[.int .u8 rn, .int .u32 yi, .slice ai yl.length ci, .slice av yv.length cv] 51) (.cells #[.int .u8 rn, .int .u32 yi, .slice ai yl.length ci, .slice av yv.length cv] 51)
              have hx0 : ((wr.alloc (.cells #[.int .u8 rn, .int .u32 yi, .slice ai yl.length ci, .slice av yv.length cv] 51)).alloc (.cells #[.int .u8 rn, .int .u32 yi, .slice ai yl.length ci, .slice av yv.length cv] 51)).heap[wr.heap.size]? = _ := (heap_old _ _ (by simp)).trans (heap_new wr (.cells #[.int .u8 rn, .int .u32 yi, .slice ai yl.length ci, .slice av yv.length cv] 51))
              have hb0 : Below wr.heap.size wr ((wr.alloc (.cells #[.int .u8 rn, .int .u32 yi, .slice ai yl.length ci, .slice av yv.length cv] 51)).alloc (.cells #[.int .u8 rn, .int .u32 yi, .slice ai yl.length ci, .slice av yv.length cv] 51)) := ((Below.refl _ wr).alloc (Nat.le_refl _) _).alloc (by simp) _
              have hs0 : wr.heap.size + 2 = ((wr.alloc (.cells #[.int .u8 rn, .int .u32 yi, .slice ai yl.length ci, .slice av yv.length cv] 51)).alloc (.cells #[.int .u8 rn, .int .u32 yi, .slice ai yl.length ci, .slice av yv.length cv] 51)).heap.size := by simp
              generalize (wr.alloc (.cells #[.int .u8 rn, .int .u32 yi, .slice ai yl.length ci, .slice av yv.length cv] 51)).alloc (.cells #[.int .u8 rn, .int .u32 yi, .slice ai yl.length ci, .slice av yv.length cv] 51) = v0 at *
              have Hx0 := Lib.hid hx0
              have Hv0 := Lib.hid hv0
              have HB0 := Lib.hid hb0
              have d0 := cells_at hx0
              have HU := Lib.hid (Hi1.out.below (HE.out.below.trans (hb0.mono HE.out.below.size)))
              have HV := Lib.hid (Hv1.out.below (HE.out.below.trans (hb0.mono HE.out.below.size)))
              clear hx0 hv0 hb0 c0 c1 c2 c3 hl1
              go_cut [97] (fun _ wx => InTo wr wx wr.heap.size rn yi ai yl.length ci av yv.length cv yl yv)
              case first =>
                refine region_tree_at (fun q => q = wr.heap.size) (.seg [1, 2, 5, 6] false (.fork (.seg [0] false (.fork (.seg [3] true (.seg [8, 4, 7, 9, 10, 11] false .done)) (.seg [4] false (.seg [3] true (.seg [8, 7, 9, 10, 11] false .done))))) (.seg [4, 0] false (.seg [3] true (.seg [8, 7, 9, 10, 11] false .done))))) mixed (by kernel_rfl) ?_
                simp only [wpSgB, List.map_cons, List.map_nil, List.getD_cons_succ, List.getD_cons_zero]
                go_wp2_with fail
                refine And.intro ?_ ?_
                · go_wp2_with fail
                  refine And.intro ?_ ?_
                  · skip
                    go_wp2_with (at_builtin; go_must (refine wpList_append_sl rfl _ _ 45 rfl v0.heap.size 29 i0 (.int .u32 0) 1 4 Try.underlying45 hi0 hz0 hz1 hz2 rfl (by decide) (some ⟨v0.heap.size, 0, none⟩) 0 0 [] rfl ?o1 ai yl.length ci (ucells yl) rfl ?s1 ?t1 ?c1 ?d1 ?e1 ?_))
                    case o1 =>
                      exact World.ownsRow_made v0 #[] 0 (Nat.le_refl _) (by decide) rfl
                    case s1 => exact HU.out.below ((Below.refl _ v0).alloc (Nat.le_refl _) _).drew
                    case t1 => exact ucells_one _
                    case c1 => unfold maxLen; omega
                    case d1 => omega
                    case e1 => first | (simp; done) | (simp; omega)
                    intro a5 c5 w5 ho5 hC5 hob5
                    try simp only [Nat.zero_add, List.nil_append] at ho5
                    try simp only [Nat.zero_add]
                    have hB5 : Below v0.heap.size v0 w5 := ((Below.refl _ v0).alloc (Nat.le_refl _) _).drew.trans (hC5.below (by simp <;> omega) (by simp [ob]))
                    have hHeld := Held.of_chg (q := wr.heap.size) ((((Below.refl _ v0).alloc (Nat.le_refl _) _).drew.block _ (by omega)).trans Hx0.out) hC5 (by simp [ob]; omega)
                    have hd5 : ∀ x ∈ ob a5, x < w5.heap.size := fun x hx => (owns_lt ho5 x hx).2
                    have Ho5 := Lib.hid ho5
                    have HB5 := Lib.hid hB5
                    clear ho5 hC5 hob5 hB5
                    go_wp2_with fail
                    refine And.intro hHeld ?_
                    clear hHeld
                    have hs5 := HB5.out.size
                    go_wp2_with (at_builtin; go_must (refine wpList_append_sl rfl _ _ 23 rfl v0.heap.size 34 j0 (.agg #[.int .u8 0, .int .u32 0, .int .u64 0]) 3 16 Try.underlying23 hj0 jz0 jz1 jz2 rfl (by decide) (some ⟨w5.heap.size, 0, none⟩) 0 0 [] rfl ?o2 av yv.length cv (dcells yv) rfl ?s2 ?t2 ?c2 ?d2 ?e2 ?_))
                    case o2 =>
                      exact owns_base (World.ownsRow_made w5 #[] 0 (Nat.le_refl _) (by decide) rfl) hs5
                    case s2 => exact HV.out.below (HB5.out.alloc hs5 _)
                    case t2 => exact dcells_one _
                    case c2 => unfold maxLen; omega
                    case d2 => omega
                    case e2 => first | omega | (simp; omega)
                    intro a6 c6 w6 ho6 hC6 hob6
                    try simp only [Nat.zero_add, List.nil_append] at ho6
                    try simp only [Nat.zero_add]
                    have HB6 := Lib.hid ((HB5.out.alloc hs5 _).trans (hC6.below (by first | exact hs5 | (simp; omega)) (by simp [ob] <;> omega)))
                    have Ho5b := Lib.hid (owns_chg (owns_chg (F := []) Ho5.out (Chg.alloc _ _ _) (by simp)) hC6 (fun x hx => by simp [ob]; have := hd5 x hx; omega))
                    have Ho6 := Lib.hid ho6
                    have Hdis := Lib.hid (show ∀ x ∈ ob a5, x ∉ ob a6 from fun x hx hx6 => by
                      have h1 := hd5 x hx
                      have h2 := hob6 x hx6
                      simp [ob] at h2
                      omega)
                    have hi6 := (HB6.out.block _ (by omega)).trans Hv0.out
                    have d6 := cells_at hi6
                    have f6 := free_at hi6
                    clear ho6 hC6 hob6 hi6
                    go_wp2_with fail
                    refine And.intro (And.intro (by kernel_rfl) ?rds) ?_
                    case rds => exact reads_of ⟨trivial, trivial, rfl, trivial, trivial, trivial, rfl, trivial, trivial, trivial, trivial, trivial, trivial⟩
                    go_wp2_with fail
                    go_meet
                    exact ⟨a5, c5, a6, c6, in_end rfl hs0 HB0.out HB6.out Hx0.out Hv0.out Ho5b.out Ho6.out Hdis.out⟩
                  · skip
                    go_wp2_with (at_builtin; go_must (refine wpList_append_sl rfl _ _ 45 rfl v0.heap.size 29 i0 (.int .u32 0) 1 4 Try.underlying45 hi0 hz0 hz1 hz2 rfl (by decide) (some ⟨v0.heap.size, 0, none⟩) 0 0 [] rfl ?o1 ai yl.length ci (ucells yl) rfl ?s1 ?t1 ?c1 ?d1 ?e1 ?_))
                    case o1 =>
                      exact (World.ownsRow_made v0 #[] 0 (Nat.le_refl _) (by decide) rfl).alloc _
                    case s1 => exact HU.out.below (((Below.refl _ v0).alloc (Nat.le_refl _) _).alloc (by simp) _).drew
                    case t1 => exact ucells_one _
                    case c1 => unfold maxLen; omega
                    case d1 => omega
                    case e1 => first | (simp; done) | (simp; omega)
                    intro a5 c5 w5 ho5 hC5 hob5
                    try simp only [Nat.zero_add, List.nil_append] at ho5
                    try simp only [Nat.zero_add]
                    have hB5 : Below v0.heap.size v0 w5 := (((Below.refl _ v0).alloc (Nat.le_refl _) _).alloc (by simp) _).drew.trans (hC5.below (by simp <;> omega) (by simp [ob]))
                    have hHeld := Held.of_chg (q := wr.heap.size) (((((Below.refl _ v0).alloc (Nat.le_refl _) _).alloc (by simp) _).drew.block _ (by omega)).trans Hx0.out) hC5 (by simp [ob]; omega)
                    have hd5 : ∀ x ∈ ob a5, x < w5.heap.size := fun x hx => (owns_lt ho5 x hx).2
                    have hob5' : ∀ x ∈ ob a5, x ≠ v0.heap.size + 1 := fun x hx => by
                      have := hob5 x hx
                      simp [ob] at this
                      omega
                    have hE2 := owns_chg (F := ob (some ⟨v0.heap.size, 0, none⟩)) (w := ((v0.alloc (.cells #[] 29)).alloc (.cells #[] 34)).drew) (show ((v0.alloc (.cells #[] 29)).alloc (.cells #[] 34)).drew.ownsRow v0.heap.size 34 3 (.slice (some ⟨v0.heap.size + 1, 0, none⟩) 0 0) 0 [] by
                      have h1 := (owns_base (base' := v0.heap.size) (e := 34) (size := 3) (World.ownsRow_made (v0.alloc (.cells #[] 29)) #[] 0 (Nat.le_refl _) (by decide) rfl) (by simp))
                      rw [World.size_alloc] at h1
                      exact h1) hC5 (by simp [ob])
                    have HE2 := Lib.hid hE2
                    clear hE2
                    have Ho5 := Lib.hid ho5
                    have HB5 := Lib.hid hB5
                    clear ho5 hC5 hob5 hB5
                    go_wp2_with fail
                    refine And.intro hHeld ?_
                    clear hHeld
                    have hs5 := HB5.out.size
                    go_wp2_with (at_builtin; go_must (refine wpList_append_sl rfl _ _ 23 rfl v0.heap.size 34 j0 (.agg #[.int .u8 0, .int .u32 0, .int .u64 0]) 3 16 Try.underlying23 hj0 jz0 jz1 jz2 rfl (by decide) (some ⟨v0.heap.size + 1, 0, none⟩) 0 0 [] rfl ?o2 av yv.length cv (dcells yv) rfl ?s2 ?t2 ?c2 ?d2 ?e2 ?_))
                    case o2 =>
                      exact HE2.out
                    case s2 => exact HV.out.below HB5.out
                    case t2 => exact dcells_one _
                    case c2 => unfold maxLen; omega
                    case d2 => omega
                    case e2 => first | omega | (simp; omega)
                    intro a6 c6 w6 ho6 hC6 hob6
                    try simp only [Nat.zero_add, List.nil_append] at ho6
                    try simp only [Nat.zero_add]
                    have HB6 := Lib.hid (HB5.out.trans (hC6.below (by first | exact hs5 | (simp; omega)) (by simp [ob] <;> omega)))
                    have Ho5b := Lib.hid (owns_chg Ho5.out hC6 (fun x hx => by simp [ob]; have := hd5 x hx; have := hob5' x hx; omega))
                    have Ho6 := Lib.hid ho6
                    have Hdis := Lib.hid (show ∀ x ∈ ob a5, x ∉ ob a6 from fun x hx hx6 => by
                      have h1 := hd5 x hx
                      have h2 := hob6 x hx6
                      simp [ob] at h2
                      have := hob5' x hx; omega)
                    have hi6 := (HB6.out.block _ (by omega)).trans Hv0.out
                    have d6 := cells_at hi6
                    have f6 := free_at hi6
                    clear ho6 hC6 hob6 hi6
                    go_wp2_with fail
                    refine And.intro (And.intro (by kernel_rfl) ?rds) ?_
                    case rds => exact reads_of ⟨trivial, trivial, rfl, trivial, trivial, trivial, rfl, trivial, trivial, trivial, trivial, trivial, trivial⟩
                    go_wp2_with fail
                    go_meet
                    exact ⟨a5, c5, a6, c6, in_end rfl hs0 HB0.out HB6.out Hx0.out Hv0.out Ho5b.out Ho6.out Hdis.out⟩
                · skip
                  go_wp2_with (at_builtin; go_must (refine wpList_append_sl rfl _ _ 45 rfl v0.heap.size 29 i0 (.int .u32 0) 1 4 Try.underlying45 hi0 hz0 hz1 hz2 rfl (by decide) (some ⟨v0.heap.size + 1, 0, none⟩) 0 0 [] rfl ?o1 ai yl.length ci (ucells yl) rfl ?s1 ?t1 ?c1 ?d1 ?e1 ?_))
                  case o1 =>
                    have h1 := (owns_base (base' := v0.heap.size) (e := 29) (size := 1) (World.ownsRow_made (v0.alloc (.cells #[] 34)) #[] 0 (Nat.le_refl _) (by decide) rfl) (by simp))
                    rw [World.size_alloc] at h1
                    exact h1
                  case s1 => exact HU.out.below (((Below.refl _ v0).alloc (Nat.le_refl _) _).alloc (by simp) _).drew
                  case t1 => exact ucells_one _
                  case c1 => unfold maxLen; omega
                  case d1 => omega
                  case e1 => first | (simp; done) | (simp; omega)
                  intro a5 c5 w5 ho5 hC5 hob5
                  try simp only [Nat.zero_add, List.nil_append] at ho5
                  try simp only [Nat.zero_add]
                  have hB5 : Below v0.heap.size v0 w5 := (((Below.refl _ v0).alloc (Nat.le_refl _) _).alloc (by simp) _).drew.trans (hC5.below (by simp <;> omega) (by simp [ob]))
                  have hHeld := Held.of_chg (q := wr.heap.size) (((((Below.refl _ v0).alloc (Nat.le_refl _) _).alloc (by simp) _).drew.block _ (by omega)).trans Hx0.out) hC5 (by simp [ob]; omega)
                  have hd5 : ∀ x ∈ ob a5, x < w5.heap.size := fun x hx => (owns_lt ho5 x hx).2
                  have hob5' : ∀ x ∈ ob a5, x ≠ v0.heap.size := fun x hx => by
                    have := hob5 x hx
                    simp [ob] at this
                    omega
                  have hE2 := owns_chg (F := ob (some ⟨v0.heap.size + 1, 0, none⟩)) (w := ((v0.alloc (.cells #[] 34)).alloc (.cells #[] 29)).drew) (show ((v0.alloc (.cells #[] 34)).alloc (.cells #[] 29)).drew.ownsRow v0.heap.size 34 3 (.slice (some ⟨v0.heap.size, 0, none⟩) 0 0) 0 [] from (World.ownsRow_made v0 #[] 0 (Nat.le_refl _) (by decide) rfl).alloc _) hC5 (by simp [ob])
                  have HE2 := Lib.hid hE2
                  clear hE2
                  have Ho5 := Lib.hid ho5
                  have HB5 := Lib.hid hB5
                  clear ho5 hC5 hob5 hB5
                  go_wp2_with fail
                  refine And.intro hHeld ?_
                  clear hHeld
                  have hs5 := HB5.out.size
                  go_wp2_with (at_builtin; go_must (refine wpList_append_sl rfl _ _ 23 rfl v0.heap.size 34 j0 (.agg #[.int .u8 0, .int .u32 0, .int .u64 0]) 3 16 Try.underlying23 hj0 jz0 jz1 jz2 rfl (by decide) (some ⟨v0.heap.size, 0, none⟩) 0 0 [] rfl ?o2 av yv.length cv (dcells yv) rfl ?s2 ?t2 ?c2 ?d2 ?e2 ?_))
                  case o2 =>
                    exact HE2.out
                  case s2 => exact HV.out.below HB5.out
                  case t2 => exact dcells_one _
                  case c2 => unfold maxLen; omega
                  case d2 => omega
                  case e2 => first | omega | (simp; omega)
                  intro a6 c6 w6 ho6 hC6 hob6
                  try simp only [Nat.zero_add, List.nil_append] at ho6
                  try simp only [Nat.zero_add]
                  have HB6 := Lib.hid (HB5.out.trans (hC6.below (by first | exact hs5 | (simp; omega)) (by simp [ob] <;> omega)))
                  have Ho5b := Lib.hid (owns_chg Ho5.out hC6 (fun x hx => by simp [ob]; have := hd5 x hx; have := hob5' x hx; omega))
                  have Ho6 := Lib.hid ho6
                  have Hdis := Lib.hid (show ∀ x ∈ ob a5, x ∉ ob a6 from fun x hx hx6 => by
                    have h1 := hd5 x hx
                    have h2 := hob6 x hx6
                    simp [ob] at h2
                    have := hob5' x hx; omega)
                  have hi6 := (HB6.out.block _ (by omega)).trans Hv0.out
                  have d6 := cells_at hi6
                  have f6 := free_at hi6
                  clear ho6 hC6 hob6 hi6
                  go_wp2_with fail
                  refine And.intro (And.intro (by kernel_rfl) ?rds) ?_
                  case rds => exact reads_of ⟨trivial, trivial, rfl, trivial, trivial, trivial, rfl, trivial, trivial, trivial, trivial, trivial, trivial⟩
                  go_wp2_with fail
                  go_meet
                  exact ⟨a5, c5, a6, c6, in_end rfl hs0 HB0.out HB6.out Hx0.out Hv0.out Ho5b.out Ho6.out Hdis.out⟩
              case rest =>
                clear Hx0 Hv0 HB0 d0 HU HV hs0
                obtain ⟨a5, c5, a6, c6, hin, hb⟩ := hcut
                have T0 : TkE w wc pm pm pw N (RL L) (RL L) L (fun b => b < wr.heap.size ∧ b ≠ pw) (fun b => b < wr.heap.size ∧ b ≠ pw) (fun b => b < wr.heap.size ∧ b ≠ pm) := ⟨HE.out.mat.below hb, HE.out.mat.below hb, HE.out.ref.below hb, HE.out.below.trans (hb.mono HE.out.below.size)⟩
                have hne := HE.out.ne
                have hwm := HE.out.hm
                have hww := HE.out.hw
                have hpm := HE.out.ltm
                have hpw := HE.out.ltw
                have hsw := HE.out.below.size
                have hlen := HE.out.len
                have Okl := Lib.hid HE.out.okl
                have Oka := Lib.hid HE.out.oka
                have hs1 : wr.heap.size + 2 ≤ wc.heap.size := heap_lt hin.bi
                have hob5 := owns_lt hin.o5
                have hob6 := owns_lt hin.o6
                have IN := Lib.hid hin
                have HT := Lib.hid T0
                clear hin hb T0 HE
                generalize wr.heap.size = s0 at *
                go_wp2_with fail
                refine (copy_any pm N (RL L) _ wc HT.out.mat Okl.out).mono ?_
                rintro e w11 ⟨rfl, hMc, hb⟩
                replace IN := Lib.hid (IN.out.step hb)
                have hs2 := hb.size
                have hpc : wc.heap.size < w11.heap.size := by obtain ⟨C, P, h⟩ := hMc; exact heap_lt h.blk
                replace HT := Lib.hid (⟨HT.out.mat.below hb, hMc, HT.out.ref.below hb, HT.out.below.trans (hb.mono HT.out.below.size)⟩ : TkE w w11 pm wc.heap.size pw N (RL L) (RL L) L _ _ _)
                clear hb hMc
                generalize wc.heap.size = s1 at *
                have d13 := cells_at IN.out.bx
                have d14 := cells_at IN.out.bi
                go_wp2_with fail
                refine region_tree_at (fun q => q = s0 ∨ q = s0 + 1) (sgOf [([0, 1, 3, 4], false), ([2], true), ([5, 6, 7, 8, 9, 11, 12], false), ([10], true), ([13, 14, 15], false)]) mixed (by kernel_rfl) ?_
                simp only [sgOf, wpSgB, List.map_cons, List.map_nil, List.getD_cons_succ, List.getD_cons_zero]
                go_wp2_with fail
                refine (mayK_any rn yi a5 a6 c5 c6 yv.length yl yv N _ ((u32_of IN.out.o5).below (Below.refl _ _).drew) hrn (by omega)).mono ?_
                rintro e w12 ⟨rfl, hb⟩
                obtain ⟨bk, hbk⟩ : ∃ b, mayK ⟨rn, yi, yl, yv⟩ N = b := ⟨_, rfl⟩
                rw [hbk]
                have hb' := (Below.refl _ w11).drew.trans hb
                replace IN := Lib.hid (IN.out.step hb')
                replace HT := Lib.hid (HT.out.step hb')
                have hs3 := hb'.size
                clear hb' d13 d14
                have d13 := cells_at IN.out.bx
                have d14 := cells_at IN.out.bi
                go_wp2_with fail
                refine And.intro (Or.inl (Agree.of_below hb)) ?_
                clear hb
                go_wp2_with fail
                refine (rmayK_any rn yi ai av ci cv yv.length yl yv N _ (Hi1.out.below HT.out.below) hrn (by omega)).mono ?_
                rintro e w13 ⟨rfl, hb⟩
                rw [hbk]
                clear hbk
                replace IN := Lib.hid (IN.out.step hb)
                replace HT := Lib.hid (HT.out.step hb)
                have hs4 := hb.size
                clear hb d13 d14
                have d13 := cells_at IN.out.bx
                have d14 := cells_at IN.out.bi
                go_wp2_with fail
                refine (take_strong rn yi a5 a6 c5 c6 yl yv pm N (RL L) _ _ HT.out.mat Okl.out (u32_of IN.out.o5) (vec_of IN.out.o6) hrn Hok.out.2.2 (by omega) (by omega)).mono ?_
                rintro e w14 ⟨rfl, hM, hch⟩
                obtain ⟨bt, hbt⟩ : ∃ b, takesM N (RL L) ⟨rn, yi, yl, yv⟩ = b := ⟨_, rfl⟩
                rw [hbt]
                have hHeld := held_two (p := s0) (q := s0 + 1) IN.out.bx IN.out.bi hch (by simp; omega) (by simp; omega)
                replace IN := Lib.hid (IN.out.chg hch (by simp; omega))
                replace HT := Lib.hid (HT.out.takeM hM hch hwm (by first | omega | (dsimp only; omega)) (by first | omega | (dsimp only; omega)))
                have hs5 := hch.size
                clear hM hch d13 d14
                go_wp2_with fail
                refine And.intro hHeld ?_
                clear hHeld
                go_wp2_with fail
                refine (rtake_strong rn yi ai av ci cv yl yv pw N L _ _ HT.out.ref (by omega) Oka.out Okl.out (Hi1.out.below HT.out.below) (Hv1.out.below HT.out.below) hrn Hok.out.2.2 (by omega) (by omega)).mono ?_
                rintro e w15 ⟨rfl, hM, hch⟩
                rw [hbt]
                replace IN := Lib.hid (IN.out.chg hch (by simp; omega))
                replace HT := Lib.hid (HT.out.takeR hM hch hww (by first | omega | (dsimp only; omega)) (by first | omega | (dsimp only; omega)))
                have hs6 := hch.size
                have Hnx := Lib.hid (RL_next (n := N) (L := L) (a := ⟨rn, yi, yl, yv⟩) (Int.natCast_nonneg _))
                rw [← Hnx.out] at HT
                replace Oka := Lib.hid (oka_next (n := N) Oka.out Hok.out)
                have Okl2 := Lib.hid (okl_next Okl.out Hok.out)
                have hlen2 := len_next (n := N) (a := ⟨rn, yi, yl, yv⟩) hlen
                clear hM hch hbt
                go_wp2_with fail
                refine And.intro (And.intro (by kernel_rfl) ?rds) ?_
                case rds => exact reads_of ⟨.inr rfl, trivial, trivial, .inl rfl, trivial, trivial, trivial, trivial, trivial, .inr rfl, trivial, trivial, .inl rfl, trivial, trivial, trivial, trivial⟩
                have HN := Lib.hid (OwnN.of IN.out.o6)
                have HU := Lib.hid (OwnU.of IN.out.o5)
                have HX := Lib.hid IN.out.bx
                have HY := Lib.hid IN.out.bi
                have Hdis := Lib.hid IN.out.dis
                have d14 := cells_at HY.out
                clear IN
                obtain ⟨z5, hz⟩ : ∃ z, z = w15.heap.size := ⟨_, rfl⟩
                rw [← hz] at HT hs6
                have hz5 : z5 ≤ w15.heap.size := Nat.le_of_eq hz
                clear hz
                generalize w14.heap.size = z4 at *
                generalize w13.heap.size = z3 at *
                generalize w11.heap.size = z2 at *
                generalize hL2 : nextL N L ⟨rn, yi, yl, yv⟩ = L2 at *
                go_wp2_with fail
                clear d14
                go_loopw [125] (fun j wx => ∃ k2 : Nat, k2 ≤ yv.length ∧ j = .int .i64 k2 ∧ Hid (TkE w wx pm s1 pw N (RL L2) (RL L) L2 (fun b => (b < s0 ∧ b ≠ pw) ∨ z3 ≤ b ∧ b < z4) (fun b => s1 ≤ b ∧ b < z2) (fun b => (b < s0 ∧ b ≠ pm) ∨ z4 ≤ b ∧ b < z5)) ∧ Hid (OwnN wx (s0 + 2) a6 yv.length c6) ∧ Hid (OwnU wx (s0 + 2) a5 yl.length c5) ∧ Hid (wx.heap[s0]? = some (.cells #[.int .u8 rn, .int .u32 yi, .slice ai yl.length ci, .slice av yv.length cv] 51 (0, 0))) ∧ Hid (wx.heap[s0 + 1]? = some (.cells #[.int .u8 rn, .int .u32 yi, .slice a5 yl.length c5, .slice a6 yv.length c6] 51 (0, 0))) ∧ z5 ≤ wx.heap.size) (fun j _ => yv.length - (intOf j).toNat)
                case atStart => exact ⟨0, Nat.zero_le _, rfl, HT, HN, HU, HX, HY, hz5⟩
                case round =>
                  obtain ⟨k2, hk2, rfl, HT, HN, HU, HX, HY, hz5⟩ := hrel
                  have d14 := cells_at HY.out
                  by_cases hkm : k2 < yv.length
                  · obtain ⟨g, x, rfl, hp⟩ := HN.out.at hkm
                    have HP := Lib.hid hp
                    obtain ⟨p1, p2, p3, p4, _⟩ := hp
                    have hgb := (hob6 g (by simp [ob])).2
                    have hne2 : ¬ g = s0 + 1 := by omega
                    go_wp2_with fail
                    go_roundw
                    case rel => exact ⟨k2 + 1, by omega, by go_num, Lib.hid (HT.out.put (by omega) (by omega) (by omega) (by omega)), Lib.hid (HP.out.put _), Lib.hid (HU.out.chg (Chg.setCell _ ⟨g, k2 * 3 + 2, none⟩ _) (fun b hb => by have := Hdis.out b hb; simpa [ob] using this)), Lib.hid (heap_chg HX.out (Chg.setCell _ ⟨g, k2 * 3 + 2, none⟩ _) (by simp; omega)), Lib.hid (heap_chg HY.out (Chg.setCell _ ⟨g, k2 * 3 + 2, none⟩ _) (by simp; omega)), by simpa using hz5⟩
                    case measure => simp [intOf]; omega
                  · clear HN
                    go_wp2_with fail
                    clear d14
                    go_loopw [141] (fun j wx => ∃ k2 : Nat, k2 ≤ yl.length ∧ j = .int .i64 k2 ∧ Hid (TkE w wx pm s1 pw N (RL L2) (RL L) L2 (fun b => (b < s0 ∧ b ≠ pw) ∨ z3 ≤ b ∧ b < z4) (fun b => s1 ≤ b ∧ b < z2) (fun b => (b < s0 ∧ b ≠ pm) ∨ z4 ≤ b ∧ b < z5)) ∧ Hid (OwnU wx (s0 + 2) a5 yl.length c5) ∧ Hid (wx.heap[s0]? = some (.cells #[.int .u8 rn, .int .u32 yi, .slice ai yl.length ci, .slice av yv.length cv] 51 (0, 0))) ∧ Hid (wx.heap[s0 + 1]? = some (.cells #[.int .u8 rn, .int .u32 yi, .slice a5 yl.length c5, .slice a6 yv.length c6] 51 (0, 0))) ∧ z5 ≤ wx.heap.size) (fun j _ => yl.length - (intOf j).toNat)
                    case atStart => exact ⟨0, Nat.zero_le _, rfl, HT, HU, HX, HY, hz5⟩
                    case round =>
                      obtain ⟨k3, hk3, rfl, HT, HU, HX, HY, hz5⟩ := hrel
                      have d14 := cells_at HY.out
                      by_cases hkm3 : k3 < yl.length
                      · obtain ⟨g, x, rfl, hp⟩ := HU.out.at hkm3
                        have HP := Lib.hid hp
                        obtain ⟨p1, p2, p3, p4, _⟩ := hp
                        have hgb := (hob5 g (by simp [ob])).2
                        have hne2 : ¬ g = s0 + 1 := by omega
                        go_wp2_with fail
                        go_roundw
                        case rel => exact ⟨k3 + 1, by omega, by go_num, Lib.hid (HT.out.put (by omega) (by omega) (by omega) (by omega)), Lib.hid (HP.out.put _), Lib.hid (heap_chg HX.out (Chg.setCell _ ⟨g, k3, none⟩ _) (by simp; omega)), Lib.hid (heap_chg HY.out (Chg.setCell _ ⟨g, k3, none⟩ _) (by simp; omega)), by simpa using hz5⟩
                        case measure => simp [intOf]; omega
                      · clear HU HY d14
                        have d13 := cells_at HX.out
                        cases hk3r : ((k : Int) % 3 == 2) with
                        | false =>
                          go_wp2_with fail
                          refine (rows_any pm pw N L2 _ _ _ HT.out.mat HT.out.ref (by omega) Oka.out Okl2.out (by omega)).mono ?_
                          rintro e wA ⟨rfl, hb⟩
                          replace HX := Lib.hid ((hb.block _ (heap_lt HX.out)).trans HX.out)
                          replace HT := Lib.hid (HT.out.step hb)
                          replace hz5 := Nat.le_trans hz5 hb.size
                          clear hb d13
                          have d13 := cells_at HX.out
                          go_wp2_with fail
                          refine (stable17_any ia ic l pm pw N L2 _ _ _ HT.out.mat HT.out.ref (by omega) Oka.out Okl2.out (Hi.out.below HT.out.below) (by omega)).mono ?_
                          rintro e wB ⟨rfl, hb⟩
                          replace HX := Lib.hid ((hb.block _ (heap_lt HX.out)).trans HX.out)
                          replace HT := Lib.hid (HT.out.step hb)
                          replace hz5 := Nat.le_trans hz5 hb.size
                          clear hb d13
                          have d13 := cells_at HX.out
                          go_wp2_with fail
                          refine (stable17_any oa oc m pm pw N L2 _ _ _ HT.out.mat HT.out.ref (by omega) Oka.out Okl2.out (Ho.out.below HT.out.below) (by omega)).mono ?_
                          rintro e wC ⟨rfl, hb⟩
                          replace HX := Lib.hid ((hb.block _ (heap_lt HX.out)).trans HX.out)
                          replace HT := Lib.hid (HT.out.step hb)
                          replace hz5 := Nat.le_trans hz5 hb.size
                          clear hb d13
                          have d13 := cells_at HX.out
                          go_wp2_with fail
                          refine (stable17_any ai ci yl pm pw N L2 _ _ _ HT.out.mat HT.out.ref (by omega) Oka.out Okl2.out (Hi1.out.below HT.out.below) (by omega)).mono ?_
                          rintro e wD ⟨rfl, hb⟩
                          replace HX := Lib.hid ((hb.block _ (heap_lt HX.out)).trans HX.out)
                          replace HT := Lib.hid (HT.out.step hb)
                          replace hz5 := Nat.le_trans hz5 hb.size
                          clear hb d13
                          have d13 := cells_at HX.out
                          have HE2 := Lib.hid (⟨HT.out.mat.mono (fun b hb => by omega), HT.out.ref.mono (fun b hb => by omega), Okl2.out, Oka.out, hlen2, by omega, by omega, hww, by omega, by omega, HT.out.below⟩ : EtE w wD pm pw N L2 (k + 1))
                          clear HT HX d13
                          go_wp2_with fail
                          go_roundw
                          case rel => exact ⟨k + 1, pm, L2, by omega, by go_num, rfl, HE2⟩
                          case measure => simp [intOf]; omega
                        | true =>
                          go_wp2_with fail
                          refine (take_strong rn yi ai av ci cv yl yv s1 N (RL L) _ _ HT.out.cop Okl.out (Hi1.out.below HT.out.below) (Hv1.out.below HT.out.below) hrn Hok.out.2.2 (by omega) (by omega)).mono ?_
                          rintro e wT ⟨rfl, hM, hch⟩
                          replace HX := Lib.hid (heap_chg HX.out hch (by simp; omega))
                          have hq := hch.size
                          replace HT := Lib.hid (HT.out.takeC hM hch (by omega) (by first | omega | (dsimp only; omega)) (by first | omega | (dsimp only; omega)))
                          rw [← Hnx.out] at HT
                          clear hM hch d13
                          obtain ⟨z6, hz⟩ : ∃ z, z = wT.heap.size := ⟨_, rfl⟩
                          rw [← hz] at HT hq
                          have hz6 : z6 ≤ wT.heap.size := Nat.le_of_eq hz
                          clear hz
                          have d13 := cells_at HX.out
                          go_wp2_with fail
                          refine (rows_any s1 pw N L2 _ _ _ HT.out.cop HT.out.ref (by omega) Oka.out Okl2.out (by omega)).mono ?_
                          rintro e wA ⟨rfl, hb⟩
                          replace HX := Lib.hid ((hb.block _ (heap_lt HX.out)).trans HX.out)
                          replace HT := Lib.hid (HT.out.step hb)
                          replace hz6 := Nat.le_trans hz6 hb.size
                          clear hb d13
                          have d13 := cells_at HX.out
                          go_wp2_with fail
                          refine (stable17_any ia ic l s1 pw N L2 _ _ _ HT.out.cop HT.out.ref (by omega) Oka.out Okl2.out (Hi.out.below HT.out.below) (by omega)).mono ?_
                          rintro e wB ⟨rfl, hb⟩
                          replace HX := Lib.hid ((hb.block _ (heap_lt HX.out)).trans HX.out)
                          replace HT := Lib.hid (HT.out.step hb)
                          replace hz6 := Nat.le_trans hz6 hb.size
                          clear hb d13
                          have d13 := cells_at HX.out
                          go_wp2_with fail
                          refine (stable17_any oa oc m s1 pw N L2 _ _ _ HT.out.cop HT.out.ref (by omega) Oka.out Okl2.out (Ho.out.below HT.out.below) (by omega)).mono ?_
                          rintro e wC ⟨rfl, hb⟩
                          replace HX := Lib.hid ((hb.block _ (heap_lt HX.out)).trans HX.out)
                          replace HT := Lib.hid (HT.out.step hb)
                          replace hz6 := Nat.le_trans hz6 hb.size
                          clear hb d13
                          have d13 := cells_at HX.out
                          go_wp2_with fail
                          refine (stable17_any ai ci yl s1 pw N L2 _ _ _ HT.out.cop HT.out.ref (by omega) Oka.out Okl2.out (Hi1.out.below HT.out.below) (by omega)).mono ?_
                          rintro e wD ⟨rfl, hb⟩
                          replace HX := Lib.hid ((hb.block _ (heap_lt HX.out)).trans HX.out)
                          replace HT := Lib.hid (HT.out.step hb)
                          replace hz6 := Nat.le_trans hz6 hb.size
                          clear hb d13
                          have d13 := cells_at HX.out
                          have HE2 := Lib.hid (⟨HT.out.cop.mono (fun b hb => by omega), HT.out.ref.mono (fun b hb => by omega), Okl2.out, Oka.out, hlen2, by omega, by omega, hww, by omega, by omega, HT.out.below⟩ : EtE w wD s1 pw N L2 (k + 1))
                          clear HT HX d13
                          go_wp2_with fail
                          go_roundw
                          case rel => exact ⟨k + 1, s1, L2, by omega, by go_num, rfl, HE2⟩
                          case measure => simp [intOf]; omega
            · go_wp2_with fail
              refine (known17_any _).mono ?_
              rintro e w3 ⟨rfl, hb3⟩
              have HB3 := Lib.hid (HE.out.below.trans (hb3.mono HE.out.below.size))
              clear hb3
              go_wp2_with fail
              go_ret
              exact ⟨rfl, HB3.out⟩
end Go.Proofs.Ytblahapjdgncfaa
