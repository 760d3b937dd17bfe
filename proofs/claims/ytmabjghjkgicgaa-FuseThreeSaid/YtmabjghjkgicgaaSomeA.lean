/- varvelaw06.some: contract. | varvelaw06.some: its walk. -/
import Derived.Test.YtmabjghjkgicgaaApC
/- SomeA -/
namespace Go.Proofs.Ytmabjghjkgicgaa
open Go.RowKit
set_option linter.unusedVariables false
set_option linter.unusedSimpArgs false

/-- one list of events, and where it lies -/
structure Ls where
  a : Option Addr
  c : Nat
  ys : List Ew
def Ls.evs (s : Ls) : List Ev := s.ys.map (·.e)
def evsOf (L : List Ls) : List Ev := L.flatMap Ls.evs
def Ls.rd (w : World) (s : Ls) : Prop := Evs w s.a s.c s.ys ∧ s.ys.length ≤ 12 ∧ ∀ y ∈ s.ys, y.e.ds.length ≤ 100
theorem Ls.rd.below {w w' : World} {s : Ls} (h : s.rd w) (hb : Below w.heap.size w w') : s.rd w' := ⟨h.1.below hb, h.2⟩
/-- lists of events in a row at g -/
def Lsts (w : World) (g : Nat) (L : List Ls) : Prop := ∀ j s, L[j]? = some s → w.cell? ⟨g, j, none⟩ = some (.slice s.a s.ys.length s.c) ∧ s.rd w
theorem Lsts.below {w w' : World} {g : Nat} {L : List Ls} (h : Lsts w g L) (hg : g < w.heap.size) (hb : Below w.heap.size w w') : Lsts w' g L := fun j s hj => ⟨by rw [hb.cell hg]; exact (h j s hj).1, (h j s hj).2.below hb⟩
def kindOf (k : Int) : Int := if 1 ≤ k ∧ k ≤ 4 then k else 0
/-- what some tells -/
def SomeTo (w : World) (k : Int) (L : List Ls) (e : Ending) (w' : World) : Prop :=
  ∃ (M : Lv) (q : Bool), e = .returned (.tuple #[.agg #[.int .u8 M.l.k, .int .i64 M.l.n, .int .u64 M.l.t, .int .u8 M.l.d.1.1, .int .u32 M.l.d.1.2, .int .u64 M.l.d.2, .string M.l.x, .slice M.ia M.l.items.length M.ic, .slice M.ta M.l.tombs.length M.tc], .bool q]) ∧
    (q = true → M.l = runP (kindOf k) (evsOf L) ∧ Fits (kindOf k) (evsOf L) ∧ LvAt w' M) ∧ Below w.heap.size w w'
/-- what is known between two events -/
structure SmE (w W : World) (k : Int) (pl : Nat) (M : Lv) (E : List Ev) : Prop where
  res : Zc W w.heap.size
  blk : LvBlk W pl M
  at_ : LvAt W M
  eq : M.l = runP k E
  fits : Fits k E
  oks : ∀ e ∈ E, okE e
  lens : ∀ e ∈ E, e.ds.length ≤ 100
  ia : ∀ q ∈ ob M.ia, pl < q
  ta : ∀ q ∈ ob M.ta, pl < q ∧ q < W.heap.size
  lo : w.heap.size < pl
  bel : Below w.heap.size w W
theorem SmE.step {w W W' : World} {k : Int} {pl : Nat} {M : Lv} {E : List Ev} (h : SmE w W k pl M E) (hb : Below W.heap.size W W') : SmE w W' k pl M E :=
  ⟨h.res.below hb, h.blk.below hb, h.at_.below hb, h.eq, h.fits, h.oks, h.lens, h.ia, fun q hq => ⟨(h.ta q hq).1, Nat.lt_of_lt_of_le (h.ta q hq).2 hb.size⟩, h.lo, below2 h.bel hb h.bel.size⟩
/-- one event more -/
theorem SmE.more {w W W0 W5 : World} {k : Int} {pl : Nat} {M M' : Lv} {E : List Ev} {e : Ev} (h : SmE w W k pl M E) (hb0 : Below W.heap.size W W0) (hb5 : Below W0.heap.size W0 W5) (he : okE e) (hl : e.ds.length ≤ 100) (hm : MayEv e) (ht : typeOf e.k = M.l.k)
    (heq : M'.l = applyP M.l e) (hat : LvAt W5 M') (h1 : ∀ q ∈ ob M'.ta, q < W5.heap.size) (h2 : ∀ q ∈ ob M'.ia, q ∈ ob M.ia ∨ W0.heap.size ≤ q) (h3 : ∀ q ∈ ob M'.ta, q ∈ ob M.ta ∨ W0.heap.size ≤ q) :
    SmE w (aL (nineL W5 pl M') M') k pl M' (E ++ [e]) := by
  have hpl := h.blk.lt
  have hs0 := hb0.size
  have hs5 := hb5.size
  have hb : Below W.heap.size W W5 := below2 hb0 hb5 hb0.size
  have hn : Below (nineL W5 pl M').heap.size (nineL W5 pl M') (aL (nineL W5 pl M') M') := (Below.refl _ _).alloc (Nat.le_refl _) _
  have hia : ∀ q ∈ ob M'.ia, pl < q := fun q hq => (h2 q hq).elim (fun h' => h.ia q h') (fun h' => by omega)
  have hta : ∀ q ∈ ob M'.ta, pl < q := fun q hq => (h3 q hq).elim (fun h' => (h.ta q h').1) (fun h' => by omega)
  have hblk : LvBlk (nineL W5 pl M') pl M' := nine_over (h.blk.below hb) _ _ _ _ _ _ _ _ _
  refine ⟨?_, hblk.below hn, (hat.nine ⟨fun q hq => by have := hia q hq; omega, fun q hq => by have := hta q hq; omega⟩ M').below hn, ?_, ?_, ?_, ?_, hia, fun q hq => ⟨hta q hq, ?_⟩, h.lo, ?_⟩
  · have hz : Zc (nineL W5 pl M') w.heap.size := heap_chg (h.res.below hb) (chg_lv W5 pl M') (by have := h.lo; simp; omega)
    exact hz.below hn
  · rw [heq, runP_snoc, h.eq]
  · intro f hf
    rcases List.mem_append.1 hf with hf | hf
    · exact h.fits f hf
    · obtain rfl : f = e := by simpa using hf
      exact ⟨hm, by rw [ht, h.eq, run_k]⟩
  · intro f hf
    rcases List.mem_append.1 hf with hf | hf
    · exact h.oks f hf
    · obtain rfl : f = e := by simpa using hf
      exact he
  · intro f hf
    rcases List.mem_append.1 hf with hf | hf
    · exact h.lens f hf
    · obtain rfl : f = e := by simpa using hf
      exact hl
  · have := h1 q hq
    have h5 := hn.size
    rw [size_lv] at h5
    omega
  · have h6 : Below w.heap.size w (nineL W5 pl M') := below_lv (below2 h.bel hb h.bel.size) (Nat.le_of_lt h.lo) M'
    exact below2 h6 hn h6.size
end Go.Proofs.Ytmabjghjkgicgaa

/- SomeB -/
namespace Go.Proofs.Ytmabjghjkgicgaa
open Go.RowKit
set_option linter.unusedVariables false
set_option linter.unusedSimpArgs false

def JS1 (w : World) (k : Int) (pl : Nat) (L : List Ls) (j : Value) (wr : World) : Prop := ∃ (q : Nat) (M : Lv), q ≤ L.length ∧ j = .int .i64 q ∧ SmE w wr k pl M (evsOf (L.take q))
def JS2 (w : World) (k : Int) (pl : Nat) (E : List Ev) (ys : List Ew) (j : Value) (wr : World) : Prop := ∃ (q : Nat) (M : Lv), q ≤ ys.length ∧ j = .int .i64 q ∧ SmE w wr k pl M (E ++ (ys.take q).map (·.e))
theorem evsOf_len {L : List Ls} {w : World} (h : ∀ s ∈ L, s.rd w) : (evsOf L).length ≤ 12 * L.length := by
  induction L with
  | nil => simp [evsOf]
  | cons s L ih =>
    have h1 := (h s (by simp)).2.1
    have h2 := ih fun x hx => h x (by simp [hx])
    simp only [evsOf, List.flatMap_cons, List.length_append, List.length_cons, Ls.evs, List.length_map] at h2 ⊢
    omega
theorem SmE.lens' {w W : World} {k : Int} {pl : Nat} {M : Lv} {E : List Ev} (h : SmE w W k pl M E) (hE : E.length ≤ 100) : M.l.items.length ≤ 900000 ∧ M.l.tombs.length ≤ 900000 := by
  have := len_run k E h.lens
  rw [← h.eq] at this
  omega
set_option maxRecDepth 100000 in
set_option maxHeartbeats 8000000 in
theorem some_any (k : Int) (hk : 0 ≤ k ∧ k ≤ 255) (g : Nat) (n : Nat) (L : List Ls) (w : World) (hn : n = L.length) (hL : Lsts w g L) (hg : g < w.heap.size) (h3 : L.length ≤ 3) :
    Calls Try.prog 7 #[.int .u8 k, .slice (some ⟨g, 0, none⟩) n n] w (SomeTo w k L) := by
  subst hn
  have HL := Lib.hid hL
  have hkk : 0 ≤ kindOf k ∧ kindOf k ≤ 255 := by unfold kindOf; split <;> omega
  clear hL
  go_enter Try.func7, Try.ntmps7
  go_wp2_with fail
  refine (newLf_any k _).mono ?_
  rintro e w1 ⟨rfl, hb1⟩
  rw [show (if 1 ≤ k ∧ k ≤ 4 then k else 0) = kindOf k from rfl]
  obtain ⟨hx0, hz1, hB1⟩ := new1 hb1
  have E0 : SmE w (aL w1 ⟨bare (kindOf k), none, 0, none, 0⟩) (kindOf k) w1.heap.size ⟨bare (kindOf k), none, 0, none, 0⟩ [] := by
    have hn : Below w1.heap.size w1 (aL w1 ⟨bare (kindOf k), none, 0, none, 0⟩) := (Below.refl _ _).alloc (Nat.le_refl _) _
    exact ⟨Zc.below (show Zc w1 w.heap.size from hx0) hn, heap_new _ _, LfAt.none rfl rfl, rfl, fun e he => (by cases he), fun e he => (by cases he), fun e he => (by cases he), fun q hq => (by simp [ob] at hq), fun q hq => (by simp [ob] at hq), by omega, below2 hB1 hn hB1.size⟩
  have HE0 := Lib.hid E0
  clear hb1 hx0 hB1 E0
  go_wp2_with fail
  have hml : L.length ≤ 3 := h3
  go_loopw [17] (fun j wr => JS1 w (kindOf k) w1.heap.size L j wr) (fun j _ => L.length - (intOf j).toNat)
  case atStart => exact ⟨0, _, Nat.zero_le _, rfl, HE0.out⟩
  case round =>
    clear HE0
    obtain ⟨q, M, hq, rfl, hE⟩ := hrel
    have E := Lib.hid hE
    clear hE
    have d0 := cells_at E.out.res
    have d1 := cells_at E.out.blk
    have f0 := free_at E.out.res
    simp only [lcells] at d1
    have hgr : g < wr.heap.size := Nat.lt_of_lt_of_le hg E.out.bel.size
    by_cases hlt : q < L.length
    · obtain ⟨s, hs⟩ : ∃ s, L[q]? = some s := ⟨L[q], by simp [hlt]⟩
      obtain ⟨c0, hrd⟩ := (HL.out.below hg E.out.bel) q s hs
      have Hs := Lib.hid hs
      have Hrd := Lib.hid hrd
      have hyl : s.ys.length ≤ 12 := hrd.2.1
      clear hs hrd
      go_wp2_with fail
      clear d0 d1 f0
      go_loopw [23] (fun j wx => JS2 w (kindOf k) w1.heap.size (evsOf (L.take q)) s.ys j wx) (fun j _ => s.ys.length - (intOf j).toNat)
      case atStart => exact ⟨0, M, Nat.zero_le _, rfl, by simpa using E.out⟩
      case round =>
        clear E hgr c0 Hrd
        obtain ⟨p, M, hp, rfl, hE⟩ := hrel
        have E := Lib.hid hE
        clear hE
        have Hev := Lib.hid (((HL.out.below hg E.out.bel) q s Hs.out).2)
        have d0 := cells_at E.out.res
        have d1 := cells_at E.out.blk
        have f0 := free_at E.out.res
        have f1 := free_at E.out.blk
        simp only [lcells] at d1
        have hb0 := E.out.lo
        have hb1 := E.out.blk.lt
        have hb2 : w.heap.size < wr.heap.size := by omega
        by_cases hlt2 : p < s.ys.length
        · obtain ⟨y, hy⟩ : ∃ y, s.ys[p]? = some y := ⟨s.ys[p], by simp [hlt2]⟩
          obtain ⟨ad, had, ⟨c0, c1, c2, c3, c4, c5, c6, c7, c8, hat⟩, hl0⟩ := Hev.out.1.at hy
          rw [had]
          have Hy := Lib.hid hy
          have Hat := Lib.hid hat
          have hdl : y.e.ds.length ≤ 100 := Hev.out.2.2 y (List.mem_of_getElem? hy)
          have hEl : (evsOf (L.take q) ++ (s.ys.take p).map (·.e)).length ≤ 100 := by
            have := evsOf_len (L := L.take q) (w := wr) (fun x hx => by
              obtain ⟨j, hj⟩ := List.getElem?_of_mem (List.mem_of_mem_take hx)
              exact ((HL.out.below hg E.out.bel) j x hj).2)
            simp at this ⊢
            omega
          have hlens := E.out.lens' hEl
          have Hlens := Lib.hid hlens
          have Hok := Lib.hid (show okL M.l by rw [E.out.eq]; exact ok_run hkk _ E.out.oks)
          clear hy hat hEl hlens
          go_wp2_with fail
          have ha0 : Below wr.heap.size wr (wr.alloc (.cells (ecells y) 37)) := (Below.refl _ _).alloc (Nat.le_refl _) _
          have Ha0 := Lib.hid ha0
          clear ha0 c0 c1 c2 c3 c4 c5 c6 c7 c8
          refine (apply_any M y _ (E.out.at_.below Ha0.out) Hok.out (Hat.out.below Ha0.out) (fun x hx => Nat.lt_of_lt_of_le (E.out.ta x hx).2 Ha0.out.size) Hlens.out.1 Hlens.out.2 hdl).mono ?_
          intro e w5 hto
          obtain ⟨hto, hbb⟩ := hto
          have hb5 := below2 Ha0.out hbb Ha0.out.size
          have E5 := Lib.hid (E.out.step hb5)
          have hs5 := hb5.size
          have hl0 : w.heap.size < w5.heap.size := by omega
          have hl1 : w1.heap.size < w5.heap.size := by omega
          have Hbb := Lib.hid hbb
          clear hbb hb5 d0 d1 f0 f1
          have d0 := cells_at E5.out.res
          have d1 := cells_at E5.out.blk
          have f0 := free_at E5.out.res
          have f1 := free_at E5.out.blk
          simp only [lcells] at d1
          rcases hto with ⟨code, hc, rfl⟩ | ⟨M', rfl, heq, hme, hty, hat', hlt', hia', hta'⟩
          · have e1 : (code != 0) = true := by rw [bne_iff_ne]; exact hc
            clear hc
            go_wp2_with fail
            refine bodyPost_ret (v := .tuple #[.agg #[.int .u8 M.l.k, .int .i64 M.l.n, .int .u64 M.l.t, .int .u8 M.l.d.1.1, .int .u32 M.l.d.1.2, .int .u64 M.l.d.2, .string M.l.x, .slice M.ia M.l.items.length M.ic, .slice M.ta M.l.tombs.length M.tc], .bool false]) (by simp [results, Try.results7, go_sem, d0, hl0]; try rfl) rfl ⟨M, false, rfl, fun h => (by cases h), ?_⟩
            exact (fin9 E5.out.bel (Nat.le_refl _) _ _ _ _ _ _ _ _ _).alloc (by simp; omega) _
          · have hmore := SmE.more E.out Ha0.out Hbb.out Hat.out.ok hdl hme hty heq hat' hlt' hia' hta'
            have Hmore := Lib.hid hmore
            clear hmore heq hme hty hat' hlt' hia' hta'
            go_wp2_with fail
            go_roundw
            case rel => exact ⟨p + 1, M', by omega, by go_num, by rw [take_snoc' Hy.out, List.map_append, ← List.append_assoc]; exact Hmore.out⟩
            case measure => simp [intOf]; omega
        · have hpp : p = s.ys.length := by omega
          subst hpp
          have Hn := Lib.hid (show SmE w wr (kindOf k) w1.heap.size M (evsOf (L.take (q + 1))) by
            have h := E.out
            rw [List.take_length] at h
            rw [take_snoc' Hs.out]
            unfold evsOf at *
            rw [List.flatMap_append]
            simpa [Ls.evs] using h)
          go_wp2_with fail
          go_roundw
          case rel => exact ⟨q + 1, M, by omega, by go_num, Hn.out⟩
          case measure => simp [intOf]; omega
    · have hqq : q = L.length := by omega
      subst hqq
      have hlo := E.out.lo
      have hl1 := E.out.blk.lt
      have hl0 : w.heap.size < wr.heap.size := by omega
      go_wp2_with fail
      refine bodyPost_ret (v := .tuple #[.agg #[.int .u8 M.l.k, .int .i64 M.l.n, .int .u64 M.l.t, .int .u8 M.l.d.1.1, .int .u32 M.l.d.1.2, .int .u64 M.l.d.2, .string M.l.x, .slice M.ia M.l.items.length M.ic, .slice M.ta M.l.tombs.length M.tc], .bool true]) (by simp [results, Try.results7, go_sem, d0, hl0]; try rfl) rfl ⟨M, true, rfl, fun _ => ?_, below_lv E.out.bel (Nat.le_refl _) M⟩
      have h := E.out
      rw [List.take_length] at h
      exact ⟨h.eq, h.fits, h.at_.nine ⟨fun x hx => by have := h.ia x hx; omega, fun x hx => by have := (h.ta x hx).1; omega⟩ M⟩
end Go.Proofs.Ytmabjghjkgicgaa
