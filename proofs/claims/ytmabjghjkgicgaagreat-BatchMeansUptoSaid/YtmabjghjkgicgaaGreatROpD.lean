/- The reference's Great and Same of lists of operations; what its Few keeps. -/
import Derived.Test.YtmabjghjkgicgaaGreatROpC
import Derived.Test.YtmabjghjkgicgaaGreatBatT
namespace Go.Proofs.YtmabjghjkgicgaaGreat
open Go.RowKit
set_option linter.unusedVariables false
set_option linter.unusedSimpArgs false

/-! the plain text: the first one that is like -/
/-! one answer -/
theorem first_uniq {L : List Opn} {P : Opn → Prop} {q r : Nat} {x y : Opn} (hx : L[q]? = some x) (hy : L[r]? = some y) (px : P x) (py : P y) (h1 : ∀ z ∈ L.take q, ¬ P z) (h2 : ∀ z ∈ L.take r, ¬ P z) : q = r := by
  rcases Nat.lt_trichotomy q r with h | h | h
  · exact absurd px (h2 x (List.mem_of_getElem? (i := q) (by rw [List.getElem?_take, if_pos h]; exact hx)))
  · exact h
  · exact absurd py (h1 y (List.mem_of_getElem? (i := r) (by rw [List.getElem?_take, if_pos h]; exact hy)))
theorem StepL.uniq {L A B : List Opn} {o : Opn} (h : StepL L o A) (k : StepL L o B) : A = B := by
  rcases h with ⟨hk, h⟩ | ⟨hk, h⟩ | ⟨hk, h⟩ | ⟨hk, h⟩ | ⟨hk, h⟩ <;> rcases k with ⟨kk, k⟩ | ⟨kk, k⟩ | ⟨kk, k⟩ | ⟨kk, k⟩ | ⟨kk, k⟩ <;> first | (exfalso; omega) | skip
  · rcases h with ⟨q, x, hx, px, h1, rfl⟩ | ⟨hn, rfl⟩ <;> rcases k with ⟨r, y, hy, py, h2, rfl⟩ | ⟨kn, rfl⟩
    · obtain rfl := first_uniq hx hy px py h1 h2
      rw [hx] at hy; injection hy with hy; subst hy; rfl
    · exact absurd px (kn x (List.mem_of_getElem? hx))
    · exact absurd py (hn y (List.mem_of_getElem? hy))
    · rfl
  · rcases h with ⟨q, x, hx, px, h1, rfl⟩ | ⟨hn, rfl⟩ <;> rcases k with ⟨r, y, hy, py, h2, rfl⟩ | ⟨kn, rfl⟩
    · obtain rfl := first_uniq hx hy px py h1 h2
      rfl
    · exact absurd px (kn x (List.mem_of_getElem? hx))
    · exact absurd py (hn y (List.mem_of_getElem? hy))
    · rfl
  · rcases h with ⟨⟨x, hx, px⟩, rfl⟩ | ⟨hn, rfl⟩ <;> rcases k with ⟨⟨y, hy, py⟩, rfl⟩ | ⟨kn, rfl⟩
    · rfl
    · exact absurd px (kn x hx)
    · exact absurd py (hn y hy)
    · rfl
  · rcases h with ⟨q, x, u, hx, px, h1, hu, rfl⟩ | ⟨hn, rfl⟩ <;> rcases k with ⟨r, y, v, hy, py, h2, hv, rfl⟩ | ⟨kn, rfl⟩
    · obtain rfl := first_uniq hx hy px py h1 h2
      rw [hx] at hy; injection hy with hy; subst hy
      rw [hu.uniq hv]
    · exact absurd px (kn x (List.mem_of_getElem? hx))
    · exact absurd py (hn y (List.mem_of_getElem? hy))
    · rfl
  · rw [h, k]
theorem FewL.uniq {L A B : List Opn} {l : List Opn} (h : FewL L l A) (k : FewL L l B) : A = B := by
  induction l generalizing L with
  | nil => exact (show A = L from h).trans (show B = L from k).symm
  | cons o l ih =>
    obtain ⟨M, h1, h2⟩ := h
    obtain ⟨N, k1, k2⟩ := k
    obtain rfl := h1.uniq k1
    exact ih h2 k2
/-! what the reference's Few keeps: paths and dots of old, dots of its own -/
structure RV (w0 w W : World) (v : Ow) : Prop where
  pt : ∀ W', Below w0.heap.size W W' → Strs W' v.pa v.pc v.o.p
  ds : (∀ W', Below w0.heap.size W W' → Vec W' v.da v.dc v.o.ds) ∨ OwnD W w.heap.size v.da v.dc v.o.ds
  ok : okV v.o.ds
  may : MayO v.o
structure OldV (w0 w : World) (v : Ow) : Prop where
  at0 : OwAt w0 v
  old : Below w0.heap.size w0 w
theorem OldV.below {w0 w W : World} {v : Ow} (h : OldV w0 w v) (hb : Below w.heap.size w W) : OwAt W v := (h.at0.below h.old).below hb
theorem OldV.ok {w0 w : World} {v : Ow} (h : OldV w0 w v) : okV v.o.ds := h.at0.ok
theorem RV.at_ {w0 w W : World} {v : Ow} (h : RV w0 w W v) : OwAt W v := ⟨h.pt W (Below.refl _ _), h.ds.elim (fun k => k W (Below.refl _ _)) (fun k => k.vec), h.ok⟩
theorem RV.old {w0 w W : World} {v : Ow} (h : OldV w0 w v) (hm : MayO v.o) (hb : Below w.heap.size w W) : RV w0 w W v :=
  have hb0 := h.old.trans (hb.mono h.old.size)
  ⟨fun W' h1 => h.at0.pt.below (hb0.trans h1), .inl fun W' h1 => h.at0.ds.below (hb0.trans h1), h.ok, hm⟩
theorem RV.below {w0 w W W' : World} {v : Ow} (h : RV w0 w W v) (hb : Below W.heap.size W W') (hs : w0.heap.size ≤ W.heap.size) : RV w0 w W' v :=
  ⟨fun U h1 => h.pt U ((hb.mono hs).trans h1), h.ds.elim (fun k => .inl fun U h1 => k U ((hb.mono hs).trans h1)) (fun k => .inr (k.below hb)), h.ok, h.may⟩
theorem RV.chg {w0 w W W' : World} {v : Ow} {a : Option Addr} {c : Nat} {V : List Ow} (h : RV w0 w W v) (ho : OwnO W w.heap.size a c V) (h0 : w0.heap.size ≤ w.heap.size) (hs : w.heap.size ≤ W.heap.size) (hC : Chg (ob a) W W') : RV w0 w W' v := by
  have hb : Below w0.heap.size W W' := hC.below (Nat.le_trans h0 hs) (fun k hk => Nat.le_trans h0 (owns_lt ho k hk).1)
  exact ⟨fun U h1 => h.pt U (hb.trans h1), h.ds.elim (fun k => .inl fun U h1 => k U (hb.trans h1)) (fun k => .inr (owns_chg k hC (fun x hx hm => owns_ne k ho (by decide) x hx hm))), h.ok, h.may⟩
structure RQ (w0 w W : World) (a : Option Addr) (c : Nat) (V : List Ow) : Prop where
  own : OwnO W w.heap.size a c V
  each : ∀ v ∈ V, RV w0 w W v
  bel : Below w.heap.size w W
  lo : w0.heap.size ≤ w.heap.size
theorem RQ.below {w0 w W W' : World} {a : Option Addr} {c : Nat} {V : List Ow} (h : RQ w0 w W a c V) (hb : Below W.heap.size W W') : RQ w0 w W' a c V :=
  ⟨h.own.below hb, fun v hv => (h.each v hv).below hb (Nat.le_trans h.lo h.bel.size), below2 h.bel hb h.bel.size, h.lo⟩
theorem RQ.ops {w0 w W : World} {a : Option Addr} {c : Nat} {V : List Ow} (h : RQ w0 w W a c V) : Ops W a c V := ops_of h.own fun v hv => (h.each v hv).at_
set_option maxHeartbeats 1000000 in
theorem great39_any (a : Option Addr) (c : Nat) (l : List Ow) (w : World) (h : Ops w a c l) :
    Calls Tryz.prog 4 #[.slice a l.length c] w fun e w' => ∃ z : Bool, e = .returned (.bool z) ∧ (z = false → l.length ≤ 30) ∧ Below w.heap.size w w' := by
  have H := Lib.hid h
  have hlen := h.len
  clear h
  go_enter Tryz.func4, Tryz.ntmps4
  go_wp2_with fail
  go_loopw [3] (fun j wr => ∃ q : Nat, q ≤ l.length ∧ j = .int .i64 q ∧ Below w.heap.size w wr) (fun j _ => l.length - (intOf j).toNat)
  case atStart => exact ⟨0, Nat.zero_le _, rfl, Below.refl _ _⟩
  case round =>
    obtain ⟨q, hq, rfl, hb⟩ := hrel
    have HB := Lib.hid hb
    clear hb
    by_cases hlt : q < l.length
    · obtain ⟨v, hx⟩ : ∃ x, l[q]? = some x := ⟨l[q], by simp [hlt]⟩
      obtain ⟨ad, had, ⟨c0, c1, c2, c3, c4, hat⟩, hlb⟩ := (H.out.below HB.out).at hx
      subst had
      clear hx hat
      have hml : q + 1 ≤ 9223372036854775807 := by unfold maxLen at hlen; omega
      by_cases h1 : v.o.ds.length > 100
      · have g1 : decide ((v.o.ds.length : Int) > 100) = true := by simp; omega
        go_wp2_with fail
        all_goals (go_ret; exact ⟨true, rfl, fun h => (by cases h), HB.out⟩)
      · have g1 : decide ((v.o.ds.length : Int) > 100) = false := by simp; omega
        by_cases h2 : v.o.p.length > 10
        · have g2 : decide ((v.o.p.length : Int) > 10) = true := by simp; omega
          go_wp2_with fail
          all_goals (go_ret; exact ⟨true, rfl, fun h => (by cases h), HB.out⟩)
        · have g2 : decide ((v.o.p.length : Int) > 10) = false := by simp; omega
          by_cases h3 : v.o.x.size > 200
          · have g3 : decide ((v.o.x.size : Int) > 200) = true := by simp; omega
            go_wp2_with fail
            all_goals (go_ret; exact ⟨true, rfl, fun h => (by cases h), HB.out⟩)
          · have g3 : decide ((v.o.x.size : Int) > 200) = false := by simp; omega
            go_wp2_with fail
            go_roundw
            case rel => exact ⟨q + 1, by omega, by go_num, HB.out⟩
            case measure => simp [intOf]; omega
    · go_wp2_with fail
      go_ret
      exact ⟨_, rfl, fun h => by simp at h; omega, HB.out⟩
set_option maxHeartbeats 1000000 in
theorem rsameOs_any (a b : Option Addr) (c d : Nat) (l m : List Ow) (w : World) (hv : Ops w a c l) (hu : Ops w b d m) (hn : l.length ≤ 1000000) (hm : m.length ≤ 1000000) (hml : ∀ v ∈ l, MayO v.o) (hmm : ∀ v ∈ m, MayO v.o) :
    Calls Tryz.prog 18 #[.slice a l.length c, .slice b m.length d] w (IsTo w (l.map (·.o) = m.map (·.o))) := by
  have Hv := Lib.hid hv
  have Hu := Lib.hid hu
  have Hml := Lib.hid hml
  have Hmm := Lib.hid hmm
  clear hv hu hml hmm
  by_cases hl : l.length = m.length
  · have Hl := Lib.hid hl
    rw [← hl]
    clear hl
    go_enter Tryz.func18, Tryz.ntmps18
    go_wp2_with fail
    go_loopw [5] (fun j wr => ∃ k : Nat, k ≤ l.length ∧ j = .int .i64 k ∧ Hid ((l.map (·.o)).take k = (m.map (·.o)).take k) ∧ Below w.heap.size w wr) (fun j _ => l.length - (intOf j).toNat)
    case atStart => exact ⟨0, Nat.zero_le _, rfl, Lib.hid (by simp), Below.refl _ _⟩
    case round =>
      obtain ⟨k, hk, rfl, hle, hb⟩ := hrel
      have Hb := Lib.hid hb
      clear hb
      by_cases hlt : k < l.length
      · have hlm : k < m.length := by have := Hl.out; omega
        obtain ⟨x, hx⟩ : ∃ x, l[k]? = some x := ⟨l[k], by simp [hlt]⟩
        obtain ⟨y, hy⟩ : ∃ y, m[k]? = some y := ⟨m[k], by simp [hlm]⟩
        obtain ⟨ad, had, ⟨c0, c1, c2, c3, c4, hat⟩, hl0⟩ := (Hv.out.below Hb.out).at hx
        obtain ⟨ae, hae, ⟨e0, e1, e2, e3, e4, hbt⟩, hl1⟩ := (Hu.out.below Hb.out).at hy
        subst had hae
        have Hx := Lib.hid (show (l.map (·.o))[k]? = some x.o by rw [List.getElem?_map, hx]; rfl)
        have Hy := Lib.hid (show (m.map (·.o))[k]? = some y.o by rw [List.getElem?_map, hy]; rfl)
        have Hat := Lib.hid hat
        have Hbt := Lib.hid hbt
        have n1 := Lib.hid (op_len (Hml.out x (List.mem_of_getElem? hx)))
        have n2 := Lib.hid (op_len (Hmm.out y (List.mem_of_getElem? hy)))
        clear hx hy hat hbt
        go_wp2_with fail
        refine region_text [([0, 1, 2, 3, 4, 5, 6, 7, 8, 9], false)] mixed (by kernel_rfl) ?_
        simp only [wpSegs, List.map_cons, List.map_nil, List.getD_cons_succ, List.getD_cons_zero]
        go_wp2_with fail
        refine (rsameO_any x y _ (Hat.out.below (Below.refl _ _).drew) (Hbt.out.below (Below.refl _ _).drew) n1.out.1 n1.out.2 n2.out.1 n2.out.2).mono ?_
        intro e w1 hto
        obtain ⟨z, rfl, hz, hb⟩ := hto
        have Hz := Lib.hid hz
        have Hb2 := Lib.hid (below2 Hb.out ((Below.refl _ _).drew.trans hb) Hb.out.size)
        clear hz hb c0 c1 c2 c3 c4 e0 e1 e2 e3 e4
        cases z with
        | true =>
          have Ho := Lib.hid (Hz.out.1 rfl)
          go_wp2_with fail
          refine And.intro (by kernel_rfl) ?_
          go_wp2_with fail
          go_roundw
          case rel => exact ⟨k + 1, by omega, by go_num, Lib.hid (by rw [take_snoc' Hx.out, take_snoc' Hy.out, hle.out, Ho.out]), Hb2.out⟩
          case measure => simp [intOf]; omega
        | false =>
          have He := Lib.hid (show ¬ l.map (·.o) = m.map (·.o) by intro e; have h1 := Hx.out; rw [e, Hy.out] at h1; injection h1 with h1; have := Hz.out.2 h1.symm; cases this)
          go_wp2_with fail
          refine And.intro (by kernel_rfl) ?_
          go_wp2_with fail
          go_ret
          exact no_name He.out Hb2.out
      · have He := Lib.hid (show l.map (·.o) = m.map (·.o) from take_ext k (by simp [Hl.out]) (by simp; omega) hle.out)
        go_wp2_with fail
        go_ret
        exact yes_name He.out Hb.out
  · have He := Lib.hid (show ¬ l.map (·.o) = m.map (·.o) from fun e => hl (by have := congrArg List.length e; simpa using this))
    have q2 : ((l.length : Int) != (m.length : Int)) = true := by simp; omega
    go_enter Tryz.func18, Tryz.ntmps18
    go_wp2_with fail
    all_goals (go_ret; exact no_name He.out (Below.refl _ _))
end Go.Proofs.YtmabjghjkgicgaaGreat
