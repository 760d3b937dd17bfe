/- batch.Few. -/
import Derived.Test.YtmabjghjkgicgaaGreatBatR
import Derived.Laws.EntriesVeiled
namespace Go.Proofs.YtmabjghjkgicgaaGreat
open Go.RowKit
set_option linter.unusedVariables false
set_option linter.unusedSimpArgs false

/-! the plain text -/
def StepL (L : List Opn) (o : Opn) (L' : List Opn) : Prop := (o.k = 1 ∧ AddL L o L') ∨ (o.k = 2 ∧ SetL L o L') ∨ (o.k = 3 ∧ PutL L o L') ∨ (o.k = 4 ∧ DropL L o L') ∨ (o.k = 5 ∧ L' = L ++ [o])
def FewL (L : List Opn) : List Opn → List Opn → Prop
  | [], L' => L' = L
  | o :: l, L' => ∃ M, StepL L o M ∧ FewL M l L'
theorem FewL.snoc {L : List Opn} {l : List Opn} {M : List Opn} {o : Opn} {L' : List Opn} (h : FewL L l M) (k : StepL M o L') : FewL L (l ++ [o]) L' := by
  induction l generalizing L with
  | nil => exact ⟨L', by rw [show M = L from h] at k; exact k, rfl⟩
  | cons x l ih =>
    obtain ⟨N, h1, h2⟩ := h
    exact ⟨N, h1, ih h2⟩
theorem StepL.len {L L' : List Opn} {o : Opn} (h : StepL L o L') : L'.length ≤ L.length + 1 := by
  rcases h with ⟨_, ⟨q, x, _, _, _, rfl⟩ | ⟨_, rfl⟩⟩ | ⟨_, ⟨q, x, hx, _, _, rfl⟩ | ⟨_, rfl⟩⟩ | ⟨_, ⟨_, rfl⟩ | ⟨_, rfl⟩⟩ | ⟨_, ⟨q, x, y, _, _, _, _, rfl⟩ | ⟨_, rfl⟩⟩ | ⟨_, rfl⟩
  · simp
  · simp
  · have := (List.getElem?_eq_some_iff.1 hx).1
    rw [List.length_append, List.length_eraseIdx_of_lt this]
    simp
  · simp
  · simp
  · simp
  · simp
  · simp
  · simp
theorem kind_op {o : Opn} (h : MayO o) : o.k = 1 ∨ o.k = 2 ∨ o.k = 3 ∨ o.k = 4 ∨ o.k = 5 := by
  have := h.kind
  unfold typeOf at this
  grind
/-! the walk -/
def fkinds : Array Value := #[.nilFunc, .func (.func 22) #[] #[], .func (.func 23) #[] #[], .func (.func 24) #[] #[], .func (.func 25) #[] #[], .func (.func 26) #[] #[]]
def FewTo (w : World) (l : List Ow) (e : Ending) (w' : World) : Prop :=
  (¬ (∀ v ∈ l, MayO v.o) ∧ e = .returned (.tuple #[.slice none 0 0, .int .i64 2]) ∧ Below w.heap.size w w') ∨
  ((∀ v ∈ l, MayO v.o) ∧ ∃ a c V, e = .returned (.tuple #[.slice a (List.length V) c, .int .i64 0]) ∧ FewL [] (l.map (·.o)) (V.map (·.o)) ∧ OwnO w' w.heap.size a c V ∧ (∀ v ∈ V, QV w' w.heap.size v) ∧ Below w.heap.size w w')
def JFew (w1 : World) (l : List Ow) (j : Value) (wr : World) : Prop := ∃ (q : Nat) (a : Option Addr) (c : Nat) (V : List Ow), q ≤ l.length ∧ j = .int .i64 q ∧ Qu wr 73 (w1.heap.size + 2) (w1.heap.size + 1) a c V ∧ wr.heap[w1.heap.size]? = some (.cells fkinds 71 (0, 0)) ∧ FewL [] ((l.take q).map (·.o)) (V.map (·.o)) ∧ V.length ≤ q ∧ Below w1.heap.size w1 wr
theorem JFew.start (w1 : World) (l : List Ow) : JFew w1 l (.int .i64 0) ((w1.alloc (.cells fkinds 71)).alloc (.cells #[.slice none 0 0] 73)) := by
  obtain ⟨h0, h1, _, hb⟩ := new2 (w := w1) (o0 := .cells fkinds 71) (o1 := .cells #[.slice none 0 0] 73) (Below.refl _ _)
  exact ⟨0, none, 0, [], Nat.zero_le _, rfl, ⟨h1, by omega, OwnO.nil _ _, fun v hv => (by cases hv)⟩, h0, rfl, Nat.le_refl _, hb⟩
theorem JFew.next {w1 wr W w2 : World} {l : List Ow} {q : Nat} {a' : Option Addr} {c' : Nat} {V V' : List Ow} {v : Ow} (hx : l[q]? = some v) (hs : StepL (V.map (·.o)) v.o (V'.map (·.o)))
    (hF : FewL [] ((l.take q).map (·.o)) (V.map (·.o))) (hvl : V.length ≤ q) (hK : wr.heap[w1.heap.size]? = some (.cells fkinds 71 (0, 0))) (hB1 : Below w1.heap.size w1 wr)
    (hW : Below wr.heap.size wr W) (hQ' : Qu w2 73 (w1.heap.size + 2) (w1.heap.size + 1) a' c' V') (hb2 : Below (w1.heap.size + 1) W w2) : JFew w1 l (.int .i64 ((q : Int) + 1)) w2 := by
  have hlt := (List.getElem?_eq_some_iff.1 hx).1
  have hk := heap_lt hK
  have hz := hW.size
  refine ⟨q + 1, a', c', V', hlt, by simp, hQ', ?_, ?_, ?_, ?_⟩
  · exact (hb2.block _ (by omega)).trans ((hW.block _ hk).trans hK)
  · rw [take_snoc' hx, List.map_append, List.map_cons, List.map_nil]
    exact hF.snoc hs
  · have := hs.len
    simp only [List.length_map] at this
    omega
  · exact (hB1.trans (hW.mono (by omega))).trans (hb2.mono (by omega))
set_option maxRecDepth 100000 in
set_option maxHeartbeats 4000000 in
theorem few_any (a : Option Addr) (c : Nat) (l : List Ow) (w : World) (h : Ops w a c l) (hn : l.length ≤ 1000000) :
    Calls Tryz.prog 9 #[.slice a l.length c] w (FewTo w l) := by
  have H := Lib.hid h
  clear h
  go_enter Tryz.func9, Tryz.ntmps9
  go_wp2_with fail
  refine (badOp_any a c l _ H.out hn).mono ?_
  intro e w1 hto
  obtain ⟨z, rfl, hz, hb⟩ := hto
  have HB := Lib.hid hb
  have Hz := Lib.hid hz
  clear hb hz
  cases z with
  | true =>
    have Hn := Lib.hid (Hz.out.1 rfl)
    go_wp2_with fail
    exact bodyPost_ret (v := .tuple #[.slice none 0 0, .int .i64 2]) (by simp [results, Tryz.results9, go_sem]; try rfl) rfl (.inl ⟨Hn.out, rfl, HB.out⟩)
  | false =>
    have Hm := Lib.hid (show ∀ v ∈ l, MayO v.o from Classical.byContradiction fun hn => by have := Hz.out.2 hn; cases this)
    go_wp2_with fail
    go_loopw [15] (fun j wr => JFew w1 l j wr) (fun j _ => l.length - (intOf j).toNat)
    case atStart => exact JFew.start w1 l
    case round =>
      obtain ⟨q, va, vc, V, hq, rfl, hQ, hK, hF, hvl, hb⟩ := hrel
      have HQ := Lib.hid hQ
      have HK := Lib.hid hK
      have HF := Lib.hid hF
      have HB1 := Lib.hid hb
      have kk := cells_at hK
      have hl0 := heap_lt hK
      have hl1 := heap_lt hQ.blk
      have hB := Lib.hid (HB.out.trans (hb.mono HB.out.size))
      clear hQ hK hF hb
      by_cases hlt : q < l.length
      · obtain ⟨v, hx⟩ : ∃ x, l[q]? = some x := ⟨l[q], by simp [hlt]⟩
        obtain ⟨ad, had, ⟨c0, c1, c2, c3, c4, hat⟩, hlb⟩ := (H.out.below hB.out).at hx
        have Hx := Lib.hid hx
        have Hmv := Lib.hid (Hm.out v (List.mem_of_getElem? hx))
        have Hat := Lib.hid hat
        have Hat0 := Lib.hid (show OwAt w v from by obtain ⟨_, _, h0, _⟩ := H.out.at hx; exact h0.at_)
        subst had
        clear hx hat
        simp only [fkinds] at kk
        obtain ⟨⟨k, n, x, p, ds⟩, pa, pc, da, dc⟩ := v
        rcases kind_op Hmv.out with hk | hk | hk | hk | hk
        · dsimp only at hk c0 c1 c2 c3 c4
          subst hk
          go_wp2_with fail
          refine region_text [([0, 1, 2, 3, 4, 5, 6], false)] mixed (by kernel_rfl) ?_
          simp only [wpSegs, List.map_cons, List.map_nil, List.getD_cons_succ, List.getD_cons_zero]
          go_wp2_with fail
          have hW : Below wr.heap.size wr (wr.alloc (.cells (ocells 1 n x pa p.length pc da ds.length dc) 59 (0, 0))).drew := ((Below.refl _ _).alloc (Nat.le_refl _) _).drew
          have HW := Lib.hid hW
          refine (add_any 73 (w1.heap.size + 2) (w1.heap.size + 1) va vc V ⟨⟨1, n, x, p, ds⟩, pa, pc, da, dc⟩ _ (HQ.out.below hW) (by simp; omega) (by omega) (Hat.out.below hW) Hmv.out rfl).mono ?_
          intro e w2 hto
          obtain ⟨rfl, a', c', V', hP, hQ', hb2⟩ := hto
          have HQ' := Lib.hid hQ'
          have Hb2 := Lib.hid hb2
          have HP := Lib.hid (hP)
          clear hQ' hb2 hP hW
          go_wp2_with fail
          refine And.intro (by kernel_rfl) ?_
          go_wp2_with fail
          go_roundw
          case rel => exact JFew.next Hx.out (.inl ⟨rfl, HP.out⟩) HF.out hvl HK.out HB1.out HW.out HQ'.out Hb2.out
          case measure => simp [intOf]; omega
        · dsimp only at hk c0 c1 c2 c3 c4
          subst hk
          go_wp2_with fail
          refine region_text [([0, 1, 2, 3, 4, 5, 6], false)] mixed (by kernel_rfl) ?_
          simp only [wpSegs, List.map_cons, List.map_nil, List.getD_cons_succ, List.getD_cons_zero]
          go_wp2_with fail
          have hW : Below wr.heap.size wr (wr.alloc (.cells (ocells 2 n x pa p.length pc da ds.length dc) 59 (0, 0))).drew := ((Below.refl _ _).alloc (Nat.le_refl _) _).drew
          have HW := Lib.hid hW
          refine (setQ_any 73 (w1.heap.size + 2) (w1.heap.size + 1) va vc V ⟨⟨2, n, x, p, ds⟩, pa, pc, da, dc⟩ _ (HQ.out.below hW) (by simp; omega) (by omega) (fun W hb => Hat0.out.below ((hB.out.trans (HW.out.mono hB.out.size)).trans (hb.mono (by have := HB.out.size; omega)))) Hmv.out).mono ?_
          intro e w2 hto
          obtain ⟨rfl, a', c', V', hP, hQ', hb2⟩ := hto
          have HQ' := Lib.hid hQ'
          have Hb2 := Lib.hid hb2
          have HP := Lib.hid (hP)
          clear hQ' hb2 hP hW
          go_wp2_with fail
          refine And.intro (by kernel_rfl) ?_
          go_wp2_with fail
          go_roundw
          case rel => exact JFew.next Hx.out (.inr (.inl ⟨rfl, HP.out⟩)) HF.out hvl HK.out HB1.out HW.out HQ'.out Hb2.out
          case measure => simp [intOf]; omega
        · dsimp only at hk c0 c1 c2 c3 c4
          subst hk
          go_wp2_with fail
          refine region_text [([0, 1, 2, 3, 4, 5, 6], false)] mixed (by kernel_rfl) ?_
          simp only [wpSegs, List.map_cons, List.map_nil, List.getD_cons_succ, List.getD_cons_zero]
          go_wp2_with fail
          have hW : Below wr.heap.size wr (wr.alloc (.cells (ocells 3 n x pa p.length pc da ds.length dc) 59 (0, 0))).drew := ((Below.refl _ _).alloc (Nat.le_refl _) _).drew
          have HW := Lib.hid hW
          refine (put_any 73 (w1.heap.size + 2) (w1.heap.size + 1) va vc V ⟨⟨3, n, x, p, ds⟩, pa, pc, da, dc⟩ _ (HQ.out.below hW) (by simp; omega) (by omega) (Hat.out.below hW) Hmv.out).mono ?_
          intro e w2 hto
          obtain ⟨rfl, a', c', V', hP, hQ', hb2⟩ := hto
          have HQ' := Lib.hid hQ'
          have Hb2 := Lib.hid hb2
          have HP := Lib.hid (hP)
          clear hQ' hb2 hP hW
          go_wp2_with fail
          refine And.intro (by kernel_rfl) ?_
          go_wp2_with fail
          go_roundw
          case rel => exact JFew.next Hx.out (.inr (.inr (.inl ⟨rfl, HP.out⟩))) HF.out hvl HK.out HB1.out HW.out HQ'.out Hb2.out
          case measure => simp [intOf]; omega
        · dsimp only at hk c0 c1 c2 c3 c4
          subst hk
          go_wp2_with fail
          refine region_text [([0, 1, 2, 3, 4, 5, 6], false)] mixed (by kernel_rfl) ?_
          simp only [wpSegs, List.map_cons, List.map_nil, List.getD_cons_succ, List.getD_cons_zero]
          go_wp2_with fail
          have hW : Below wr.heap.size wr (wr.alloc (.cells (ocells 4 n x pa p.length pc da ds.length dc) 59 (0, 0))).drew := ((Below.refl _ _).alloc (Nat.le_refl _) _).drew
          have HW := Lib.hid hW
          refine (drop_any 73 (w1.heap.size + 2) (w1.heap.size + 1) va vc V ⟨⟨4, n, x, p, ds⟩, pa, pc, da, dc⟩ _ (HQ.out.below hW) (by simp; omega) (by omega) (Hat.out.below hW) Hmv.out rfl).mono ?_
          intro e w2 hto
          obtain ⟨rfl, a', c', V', hP, hQ', hb2⟩ := hto
          have HQ' := Lib.hid hQ'
          have Hb2 := Lib.hid hb2
          have HP := Lib.hid (hP)
          clear hQ' hb2 hP hW
          go_wp2_with fail
          refine And.intro (by kernel_rfl) ?_
          go_wp2_with fail
          go_roundw
          case rel => exact JFew.next Hx.out (.inr (.inr (.inr (.inl ⟨rfl, HP.out⟩)))) HF.out hvl HK.out HB1.out HW.out HQ'.out Hb2.out
          case measure => simp [intOf]; omega
        · dsimp only at hk c0 c1 c2 c3 c4
          subst hk
          go_wp2_with fail
          refine region_text [([0, 1, 2, 3, 4, 5, 6], false)] mixed (by kernel_rfl) ?_
          simp only [wpSegs, List.map_cons, List.map_nil, List.getD_cons_succ, List.getD_cons_zero]
          go_wp2_with fail
          have hW : Below wr.heap.size wr (wr.alloc (.cells (ocells 5 n x pa p.length pc da ds.length dc) 59 (0, 0))).drew := ((Below.refl _ _).alloc (Nat.le_refl _) _).drew
          have HW := Lib.hid hW
          refine (wait_any 73 (w1.heap.size + 2) (w1.heap.size + 1) va vc V ⟨⟨5, n, x, p, ds⟩, pa, pc, da, dc⟩ _ (HQ.out.below hW) (by simp; omega) (by omega) (Hat.out.below hW) Hmv.out).mono ?_
          intro e w2 hto
          obtain ⟨rfl, a', c', u, hu, hQ', hb2⟩ := hto
          have HQ' := Lib.hid hQ'
          have Hb2 := Lib.hid hb2
          have HP := Lib.hid (hu)
          clear hQ' hb2 hu hW
          go_wp2_with fail
          refine And.intro (by kernel_rfl) ?_
          go_wp2_with fail
          go_roundw
          case rel => exact JFew.next Hx.out (by rw [List.map_append, List.map_cons, List.map_nil, HP.out]; exact .inr (.inr (.inr (.inr ⟨rfl, rfl⟩)))) HF.out hvl HK.out HB1.out HW.out HQ'.out Hb2.out
          case measure => simp [intOf]; omega
      · have hqq : q = l.length := by omega
        have d1 := cells_at HQ.out.blk
        have HF2 := Lib.hid (show FewL [] (l.map (·.o)) (V.map (·.o)) from by have := HF.out; rwa [List.take_of_length_le (by omega)] at this)
        go_wp2_with fail
        exact bodyPost_ret (v := .tuple #[.slice va V.length vc, .int .i64 0]) (by simp [results, Tryz.results9, go_sem]; try rfl) rfl (.inr ⟨Hm.out, va, vc, V, rfl, HF2.out, HQ.out.own.base (by have := HB.out.size; omega), fun v hv => (HQ.out.each v hv).base (by have := HB.out.size; omega), hB.out⟩)
end Go.Proofs.YtmabjghjkgicgaaGreat
