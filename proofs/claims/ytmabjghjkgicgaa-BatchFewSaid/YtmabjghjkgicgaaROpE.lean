/- The reference's Few (varveref39): contract. (printed by wip/tools/genropf.py) -/
import Derived.Test.YtmabjghjkgicgaaROpD
namespace Go.Proofs.Ytmabjghjkgicgaa
open Go.RowKit
set_option linter.unusedVariables false
set_option linter.unusedSimpArgs false

theorem slice_hiO (oa : Option Addr) (n oc j : Nat) (hj : j ≤ oc) (W : World) : (Instr.sliceAt 48 (.slice oa n oc) none (some (.int .i64 (j : Int))) none).run Try.prog W = .ok (.slice oa j oc) W := by
  simp [go_sem, Instr.sliceAt, Instr.slice, run_underlying Try.underlying48]
  omega
theorem slice_loO (oa : Option Addr) (n oc j : Nat) (hj : j ≤ n) (hn : n ≤ oc) (W : World) : (Instr.sliceAt 48 (.slice oa n oc) (some (.int .i64 (j : Int))) none none).run Try.prog W = .ok (.slice (if oc = j then oa else oa.map (·.add (j * 5))) (n - j) (oc - j)) W := by
  simp [go_sem, Instr.sliceAt, Instr.slice, run_underlying Try.underlying48]
  intro h; omega
theorem owcell_len (v : Ow) : (owcells v).toList.length = 5 := rfl
theorem opsl_drop {w : World} {a : Option Addr} {c : Nat} {V : List Ow} (h : Sl w 5 a V.length c (opcells V)) {j : Nat} (hj : j ≤ V.length) : Sl w 5 (if c = j then a else a.map (·.add (j * 5))) (V.drop j).length (c - j) (opcells (V.drop j)) := Sl.dropK (enc := fun v : Ow => (owcells v).toList) owcell_len h hj
theorem opsl_take {w : World} {a : Option Addr} {c : Nat} {V : List Ow} (h : Sl w 5 a V.length c (opcells V)) {j : Nat} (hj : j ≤ V.length) : Sl w 5 a (V.take j).length c (opcells (V.take j)) := Sl.takeK (enc := fun v : Ow => (owcells v).toList) owcell_len h hj
theorem cutO (a : Option Addr) (c : Nat) (V : List Ow) (k : Nat) (hk : k ≤ V.length) (hc : V.length ≤ c) : ∃ sa sc u, u = V.drop k ∧ (∀ W : World, (Instr.sliceAt 48 (.slice a V.length c) (some (.int .i64 (k : Int))) none none).run Try.prog W = .ok (.slice sa (List.length u) sc) W) ∧ ∀ w, Sl w 5 a V.length c (opcells V) → Sl w 5 sa u.length sc (opcells u) :=
  ⟨_, _, V.drop k, rfl, fun W => by rw [slice_loO a V.length c k hk hc W, List.length_drop], fun w h => opsl_drop h hk⟩
theorem op_one {w : World} {b : Nat} (v : Ow) (h : w.heap[b]? = some (.cells (owcells v) 35 (0, 0))) : Sl w 5 (some ⟨b, 0, none⟩) 1 1 (opcells [v]) :=
  Sl.blk (C := owcells v) h rfl (by simp [maxLen])
theorem OwnO.made (w : World) {base : Nat} (h : base ≤ w.heap.size) : OwnO (w.alloc (.cells #[] 35)) base (some ⟨w.heap.size, 0, none⟩) 0 [] := World.ownsRow_made w #[] 0 h (by decide) rfl
theorem RQ.chg {w0 w W W' : World} {a a' : Option Addr} {c c' : Nat} {V V' : List Ow} (h : RQ w0 w W a c V) (hC : Chg (ob a) W W') (ho : OwnO W' w.heap.size a' c' V') (hv : ∀ v ∈ V', v ∈ V ∨ RV w0 w W v) : RQ w0 w W' a' c' V' :=
  ⟨ho, fun v hv' => ((hv v hv').elim (fun k => h.each v k) id).chg h.own h.lo h.bel.size hC, h.bel.trans (hC.below h.bel.size (fun k hk => (owns_lt h.own k hk).1)), h.lo⟩
theorem RQ.none_ {w0 w W : World} (h : Below w.heap.size w W) (hl : w0.heap.size ≤ w.heap.size) : RQ w0 w W none 0 [] := ⟨OwnO.nil _ _, fun v hv => (by cases hv), h, hl⟩
theorem RQ.fresh {w0 w W W' : World} {a a' : Option Addr} {c c' : Nat} {V V' : List Ow} (h : RQ w0 w W a c V) (hb : Below W.heap.size W W') (ho : OwnO W' W.heap.size a' c' V') (hv : ∀ v ∈ V', v ∈ V ∨ RV w0 w W v) : RQ w0 w W' a' c' V' :=
  ⟨ho.base h.bel.size, fun v hv' => ((hv v hv').elim (fun k => h.each v k) id).below hb (Nat.le_trans h.lo h.bel.size), below2 h.bel hb h.bel.size, h.lo⟩
theorem heap_five {W : World} {b : Nat} {a0 a1 a2 a3 a4 : Value} {t : TypeId} (h : W.heap[b]? = some (.cells #[a0, a1, a2, a3, a4] t (0, 0))) (x0 x1 x2 x3 x4 : Value) :
    (((((W.setCell ⟨b, 0, none⟩ x0).setCell ⟨b, 1, none⟩ x1).setCell ⟨b, 2, none⟩ x2).setCell ⟨b, 3, none⟩ x3).setCell ⟨b, 4, none⟩ x4).heap[b]? = some (.cells #[x0, x1, x2, x3, x4] t (0, 0)) := by
  have h5 := Go.heap_setCell_same _ b 4 _ t x4 (Go.heap_setCell_same _ b 3 _ t x3 (Go.heap_setCell_same _ b 2 _ t x2 (Go.heap_setCell_same _ b 1 _ t x1 (Go.heap_setCell_same W b 0 _ t x0 h))))
  simp only [List.setIfInBounds_toArray, List.set_cons_zero, List.set_cons_succ] at h5
  exact h5
theorem set_opcells (V : List Ow) (q : Nat) (v : Ow) (hq : q < V.length) : (((((opcells V).set (q * 5) (.int .u8 v.o.k)).set (q * 5 + 1) (.slice v.pa v.o.p.length v.pc)).set (q * 5 + 2) (.int .i64 v.o.n)).set (q * 5 + 3) (.string v.o.x)).set (q * 5 + 4) (.slice v.da v.o.ds.length v.dc) = opcells (V.set q v) := by
  induction V generalizing q with
  | nil => simp at hq
  | cons a V ih =>
    cases q with
    | zero => simp [opcells, owcells, ocells]
    | succ q =>
      have := ih q (by simpa using hq)
      simp only [opcells, List.flatMap_cons, List.set_cons_succ] at this ⊢
      rw [← this]
      simp only [owcells, ocells, List.cons_append, List.nil_append, show (q + 1) * 5 = q * 5 + 1 + 1 + 1 + 1 + 1 by omega, List.set_cons_succ, show ∀ a : Nat, a + 1 + 1 + 1 + 1 + 1 + 1 = (a + 1) + 1 + 1 + 1 + 1 + 1 from fun a => rfl, show ∀ a : Nat, a + 1 + 1 + 1 + 1 + 1 + 2 = (a + 2) + 1 + 1 + 1 + 1 + 1 from fun a => rfl, show ∀ a : Nat, a + 1 + 1 + 1 + 1 + 1 + 3 = (a + 3) + 1 + 1 + 1 + 1 + 1 from fun a => rfl, show ∀ a : Nat, a + 1 + 1 + 1 + 1 + 1 + 4 = (a + 4) + 1 + 1 + 1 + 1 + 1 from fun a => rfl]
theorem OwnO.put5 {W : World} {base g c q : Nat} {V : List Ow} (h : OwnO W base (some ⟨g, 0, none⟩) c V) (hq : q < V.length) (v : Ow) :
    OwnO (((((W.setCell ⟨g, q * 5, none⟩ (.int .u8 v.o.k)).setCell ⟨g, q * 5 + 1, none⟩ (.slice v.pa v.o.p.length v.pc)).setCell ⟨g, q * 5 + 2, none⟩ (.int .i64 v.o.n)).setCell ⟨g, q * 5 + 3, none⟩ (.string v.o.x)).setCell ⟨g, q * 5 + 4, none⟩ (.slice v.da v.o.ds.length v.dc)) base (some ⟨g, 0, none⟩) c (V.set q v) := by
  have h1 := (((((World.ownsRow.stored h (q * 5) (.int .u8 v.o.k)).1.stored (q * 5 + 1) (.slice v.pa v.o.p.length v.pc)).1.stored (q * 5 + 2) (.int .i64 v.o.n)).1.stored (q * 5 + 3) (.string v.o.x)).1.stored (q * 5 + 4) (.slice v.da v.o.ds.length v.dc)).1
  rw [set_opcells V q v hq] at h1
  unfold OwnO
  rw [List.length_set]
  exact h1
theorem RQ.put5 {w0 w W : World} {g c q : Nat} {V : List Ow} (h : RQ w0 w W (some ⟨g, 0, none⟩) c V) (hq : q < V.length) (v : Ow) (hv : RV w0 w W v) :
    RQ w0 w (((((W.setCell ⟨g, q * 5, none⟩ (.int .u8 v.o.k)).setCell ⟨g, q * 5 + 1, none⟩ (.slice v.pa v.o.p.length v.pc)).setCell ⟨g, q * 5 + 2, none⟩ (.int .i64 v.o.n)).setCell ⟨g, q * 5 + 3, none⟩ (.string v.o.x)).setCell ⟨g, q * 5 + 4, none⟩ (.slice v.da v.o.ds.length v.dc)) (some ⟨g, 0, none⟩) c (V.set q v) :=
  h.chg (((((Chg.setCell W ⟨g, q * 5, none⟩ _).put _ _ (by simp)).put _ _ (by simp)).put _ _ (by simp)).put _ _ (by simp)) (h.own.put5 hq v) (fun u hu => by
    rcases List.mem_or_eq_of_mem_set hu with hu | rfl
    · exact .inl hu
    · exact .inr hv)
theorem OwnO.form {w : World} {base c : Nat} {a : Option Addr} {V : List Ow} (h : OwnO w base a c V) (hv : 0 < V.length) : ∃ g, a = some ⟨g, 0, none⟩ ∧ base ≤ g ∧ g < w.heap.size := by
  rcases h.2 with ⟨h1, h2⟩ | ⟨g, cap, cur, h1, hb, hg, _⟩
  · omega
  · injection h1 with h1
    exact ⟨g, h1, hb, heap_lt hg⟩
theorem set_self {α : Type} {l : List α} {q : Nat} {x : α} (h : l[q]? = some x) : l.set q x = l := by
  obtain ⟨h1, rfl⟩ := List.getElem?_eq_some_iff.1 h
  exact List.set_getElem_self h1
theorem ownD_set5 {W : World} {base c : Nat} {a : Option Addr} {y : List Dt} (h : OwnD W base a c y) (b : Nat) (hb : b < base) (x0 x1 x2 x3 x4 : Value) : OwnD (((((W.setCell ⟨b, 0, none⟩ x0).setCell ⟨b, 1, none⟩ x1).setCell ⟨b, 2, none⟩ x2).setCell ⟨b, 3, none⟩ x3).setCell ⟨b, 4, none⟩ x4) base a c y :=
  owns_chg (F := [b]) h (((((Chg.setCell W ⟨b, 0, none⟩ x0).put _ x1 (by simp)).put _ x2 (by simp)).put _ x3 (by simp)).put _ x4 (by simp)) (fun k hk hm => by have := (owns_lt h k hk).1; simp at hm; omega)
/-- the place of the first one that is like, so far -/
def JIn (w0 w : World) (va : Option Addr) (vc : Nat) (V : List Ow) (o : Opn) (at_ k : Value) (wx : World) : Prop :=
  ∃ q : Nat, q ≤ V.length ∧ k = .int .i64 q ∧ ((at_ = .int .i64 (-1) ∧ ∀ v ∈ V.take q, ¬ LikeM o v.o) ∨ ∃ (r : Nat) (v : Ow), at_ = .int .i64 r ∧ q = r + 1 ∧ V[r]? = some v ∧ LikeM o v.o ∧ ∀ u ∈ V.take r, ¬ LikeM o u.o) ∧ RQ w0 w wx va vc V
def JOut (w0 w : World) (l : List Ow) (out j : Value) (wr : World) : Prop :=
  ∃ (i : Nat) (va : Option Addr) (vc : Nat) (V : List Ow), i ≤ l.length ∧ j = .int .i64 i ∧ out = .slice va V.length vc ∧ V.length ≤ i ∧ FewL [] ((l.take i).map (·.o)) (V.map (·.o)) ∧ RQ w0 w wr va vc V
def RFewTo (w0 w : World) (l : List Ow) (e : Ending) (w' : World) : Prop :=
  (¬ (∀ v ∈ l, MayO v.o) ∧ e = .returned (.tuple #[.slice none 0 0, .int .i64 2]) ∧ Below w.heap.size w w') ∨
  ((∀ v ∈ l, MayO v.o) ∧ ∃ a c V, e = .returned (.tuple #[.slice a (List.length V) c, .int .i64 0]) ∧ FewL [] (l.map (·.o)) (V.map (·.o)) ∧ RQ w0 w w' a c V)
theorem JOut.next {w0 w w2 : World} {l : List Ow} {i vc' : Nat} {va' : Option Addr} {V V' : List Ow} {o : Ow} (hx : l[i]? = some o) (hvl : V.length ≤ i) (hF : FewL [] ((l.take i).map (·.o)) (V.map (·.o))) (hs : StepL (V.map (·.o)) o.o (V'.map (·.o))) (hQ : RQ w0 w w2 va' vc' V') :
    JOut w0 w l (.slice va' V'.length vc') (.int .i64 ((i : Int) + 1)) w2 := by
  have hlt := (List.getElem?_eq_some_iff.1 hx).1
  refine ⟨i + 1, va', vc', V', hlt, by simp, rfl, ?_, ?_, hQ⟩
  · have := hs.len
    simp only [List.length_map] at this
    omega
  · rw [take_snoc' hx, List.map_append, List.map_cons, List.map_nil]
    exact hF.snoc hs
set_option maxRecDepth 100000 in
set_option maxHeartbeats 8000000 in
theorem rfew_any (a : Option Addr) (c : Nat) (l : List Ow) (w0 w : World) (h0 : Ops w0 a c l) (hold : Below w0.heap.size w0 w) (hn : l.length ≤ 1000000) :
    Calls Try.prog 13 #[.slice a l.length c] w (RFewTo w0 w l) := by
  have H := Lib.hid (h0.below hold)
  have H0 := Lib.hid h0
  have Hold := Lib.hid hold
  clear h0 hold
  go_enter Try.func13, Try.ntmps13
  go_wp2_with fail
  go_loopw [5] (fun j wr => ∃ q : Nat, q ≤ l.length ∧ j = .int .i64 q ∧ (∀ v ∈ l.take q, MayO v.o) ∧ Below w.heap.size w wr) (fun j _ => l.length - (intOf j).toNat)
  case atStart => exact ⟨0, Nat.zero_le _, rfl, fun v hv => (by simp at hv), Below.refl _ _⟩
  case round =>
    obtain ⟨q, hq, rfl, hall, hb⟩ := hrel
    have Hall := Lib.hid hall
    have HB := Lib.hid hb
    clear hall hb
    by_cases hlt : q < l.length
    · obtain ⟨v, hx⟩ : ∃ x, l[q]? = some x := ⟨l[q], by simp [hlt]⟩
      obtain ⟨ad, had, ⟨c0, c1, c2, c3, c4, hat⟩, hlb⟩ := (H.out.below HB.out).at hx
      subst had
      have Hx := Lib.hid hx
      have Hat := Lib.hid hat
      clear hx hat
      go_wp2_with fail
      refine (mayOpX_any v.o.k v.o.n v.o.x v.pa v.o.p v.pc v.da v.o.ds v.dc _ Hat.out.pt Hat.out.ds).mono ?_
      intro e w1 hto
      obtain ⟨z, rfl, hz, hb⟩ := hto
      have Hz := Lib.hid hz
      have HB1 := Lib.hid (below2 HB.out hb HB.out.size)
      clear hz hb c0 c1 c2 c3 c4
      cases z with
      | true =>
        have Hm := Lib.hid (Hz.out.1 rfl)
        go_wp2_with fail
        go_roundw
        case rel => exact ⟨q + 1, by omega, by go_num, all_snoc Hx.out Hall.out Hm.out, HB1.out⟩
        case measure => simp [intOf]; omega
      | false =>
        have Hm := Lib.hid (show ¬ ∀ v ∈ l, MayO v.o from fun hh => by have := Hz.out.2 (hh v (List.mem_of_getElem? Hx.out)); cases this)
        go_wp2_with fail
        exact bodyPost_ret (v := .tuple #[.slice none 0 0, .int .i64 2]) (by simp [results, Try.results13, go_sem]; try rfl) rfl (.inl ⟨Hm.out, rfl, HB1.out⟩)
    · have ha := Hall.out
      rw [List.take_of_length_le (by omega)] at ha
      have Hm := Lib.hid ha
      clear ha Hall
      go_wp2_with fail
      go_loopw [4, 6] (fun o j wr => JOut w0 w l o j wr) (fun _ j _ => l.length - (intOf j).toNat)
      case atStart => exact ⟨0, none, 0, [], Nat.zero_le _, rfl, rfl, Nat.le_refl _, rfl, RQ.none_ HB.out Hold.out.size⟩
      case round =>
        clear HB hq hlt
        obtain ⟨i, va, vc, V, hi, rfl, rfl, hvl, hF, hQ⟩ := hrel
        have HF := Lib.hid hF
        have HQ := Lib.hid hQ
        clear hF hQ
        by_cases hlt : i < l.length
        · obtain ⟨⟨⟨k, n, x, p, ds⟩, pa, pc, da, dc⟩, hx⟩ : ∃ x, l[i]? = some x := ⟨l[i], by simp [hlt]⟩
          have Hx := Lib.hid hx
          have Hmo := Lib.hid (Hm.out _ (List.mem_of_getElem? hx))
          have Hat0 := Lib.hid (show OldV w0 w ⟨⟨k, n, x, p, ds⟩, pa, pc, da, dc⟩ from by obtain ⟨_, _, h0, _⟩ := H0.out.at hx; exact ⟨h0.at_, Hold.out⟩)
          have hcv := HQ.out.own.sl.2.1
          clear hx
          go_wp2_with fail
          go_loopw [7, 8] (fun o j wx => JIn w0 w va vc V ⟨k, n, x, p, ds⟩ o j wx) (fun _ j _ => V.length - (intOf j).toNat)
          case atStart => exact ⟨0, Nat.zero_le _, rfl, .inl ⟨rfl, fun v hv => (by simp at hv)⟩, HQ.out⟩
          case round =>
            clear HQ
            obtain ⟨q, hq, rfl, hcase, hQ⟩ := hrel
            have HQ := Lib.hid hQ
            clear hQ
            obtain ⟨ad, had, ⟨c0, c1, c2, c3, c4, _⟩, hlb⟩ := (H.out.below HQ.out.bel).at Hx.out
            subst had
            dsimp only at c0 c1 c2 c3 c4
            rcases hcase with ⟨rfl, hno⟩ | ⟨r, v, rfl, rfl, hv, hm, hfst⟩
            · have Hno := Lib.hid hno
              clear hno
              by_cases hqv : q < V.length
              · obtain ⟨v, hv⟩ : ∃ x, V[q]? = some x := ⟨V[q], by simp [hqv]⟩
                obtain ⟨ad2, had2, ⟨e0, e1, e2, e3, e4, _⟩, hlb2⟩ := HQ.out.ops.at hv
                subst had2
                have Hv := Lib.hid hv
                have HR := Lib.hid (HQ.out.each v (List.mem_of_getElem? hv))
                have hs0 := HQ.out.bel.size
                clear hv
                go_wp2_with fail
                refine region_tree (.seg [0, 1, 2, 3, 4, 5, 6, 7] false (.fork (.seg [8, 9, 10, 11, 12, 13, 14] false .done) (.seg [12, 8, 9, 10, 11, 13, 14] false .done))) mixed (by kernel_rfl) ?_
                simp only [wpSg, List.map_cons, List.map_nil, List.getD_cons_succ, List.getD_cons_zero]
                go_wp2_with fail
                refine And.intro ?_ ?_
                · go_wp2_with fail
                  refine (with_any v ⟨⟨k, n, x, p, ds⟩, pa, pc, da, dc⟩ _ (HR.out.at_.below ?g1) (Hat0.out.below (HQ.out.bel.trans (Below.mono ?g2 hs0))) HR.out.may Hmo.out).mono ?_
                  case g1 => first | exact (Below.refl _ _).drew | exact (Below.refl _ _).drew.alloc (by simp) _ | exact ((Below.refl _ _).alloc (Nat.le_refl _) _).drew
                  case g2 => first | exact (Below.refl _ _).drew | exact (Below.refl _ _).drew.alloc (by simp) _ | exact ((Below.refl _ _).alloc (Nat.le_refl _) _).drew
                  intro e w2 hto
                  obtain ⟨r, z, rfl, hz, hr, hb⟩ := hto
                  have Hz := Lib.hid hz
                  have hbx : Below wr.heap.size wr w2 := by first | exact (Below.refl _ wr).drew.trans hb | exact ((Below.refl _ wr).drew.alloc (by simp) _).trans (hb.mono (by simp)) | exact ((Below.refl _ wr).alloc (Nat.le_refl _) _).drew.trans (hb.mono (by simp))
                  have HX := Lib.hid hbx
                  have hs1 := hbx.size
                  clear hz hr hb hbx c0 c1 c2 c3 c4 e0 e1 e2 e3 e4
                  cases z with
                  | true =>
                    have Hl := Lib.hid (Hz.out.1 rfl)
                    go_wp2_with fail
                    refine And.intro (by kernel_rfl) ?_
                    go_wp2_with fail
                    go_roundw
                    case rel => exact ⟨q + 1, by omega, by go_num, .inr ⟨q, v, rfl, rfl, Hv.out, Hl.out, Hno.out⟩, HQ.out.below (by first | exact HX.out.alloc hs1 _ | exact (HX.out.alloc hs1 _).drew)⟩
                    case measure => simp [intOf]; omega
                  | false =>
                    have Hl := Lib.hid (show ¬ LikeM ⟨k, n, x, p, ds⟩ v.o from fun hh => by have := Hz.out.2 hh; cases this)
                    go_wp2_with fail
                    refine And.intro (by kernel_rfl) ?_
                    go_wp2_with fail
                    go_roundw
                    case rel => exact ⟨q + 1, by omega, by go_num, .inl ⟨rfl, all_snoc (p := fun v : Ow => ¬ LikeM ⟨k, n, x, p, ds⟩ v.o) Hv.out Hno.out Hl.out⟩, HQ.out.below (by first | exact HX.out.alloc hs1 _ | exact (HX.out.alloc hs1 _).drew)⟩
                    case measure => simp [intOf]; omega
                · go_wp2_with fail
                  refine (with_any v ⟨⟨k, n, x, p, ds⟩, pa, pc, da, dc⟩ _ (HR.out.at_.below ?g1) (Hat0.out.below (HQ.out.bel.trans (Below.mono ?g2 hs0))) HR.out.may Hmo.out).mono ?_
                  case g1 => first | exact (Below.refl _ _).drew | exact (Below.refl _ _).drew.alloc (by simp) _ | exact ((Below.refl _ _).alloc (Nat.le_refl _) _).drew
                  case g2 => first | exact (Below.refl _ _).drew | exact (Below.refl _ _).drew.alloc (by simp) _ | exact ((Below.refl _ _).alloc (Nat.le_refl _) _).drew
                  intro e w2 hto
                  obtain ⟨r, z, rfl, hz, hr, hb⟩ := hto
                  have Hz := Lib.hid hz
                  have hbx : Below wr.heap.size wr w2 := by first | exact (Below.refl _ wr).drew.trans hb | exact ((Below.refl _ wr).drew.alloc (by simp) _).trans (hb.mono (by simp)) | exact ((Below.refl _ wr).alloc (Nat.le_refl _) _).drew.trans (hb.mono (by simp))
                  have HX := Lib.hid hbx
                  have hs1 := hbx.size
                  have hzb : w2.heap[wr.heap.size]? = some (.cells ozero 35 (0, 0)) := (hb.block _ (by simp)).trans (by first | exact heap_new wr _ | exact heap_new wr.drew _)
                  have z0 := cells_at hzb
                  have z1 := free_at hzb
                  have hzl := heap_lt hzb
                  simp only [ozero] at z0
                  clear hzb
                  clear hz hr hb hbx c0 c1 c2 c3 c4 e0 e1 e2 e3 e4
                  cases z with
                  | true =>
                    have Hl := Lib.hid (Hz.out.1 rfl)
                    go_wp2_with fail
                    refine And.intro (by kernel_rfl) ?_
                    go_wp2_with fail
                    go_roundw
                    case rel => exact ⟨q + 1, by omega, by go_num, .inr ⟨q, v, rfl, rfl, Hv.out, Hl.out, Hno.out⟩, HQ.out.below (by first | exact below_five HX.out _ (Nat.le_refl _) _ _ _ _ _ | exact (below_five HX.out _ (Nat.le_refl _) _ _ _ _ _).drew)⟩
                    case measure => simp [intOf]; omega
                  | false =>
                    have Hl := Lib.hid (show ¬ LikeM ⟨k, n, x, p, ds⟩ v.o from fun hh => by have := Hz.out.2 hh; cases this)
                    go_wp2_with fail
                    refine And.intro (by kernel_rfl) ?_
                    go_wp2_with fail
                    go_roundw
                    case rel => exact ⟨q + 1, by omega, by go_num, .inl ⟨rfl, all_snoc (p := fun v : Ow => ¬ LikeM ⟨k, n, x, p, ds⟩ v.o) Hv.out Hno.out Hl.out⟩, HQ.out.below (by first | exact below_five HX.out _ (Nat.le_refl _) _ _ _ _ _ | exact (below_five HX.out _ (Nat.le_refl _) _ _ _ _ _).drew)⟩
                    case measure => simp [intOf]; omega
              · have hqq := Lib.hid (show q = V.length by omega)
                have Hn := Lib.hid (show ∀ y ∈ V.map (·.o), ¬ LikeM ⟨k, n, x, p, ds⟩ y from fun y hy => by
                  obtain ⟨v, hv, rfl⟩ := List.mem_map.1 hy
                  exact Hno.out v (by rw [List.take_of_length_le (by have := hqq.out; omega)]; exact hv))
                have hs0 := HQ.out.bel.size
                go_upto_region 18 with (fail)
                go_wp2_with (at_builtin; go_must (refine wpList_appO rfl _ _ rfl w.heap.size va vc V rfl ?o1 (some ⟨wr.heap.size, 0, none⟩) 1 [⟨⟨k, n, x, p, ds⟩, pa, pc, da, dc⟩] rfl ?s1 ?n1 ?b1 ?_))
                case o1 => exact HQ.out.own.below ((Below.refl _ _).alloc (Nat.le_refl _) _)
                case s1 => exact op_one ⟨⟨k, n, x, p, ds⟩, pa, pc, da, dc⟩ (heap_new wr _)
                case n1 => simp; omega
                case b1 => simp; omega
                intro v' a' c' w2 hv' ho2 hb2 hC2
                have Hv' := Lib.hid hv'
                have HQ2 := Lib.hid (show RQ w0 w w2 a' c' v' from (HQ.out.below ((Below.refl _ _).alloc (Nat.le_refl _) _)).chg hC2 ho2 (fun v hv => by
                  rw [hv', List.mem_append, List.mem_singleton] at hv
                  exact hv.imp id (fun e => by rw [e]; exact RV.old Hat0.out Hmo.out (HQ.out.bel.alloc hs0 _))))
                clear hv' ho2 hb2 hC2 c0 c1 c2 c3 c4
                go_wp2_with fail
                go_roundw
                case rel => exact JOut.next Hx.out hvl HF.out (by rw [Hv'.out, List.map_append, List.map_cons, List.map_nil]; exact step_none Hmo.out Hn.out) HQ2.out
                case measure => simp [intOf]; omega
            · have Hv := Lib.hid hv
              have Hl := Lib.hid hm
              have Hf := Lib.hid (show ∀ y ∈ (V.map (·.o)).take r, ¬ LikeM ⟨k, n, x, p, ds⟩ y from fun y hy => by
                rw [← List.map_take] at hy
                obtain ⟨u, hu, rfl⟩ := List.mem_map.1 hy
                exact hfst u hu)
              have hrl : r < V.length := by omega
              have HR := Lib.hid (HQ.out.each v (List.mem_of_getElem? hv))
              have hs0 := HQ.out.bel.size
              obtain ⟨ad2, had2, ⟨e0, e1, e2, e3, e4, _⟩, hlb2⟩ := HQ.out.ops.at hv
              subst had2
              have hr0 : decide ((r : Int) < 0) = false := by simp
              obtain ⟨⟨k', n', x', p', ds'⟩, pa', pc', da', dc'⟩ := v
              obtain rfl : k' = k := hm.k
              obtain rfl : p' = p := hm.p
              have HvO := Lib.hid (show (V.map (·.o))[r]? = some ⟨k', n', x', p', ds'⟩ by rw [List.getElem?_map, hv]; rfl)
              clear hv hm hfst
              cases hg : decide (((r : Int) + 1) < (V.length : Int)) with
              | true =>
                go_upto_region 19 with (fail)
                refine region_tree (.seg [0, 1, 2, 3, 4, 5, 6, 7] false (.fork (.seg [8, 9, 10, 11, 12, 13, 14] false .done) (.seg [12, 8, 9, 10, 11, 13, 14] false .done))) mixed (by kernel_rfl) ?_
                simp only [wpSg, List.map_cons, List.map_nil, List.getD_cons_succ, List.getD_cons_zero]
                go_wp2_with fail
                refine And.intro ?_ ?_
                · go_wp2_with fail
                  refine (with_any ⟨⟨k', n', x', p', ds'⟩, pa', pc', da', dc'⟩ ⟨⟨k', n, x, p', ds⟩, pa, pc, da, dc⟩ _ (HR.out.at_.below ?g1) (Hat0.out.below (HQ.out.bel.trans (Below.mono ?g2 hs0))) HR.out.may Hmo.out).mono ?_
                  case g1 => first | exact (Below.refl _ _).drew | exact (Below.refl _ _).drew.alloc (by simp) _ | exact ((Below.refl _ _).alloc (Nat.le_refl _) _).drew
                  case g2 => first | exact (Below.refl _ _).drew | exact (Below.refl _ _).drew.alloc (by simp) _ | exact ((Below.refl _ _).alloc (Nat.le_refl _) _).drew
                  intro e w2 hto
                  obtain ⟨rr, z, rfl, hz, hr, hb⟩ := hto
                  obtain rfl : z = true := hz.2 Hl.out
                  have hbx : Below wr.heap.size wr w2 := by first | exact (Below.refl _ wr).drew.trans hb | exact ((Below.refl _ wr).drew.alloc (by simp) _).trans (hb.mono (by simp)) | exact ((Below.refl _ wr).alloc (Nat.le_refl _) _).drew.trans (hb.mono (by simp))
                  have HX := Lib.hid hbx
                  have hs1 := hbx.size
                  have hrr := hr rfl
                  clear hz hr hb hbx c0 c1 c2 c3 c4 e0 e1 e2 e3 e4
                  rcases hrr with ⟨hk, rfl⟩ | ⟨hk, rfl⟩ | ⟨hk, rfl⟩ | ⟨hk, y, ya, yc, rfl, hy, how⟩
                  · dsimp only at hk
                    subst hk
                    go_wp2_with fail
                    refine And.intro (by kernel_rfl) ?_
                    go_upto_region 23 with (fail)
                    have hW3 : Below wr.heap.size wr (w2.alloc (.cells #[.int .u8 1, .slice pa' p'.length pc', .int .i64 (n' + n), .string x', .slice da' ds'.length dc'] 35 (0, 0))) := HX.out.alloc hs1 _
                    have HQ3 := Lib.hid (HQ.out.below hW3)
                    have hB3 : (w2.alloc (.cells #[.int .u8 1, .slice pa' p'.length pc', .int .i64 (n' + n), .string x', .slice da' ds'.length dc'] 35 (0, 0))).heap[w2.heap.size]? = some (.cells #[.int .u8 1, .slice pa' p'.length pc', .int .i64 (n' + n), .string x', .slice da' ds'.length dc'] 35 (0, 0)) := heap_new w2 _
                    generalize hWW : w2.alloc (.cells #[.int .u8 1, .slice pa' p'.length pc', .int .i64 (n' + n), .string x', .slice da' ds'.length dc'] 35 (0, 0)) = W3 at *
                    have hxb : w2.heap.size < W3.heap.size := heap_lt hB3
                    clear hWW
                    generalize w2.heap.size = xb at *
                    have hs3 := HQ3.out.bel.size
                    have HB3 := Lib.hid hB3
                    clear hB3 hW3
                    go_wp2_with (at_builtin; go_must (refine wpList_appO rfl _ _ rfl W3.heap.size (some ⟨W3.heap.size, 0, none⟩) 0 [] rfl ?o1 (some ad2) vc V rfl ?s1 ?n1 ?b1 ?_))
                    case o1 => exact OwnO.made _ (Nat.le_refl _)
                    case s1 => exact (HQ3.out.own.below ((Below.refl _ _).alloc (Nat.le_refl _) _)).sl
                    case n1 => simp; omega
                    case b1 => simp
                    intro v' a' c' w4 hv' ho4 hb4 hC4
                    obtain rfl : v' = V := by simpa using hv'
                    have hB5 : Below W3.heap.size W3 w4 := ((Below.refl _ _).alloc (Nat.le_refl _) _).trans hb4
                    have hQ4 := HQ3.out.fresh hB5 ho4 (fun v hv => .inl hv)
                    obtain ⟨g, rfl, hg1, hg2⟩ := OwnO.form ho4 (by omega)
                    obtain ⟨ad3, had3, ⟨e0, e1, e2, e3, e4, _⟩, hlb3⟩ := hQ4.ops.at Hv.out
                    injection had3 with had3
                    subst had3
                    have hadd : (⟨g, 0, none⟩ : Addr).add (r * 5) = ⟨g, r * 5, none⟩ := by unfold Addr.add; split <;> simp_all
                    rw [hadd] at e0 e1 e2 e3 e4
                    dsimp only at e0 e1 e2 e3 e4
                    have f4 := hQ4.own.free
                    have kx := cells_at ((hB5.block _ hxb).trans HB3.out)
                    have hR := (HQ3.out.each _ (List.mem_of_getElem? Hv.out)).below hB5 (Nat.le_trans HQ3.out.lo hs3)
                    have HRX := Lib.hid (show RV w0 w w4 ⟨⟨1, n' + n, x', p', ds'⟩, pa', pc', da', dc'⟩ from ⟨hR.pt, hR.ds, hR.ok, may_add hR.may rfl (Hl.out.add rfl).1 (Hl.out.add rfl).2⟩)
                    have HQ4 := Lib.hid hQ4
                    have hgx : g ≠ xb := by omega
                    clear hv' ho4 hb4 hC4 hQ4 hR hB5
                    go_wp2_with fail
                    go_roundw
                    case rel =>
                      have h := JOut.next Hx.out hvl HF.out (by rw [List.map_set]; exact step_add rfl HvO.out Hl.out Hf.out) (HQ4.out.put5 hrl ⟨⟨1, n' + n, x', p', ds'⟩, pa', pc', da', dc'⟩ HRX.out)
                      rw [List.length_set] at h
                      exact h
                    case measure => simp [intOf]; omega
                  · dsimp only at hk
                    subst hk
                    go_wp2_with fail
                    refine And.intro (by kernel_rfl) ?_
                    go_upto_region 21 with (fail)
                    have hW3 : Below wr.heap.size wr (w2.alloc (.cells #[.int .u8 2, .slice pa p'.length pc, .int .i64 n, .string x, .slice da ds.length dc] 35 (0, 0))) := HX.out.alloc hs1 _
                    have HQ3 := Lib.hid (HQ.out.below hW3)
                    have hB3 : (w2.alloc (.cells #[.int .u8 2, .slice pa p'.length pc, .int .i64 n, .string x, .slice da ds.length dc] 35 (0, 0))).heap[w2.heap.size]? = some (.cells #[.int .u8 2, .slice pa p'.length pc, .int .i64 n, .string x, .slice da ds.length dc] 35 (0, 0)) := heap_new w2 _
                    generalize hWW : w2.alloc (.cells #[.int .u8 2, .slice pa p'.length pc, .int .i64 n, .string x, .slice da ds.length dc] 35 (0, 0)) = W3 at *
                    have hxb : w2.heap.size < W3.heap.size := heap_lt hB3
                    clear hWW
                    generalize w2.heap.size = xb at *
                    have hs3 := HQ3.out.bel.size
                    have HB3 := Lib.hid hB3
                    clear hB3 hW3
                    obtain ⟨sa, sc, u, hu, hsl, hits⟩ := cutO (some ad2) vc V (r + 1) (by omega) hcv
                    have hhi := slice_hiO (some ad2) V.length vc r (by omega)
                    have hsl2 : ∀ W : World, (Instr.sliceAt 48 (.slice (some ad2) V.length vc) (some (.int .i64 ((r : Int) + 1))) none none).run Try.prog W = .ok (.slice sa (List.length u) sc) W := fun W => hsl W
                    have Hits := Lib.hid hits
                    have Hu := Lib.hid hu
                    have Hul := Lib.hid (show u.length = V.length - (r + 1) by rw [hu]; simp)
                    obtain ⟨T, hT⟩ : ∃ T, T = V.take r := ⟨_, rfl⟩
                    have HTl := Lib.hid (show T.length = r by rw [hT, List.length_take]; omega)
                    have HT := Lib.hid hT
                    clear hits hu hT
                    refine region_text [([1, 2, 3, 5, 6, 7, 8, 0, 4, 9, 10], false)] mixed (by kernel_rfl) ?_
                    simp only [wpSegs, List.map_cons, List.map_nil, List.getD_cons_succ, List.getD_cons_zero]
                    go_wp2_with (at_builtin; go_must (refine wpList_appO rfl _ _ rfl W3.heap.size _ 0 [] rfl ?o1 (some ad2) vc T (by rw [HTl.out]; rfl) ?s1 ?n1 ?b1 ?_))
                    case o1 => exact OwnO.made _ (by simp)
                    case s1 =>
                      rw [HT.out]
                      exact opsl_take (HQ3.out.own.below (by first | exact (Below.refl _ _).drew.alloc (by simp) _ | exact ((Below.refl _ _).alloc (Nat.le_refl _) _).drew.drew | exact ((Below.refl _ _).alloc (Nat.le_refl _) _).drew | exact (Below.refl _ _).alloc (Nat.le_refl _) _)).sl (by omega)
                    case n1 => have := HTl.out; simp; omega
                    case b1 => simp
                    intro v1 b1 g1 w4 hv1 ho1 hb1 _
                    have hv1' : v1 = T := by simpa using hv1
                    have Hv1 := Lib.hid hv1'
                    have Hl1 := Lib.hid (show v1.length = r by rw [hv1']; exact HTl.out)
                    have Hx4 : Hid (Below W3.heap.size W3 w4) := Lib.hid ((by first | exact ((Below.refl _ W3).drew.alloc (by simp) _) | exact ((Below.refl _ W3).alloc (Nat.le_refl _) _).drew.drew | exact ((Below.refl _ W3).alloc (Nat.le_refl _) _).drew | exact ((Below.refl _ W3).alloc (Nat.le_refl _) _) : Below W3.heap.size W3 _).trans hb1)
                    have Ho4 := Lib.hid ho1
                    have hz4 := Hx4.out.size
                    clear hv1 ho1 hb1 hv1'
                    go_wp2_with (at_builtin; go_must (refine wpList_appO rfl _ _ rfl W3.heap.size b1 g1 v1 rfl Ho4.out sa sc u rfl (Hits.out _ (HQ3.out.own.below Hx4.out).sl) ?n3 hz4 ?_))
                    case n3 => have := Hl1.out; have := Hul.out; omega
                    intro v2 b2 g2 w5 hv2 ho2 hb2 _
                    have Hv2 := Lib.hid hv2
                    have Hl2 := Lib.hid (show v2.length = r + (V.length - (r + 1)) by rw [hv2, List.length_append, Hl1.out, Hul.out])
                    have Hx5 := Lib.hid (Hx4.out.trans hb2)
                    have Ho5 := Lib.hid ho2
                    have hz5 := Hx5.out.size
                    have kx := cells_at ((Hx5.out.block _ hxb).trans HB3.out)
                    clear hv2 ho2 hb2
                    go_wp2_with fail
                    refine And.intro (by kernel_rfl) ?_
                    go_wp2_with (at_builtin; go_must (refine wpList_appO rfl _ _ rfl W3.heap.size b2 g2 v2 rfl ?o4 (some ⟨w5.heap.size, 0, none⟩) 1 [⟨⟨2, n, x, p', ds⟩, pa, pc, da, dc⟩] rfl ?s4 ?n4 ?b4 ?_))
                    case o4 => exact Ho5.out.below ((Below.refl _ _).alloc (Nat.le_refl _) _)
                    case s4 => exact op_one ⟨⟨2, n, x, p', ds⟩, pa, pc, da, dc⟩ (heap_new w5 _)
                    case n4 => have := Hl2.out; simp; omega
                    case b4 => simp; omega
                    intro v3 b3 g3 w6 hv3 ho3 hb3 _
                    have Hx6 := Lib.hid ((Hx5.out.alloc hz5 _).trans hb3)
                    have Hv3 := Lib.hid (show v3 = (V.take r ++ V.drop (r + 1)) ++ [⟨⟨2, n, x, p', ds⟩, pa, pc, da, dc⟩] by rw [hv3, Hv2.out, Hv1.out, HT.out, Hu.out])
                    have HQ6 := Lib.hid (HQ3.out.fresh Hx6.out ho3 (fun v hv => by
                      rw [Hv3.out, List.mem_append, List.mem_append, List.mem_singleton] at hv
                      rcases hv with (hv | hv) | rfl
                      · exact .inl (List.mem_of_mem_take hv)
                      · exact .inl (List.mem_of_mem_drop hv)
                      · exact .inr (RV.old Hat0.out Hmo.out HQ3.out.bel)))
                    clear hv3 ho3 hb3 kx
                    go_wp2_with fail
                    go_roundw
                    case rel => exact JOut.next Hx.out hvl HF.out (by rw [Hv3.out, ← List.eraseIdx_eq_take_drop_succ, List.map_append, map_eraseIdx, List.map_cons, List.map_nil]; exact step_set rfl HvO.out Hl.out Hf.out) HQ6.out
                    case measure => simp [intOf]; omega
                  · dsimp only at hk
                    subst hk
                    go_wp2_with fail
                    refine And.intro (by kernel_rfl) ?_
                    go_upto_region 23 with (fail)
                    have hW3 : Below wr.heap.size wr (w2.alloc (.cells #[.int .u8 3, .slice pa' p'.length pc', .int .i64 n', .string x', .slice da' ds'.length dc'] 35 (0, 0))) := HX.out.alloc hs1 _
                    have HQ3 := Lib.hid (HQ.out.below hW3)
                    have hB3 : (w2.alloc (.cells #[.int .u8 3, .slice pa' p'.length pc', .int .i64 n', .string x', .slice da' ds'.length dc'] 35 (0, 0))).heap[w2.heap.size]? = some (.cells #[.int .u8 3, .slice pa' p'.length pc', .int .i64 n', .string x', .slice da' ds'.length dc'] 35 (0, 0)) := heap_new w2 _
                    generalize hWW : w2.alloc (.cells #[.int .u8 3, .slice pa' p'.length pc', .int .i64 n', .string x', .slice da' ds'.length dc'] 35 (0, 0)) = W3 at *
                    have hxb : w2.heap.size < W3.heap.size := heap_lt hB3
                    clear hWW
                    generalize w2.heap.size = xb at *
                    have hs3 := HQ3.out.bel.size
                    have HB3 := Lib.hid hB3
                    clear hB3 hW3
                    go_wp2_with (at_builtin; go_must (refine wpList_appO rfl _ _ rfl W3.heap.size (some ⟨W3.heap.size, 0, none⟩) 0 [] rfl ?o1 (some ad2) vc V rfl ?s1 ?n1 ?b1 ?_))
                    case o1 => exact OwnO.made _ (Nat.le_refl _)
                    case s1 => exact (HQ3.out.own.below ((Below.refl _ _).alloc (Nat.le_refl _) _)).sl
                    case n1 => simp; omega
                    case b1 => simp
                    intro v' a' c' w4 hv' ho4 hb4 hC4
                    obtain rfl : v' = V := by simpa using hv'
                    have hB5 : Below W3.heap.size W3 w4 := ((Below.refl _ _).alloc (Nat.le_refl _) _).trans hb4
                    have hQ4 := HQ3.out.fresh hB5 ho4 (fun v hv => .inl hv)
                    obtain ⟨g, rfl, hg1, hg2⟩ := OwnO.form ho4 (by omega)
                    obtain ⟨ad3, had3, ⟨e0, e1, e2, e3, e4, _⟩, hlb3⟩ := hQ4.ops.at Hv.out
                    injection had3 with had3
                    subst had3
                    have hadd : (⟨g, 0, none⟩ : Addr).add (r * 5) = ⟨g, r * 5, none⟩ := by unfold Addr.add; split <;> simp_all
                    rw [hadd] at e0 e1 e2 e3 e4
                    dsimp only at e0 e1 e2 e3 e4
                    have f4 := hQ4.own.free
                    have kx := cells_at ((hB5.block _ hxb).trans HB3.out)
                    have hR := (HQ3.out.each _ (List.mem_of_getElem? Hv.out)).below hB5 (Nat.le_trans HQ3.out.lo hs3)
                    have HRX := Lib.hid (show RV w0 w w4 ⟨⟨3, n', x', p', ds'⟩, pa', pc', da', dc'⟩ from hR)
                    have HQ4 := Lib.hid hQ4
                    have hgx : g ≠ xb := by omega
                    clear hv' ho4 hb4 hC4 hQ4 hR hB5
                    go_wp2_with fail
                    go_roundw
                    case rel =>
                      have h := JOut.next Hx.out hvl HF.out (by rw [List.map_set]; rw [set_self HvO.out]; exact step_put rfl HvO.out Hl.out) (HQ4.out.put5 hrl ⟨⟨3, n', x', p', ds'⟩, pa', pc', da', dc'⟩ HRX.out)
                      rw [List.length_set] at h
                      exact h
                    case measure => simp [intOf]; omega
                  · dsimp only at hk
                    subst hk
                    go_wp2_with fail
                    refine And.intro (by kernel_rfl) ?_
                    go_upto_region 23 with (fail)
                    have hW3 : Below wr.heap.size wr (w2.alloc (.cells #[.int .u8 4, .slice pa' p'.length pc', .int .i64 n', .string x', .slice ya y.length yc] 35 (0, 0))) := HX.out.alloc hs1 _
                    have HQ3 := Lib.hid (HQ.out.below hW3)
                    have hB3 : (w2.alloc (.cells #[.int .u8 4, .slice pa' p'.length pc', .int .i64 n', .string x', .slice ya y.length yc] 35 (0, 0))).heap[w2.heap.size]? = some (.cells #[.int .u8 4, .slice pa' p'.length pc', .int .i64 n', .string x', .slice ya y.length yc] 35 (0, 0)) := heap_new w2 _
                    have Hy := Lib.hid hy
                    have hw2 : OwnD (w2.alloc (.cells #[.int .u8 4, .slice pa' p'.length pc', .int .i64 n', .string x', .slice ya y.length yc] 35 (0, 0))) w.heap.size ya yc y := (how.below ((Below.refl _ _).alloc (Nat.le_refl _) _)).base (by simp; omega)
                    have How := Lib.hid hw2
                    clear hy how hw2
                    generalize hWW : w2.alloc (.cells #[.int .u8 4, .slice pa' p'.length pc', .int .i64 n', .string x', .slice ya y.length yc] 35 (0, 0)) = W3 at *
                    have hxb : w2.heap.size < W3.heap.size := heap_lt hB3
                    clear hWW
                    generalize w2.heap.size = xb at *
                    have hs3 := HQ3.out.bel.size
                    have HB3 := Lib.hid hB3
                    clear hB3 hW3
                    go_wp2_with (at_builtin; go_must (refine wpList_appO rfl _ _ rfl W3.heap.size (some ⟨W3.heap.size, 0, none⟩) 0 [] rfl ?o1 (some ad2) vc V rfl ?s1 ?n1 ?b1 ?_))
                    case o1 => exact OwnO.made _ (Nat.le_refl _)
                    case s1 => exact (HQ3.out.own.below ((Below.refl _ _).alloc (Nat.le_refl _) _)).sl
                    case n1 => simp; omega
                    case b1 => simp
                    intro v' a' c' w4 hv' ho4 hb4 hC4
                    obtain rfl : v' = V := by simpa using hv'
                    have hB5 : Below W3.heap.size W3 w4 := ((Below.refl _ _).alloc (Nat.le_refl _) _).trans hb4
                    have hQ4 := HQ3.out.fresh hB5 ho4 (fun v hv => .inl hv)
                    obtain ⟨g, rfl, hg1, hg2⟩ := OwnO.form ho4 (by omega)
                    obtain ⟨ad3, had3, ⟨e0, e1, e2, e3, e4, _⟩, hlb3⟩ := hQ4.ops.at Hv.out
                    injection had3 with had3
                    subst had3
                    have hadd : (⟨g, 0, none⟩ : Addr).add (r * 5) = ⟨g, r * 5, none⟩ := by unfold Addr.add; split <;> simp_all
                    rw [hadd] at e0 e1 e2 e3 e4
                    dsimp only at e0 e1 e2 e3 e4
                    have f4 := hQ4.own.free
                    have kx := cells_at ((hB5.block _ hxb).trans HB3.out)
                    have hR := (HQ3.out.each _ (List.mem_of_getElem? Hv.out)).below hB5 (Nat.le_trans HQ3.out.lo hs3)
                    have HRX := Lib.hid (show RV w0 w w4 ⟨⟨4, n', x', p', y⟩, pa', pc', ya, yc⟩ from ⟨hR.pt, .inr (How.out.below hB5), ok_both hR.ok Hat0.out.ok Hy.out, may_drop hR.may Hmo.out rfl rfl Hy.out ((Hl.out.drop rfl).2 y Hy.out)⟩)
                    have HQ4 := Lib.hid hQ4
                    have hgx : g ≠ xb := by omega
                    clear hv' ho4 hb4 hC4 hQ4 hR hB5
                    go_wp2_with fail
                    go_roundw
                    case rel =>
                      have h := JOut.next Hx.out hvl HF.out (by rw [List.map_set]; exact step_drop rfl HvO.out Hl.out Hf.out Hy.out) (HQ4.out.put5 hrl ⟨⟨4, n', x', p', y⟩, pa', pc', ya, yc⟩ HRX.out)
                      rw [List.length_set] at h
                      exact h
                    case measure => simp [intOf]; omega
                · go_wp2_with fail
                  refine (with_any ⟨⟨k', n', x', p', ds'⟩, pa', pc', da', dc'⟩ ⟨⟨k', n, x, p', ds⟩, pa, pc, da, dc⟩ _ (HR.out.at_.below ?g1) (Hat0.out.below (HQ.out.bel.trans (Below.mono ?g2 hs0))) HR.out.may Hmo.out).mono ?_
                  case g1 => first | exact (Below.refl _ _).drew | exact (Below.refl _ _).drew.alloc (by simp) _ | exact ((Below.refl _ _).alloc (Nat.le_refl _) _).drew
                  case g2 => first | exact (Below.refl _ _).drew | exact (Below.refl _ _).drew.alloc (by simp) _ | exact ((Below.refl _ _).alloc (Nat.le_refl _) _).drew
                  intro e w2 hto
                  obtain ⟨rr, z, rfl, hz, hr, hb⟩ := hto
                  obtain rfl : z = true := hz.2 Hl.out
                  have hbx : Below wr.heap.size wr w2 := by first | exact (Below.refl _ wr).drew.trans hb | exact ((Below.refl _ wr).drew.alloc (by simp) _).trans (hb.mono (by simp)) | exact ((Below.refl _ wr).alloc (Nat.le_refl _) _).drew.trans (hb.mono (by simp))
                  have HX := Lib.hid hbx
                  have hs1 := hbx.size
                  have hzb : w2.heap[wr.heap.size]? = some (.cells ozero 35 (0, 0)) := (hb.block _ (by simp)).trans (by first | exact heap_new wr _ | exact heap_new wr.drew _)
                  have z0 := cells_at hzb
                  have z1 := free_at hzb
                  have hzl := heap_lt hzb
                  have Hzb := Lib.hid hzb
                  simp only [ozero] at z0
                  clear hzb
                  have hrr := hr rfl
                  clear hz hr hb hbx c0 c1 c2 c3 c4 e0 e1 e2 e3 e4
                  rcases hrr with ⟨hk, rfl⟩ | ⟨hk, rfl⟩ | ⟨hk, rfl⟩ | ⟨hk, y, ya, yc, rfl, hy, how⟩
                  · dsimp only at hk
                    subst hk
                    go_wp2_with fail
                    refine And.intro (by kernel_rfl) ?_
                    go_upto_region 23 with (fail)
                    have hW3 : Below wr.heap.size wr (((((w2.setCell ⟨wr.heap.size, 0, none⟩ (.int .u8 1)).setCell ⟨wr.heap.size, 1, none⟩ (.slice pa' p'.length pc')).setCell ⟨wr.heap.size, 2, none⟩ (.int .i64 (n' + n))).setCell ⟨wr.heap.size, 3, none⟩ (.string x')).setCell ⟨wr.heap.size, 4, none⟩ (.slice da' ds'.length dc')) := below_five HX.out wr.heap.size (Nat.le_refl _) _ _ _ _ _
                    have HQ3 := Lib.hid (HQ.out.below hW3)
                    have hB3 : (((((w2.setCell ⟨wr.heap.size, 0, none⟩ (.int .u8 1)).setCell ⟨wr.heap.size, 1, none⟩ (.slice pa' p'.length pc')).setCell ⟨wr.heap.size, 2, none⟩ (.int .i64 (n' + n))).setCell ⟨wr.heap.size, 3, none⟩ (.string x')).setCell ⟨wr.heap.size, 4, none⟩ (.slice da' ds'.length dc')).heap[wr.heap.size]? = some (.cells #[.int .u8 1, .slice pa' p'.length pc', .int .i64 (n' + n), .string x', .slice da' ds'.length dc'] 35 (0, 0)) := heap_five Hzb.out _ _ _ _ _
                    generalize hWW : ((((w2.setCell ⟨wr.heap.size, 0, none⟩ (.int .u8 1)).setCell ⟨wr.heap.size, 1, none⟩ (.slice pa' p'.length pc')).setCell ⟨wr.heap.size, 2, none⟩ (.int .i64 (n' + n))).setCell ⟨wr.heap.size, 3, none⟩ (.string x')).setCell ⟨wr.heap.size, 4, none⟩ (.slice da' ds'.length dc') = W3 at *
                    have hxb : wr.heap.size < W3.heap.size := heap_lt hB3
                    clear hWW
                    clear z0 z1
                    generalize wr.heap.size = xb at *
                    have hs3 := HQ3.out.bel.size
                    have HB3 := Lib.hid hB3
                    clear hB3 hW3
                    go_wp2_with (at_builtin; go_must (refine wpList_appO rfl _ _ rfl W3.heap.size (some ⟨W3.heap.size, 0, none⟩) 0 [] rfl ?o1 (some ad2) vc V rfl ?s1 ?n1 ?b1 ?_))
                    case o1 => exact OwnO.made _ (Nat.le_refl _)
                    case s1 => exact (HQ3.out.own.below ((Below.refl _ _).alloc (Nat.le_refl _) _)).sl
                    case n1 => simp; omega
                    case b1 => simp
                    intro v' a' c' w4 hv' ho4 hb4 hC4
                    obtain rfl : v' = V := by simpa using hv'
                    have hB5 : Below W3.heap.size W3 w4 := ((Below.refl _ _).alloc (Nat.le_refl _) _).trans hb4
                    have hQ4 := HQ3.out.fresh hB5 ho4 (fun v hv => .inl hv)
                    obtain ⟨g, rfl, hg1, hg2⟩ := OwnO.form ho4 (by omega)
                    obtain ⟨ad3, had3, ⟨e0, e1, e2, e3, e4, _⟩, hlb3⟩ := hQ4.ops.at Hv.out
                    injection had3 with had3
                    subst had3
                    have hadd : (⟨g, 0, none⟩ : Addr).add (r * 5) = ⟨g, r * 5, none⟩ := by unfold Addr.add; split <;> simp_all
                    rw [hadd] at e0 e1 e2 e3 e4
                    dsimp only at e0 e1 e2 e3 e4
                    have f4 := hQ4.own.free
                    have kx := cells_at ((hB5.block _ hxb).trans HB3.out)
                    have hR := (HQ3.out.each _ (List.mem_of_getElem? Hv.out)).below hB5 (Nat.le_trans HQ3.out.lo hs3)
                    have HRX := Lib.hid (show RV w0 w w4 ⟨⟨1, n' + n, x', p', ds'⟩, pa', pc', da', dc'⟩ from ⟨hR.pt, hR.ds, hR.ok, may_add hR.may rfl (Hl.out.add rfl).1 (Hl.out.add rfl).2⟩)
                    have HQ4 := Lib.hid hQ4
                    have hgx : g ≠ xb := by omega
                    clear hv' ho4 hb4 hC4 hQ4 hR hB5
                    go_wp2_with fail
                    go_roundw
                    case rel =>
                      have h := JOut.next Hx.out hvl HF.out (by rw [List.map_set]; exact step_add rfl HvO.out Hl.out Hf.out) (HQ4.out.put5 hrl ⟨⟨1, n' + n, x', p', ds'⟩, pa', pc', da', dc'⟩ HRX.out)
                      rw [List.length_set] at h
                      exact h
                    case measure => simp [intOf]; omega
                  · dsimp only at hk
                    subst hk
                    go_wp2_with fail
                    refine And.intro (by kernel_rfl) ?_
                    go_upto_region 21 with (fail)
                    have hW3 : Below wr.heap.size wr (((((w2.setCell ⟨wr.heap.size, 0, none⟩ (.int .u8 2)).setCell ⟨wr.heap.size, 1, none⟩ (.slice pa p'.length pc)).setCell ⟨wr.heap.size, 2, none⟩ (.int .i64 n)).setCell ⟨wr.heap.size, 3, none⟩ (.string x)).setCell ⟨wr.heap.size, 4, none⟩ (.slice da ds.length dc)) := below_five HX.out wr.heap.size (Nat.le_refl _) _ _ _ _ _
                    have HQ3 := Lib.hid (HQ.out.below hW3)
                    have hB3 : (((((w2.setCell ⟨wr.heap.size, 0, none⟩ (.int .u8 2)).setCell ⟨wr.heap.size, 1, none⟩ (.slice pa p'.length pc)).setCell ⟨wr.heap.size, 2, none⟩ (.int .i64 n)).setCell ⟨wr.heap.size, 3, none⟩ (.string x)).setCell ⟨wr.heap.size, 4, none⟩ (.slice da ds.length dc)).heap[wr.heap.size]? = some (.cells #[.int .u8 2, .slice pa p'.length pc, .int .i64 n, .string x, .slice da ds.length dc] 35 (0, 0)) := heap_five Hzb.out _ _ _ _ _
                    generalize hWW : ((((w2.setCell ⟨wr.heap.size, 0, none⟩ (.int .u8 2)).setCell ⟨wr.heap.size, 1, none⟩ (.slice pa p'.length pc)).setCell ⟨wr.heap.size, 2, none⟩ (.int .i64 n)).setCell ⟨wr.heap.size, 3, none⟩ (.string x)).setCell ⟨wr.heap.size, 4, none⟩ (.slice da ds.length dc) = W3 at *
                    have hxb : wr.heap.size < W3.heap.size := heap_lt hB3
                    clear hWW
                    clear z0 z1
                    generalize wr.heap.size = xb at *
                    have hs3 := HQ3.out.bel.size
                    have HB3 := Lib.hid hB3
                    clear hB3 hW3
                    obtain ⟨sa, sc, u, hu, hsl, hits⟩ := cutO (some ad2) vc V (r + 1) (by omega) hcv
                    have hhi := slice_hiO (some ad2) V.length vc r (by omega)
                    have hsl2 : ∀ W : World, (Instr.sliceAt 48 (.slice (some ad2) V.length vc) (some (.int .i64 ((r : Int) + 1))) none none).run Try.prog W = .ok (.slice sa (List.length u) sc) W := fun W => hsl W
                    have Hits := Lib.hid hits
                    have Hu := Lib.hid hu
                    have Hul := Lib.hid (show u.length = V.length - (r + 1) by rw [hu]; simp)
                    obtain ⟨T, hT⟩ : ∃ T, T = V.take r := ⟨_, rfl⟩
                    have HTl := Lib.hid (show T.length = r by rw [hT, List.length_take]; omega)
                    have HT := Lib.hid hT
                    clear hits hu hT
                    refine region_text [([1, 2, 3, 5, 6, 7, 8, 0, 4, 9, 10], false)] mixed (by kernel_rfl) ?_
                    simp only [wpSegs, List.map_cons, List.map_nil, List.getD_cons_succ, List.getD_cons_zero]
                    go_wp2_with (at_builtin; go_must (refine wpList_appO rfl _ _ rfl W3.heap.size _ 0 [] rfl ?o1 (some ad2) vc T (by rw [HTl.out]; rfl) ?s1 ?n1 ?b1 ?_))
                    case o1 => exact OwnO.made _ (by simp)
                    case s1 =>
                      rw [HT.out]
                      exact opsl_take (HQ3.out.own.below (by first | exact (Below.refl _ _).drew.alloc (by simp) _ | exact ((Below.refl _ _).alloc (Nat.le_refl _) _).drew.drew | exact ((Below.refl _ _).alloc (Nat.le_refl _) _).drew | exact (Below.refl _ _).alloc (Nat.le_refl _) _)).sl (by omega)
                    case n1 => have := HTl.out; simp; omega
                    case b1 => simp
                    intro v1 b1 g1 w4 hv1 ho1 hb1 _
                    have hv1' : v1 = T := by simpa using hv1
                    have Hv1 := Lib.hid hv1'
                    have Hl1 := Lib.hid (show v1.length = r by rw [hv1']; exact HTl.out)
                    have Hx4 : Hid (Below W3.heap.size W3 w4) := Lib.hid ((by first | exact ((Below.refl _ W3).drew.alloc (by simp) _) | exact ((Below.refl _ W3).alloc (Nat.le_refl _) _).drew.drew | exact ((Below.refl _ W3).alloc (Nat.le_refl _) _).drew | exact ((Below.refl _ W3).alloc (Nat.le_refl _) _) : Below W3.heap.size W3 _).trans hb1)
                    have Ho4 := Lib.hid ho1
                    have hz4 := Hx4.out.size
                    clear hv1 ho1 hb1 hv1'
                    go_wp2_with (at_builtin; go_must (refine wpList_appO rfl _ _ rfl W3.heap.size b1 g1 v1 rfl Ho4.out sa sc u rfl (Hits.out _ (HQ3.out.own.below Hx4.out).sl) ?n3 hz4 ?_))
                    case n3 => have := Hl1.out; have := Hul.out; omega
                    intro v2 b2 g2 w5 hv2 ho2 hb2 _
                    have Hv2 := Lib.hid hv2
                    have Hl2 := Lib.hid (show v2.length = r + (V.length - (r + 1)) by rw [hv2, List.length_append, Hl1.out, Hul.out])
                    have Hx5 := Lib.hid (Hx4.out.trans hb2)
                    have Ho5 := Lib.hid ho2
                    have hz5 := Hx5.out.size
                    have kx := cells_at ((Hx5.out.block _ hxb).trans HB3.out)
                    clear hv2 ho2 hb2
                    go_wp2_with fail
                    refine And.intro (by kernel_rfl) ?_
                    go_wp2_with (at_builtin; go_must (refine wpList_appO rfl _ _ rfl W3.heap.size b2 g2 v2 rfl ?o4 (some ⟨w5.heap.size, 0, none⟩) 1 [⟨⟨2, n, x, p', ds⟩, pa, pc, da, dc⟩] rfl ?s4 ?n4 ?b4 ?_))
                    case o4 => exact Ho5.out.below ((Below.refl _ _).alloc (Nat.le_refl _) _)
                    case s4 => exact op_one ⟨⟨2, n, x, p', ds⟩, pa, pc, da, dc⟩ (heap_new w5 _)
                    case n4 => have := Hl2.out; simp; omega
                    case b4 => simp; omega
                    intro v3 b3 g3 w6 hv3 ho3 hb3 _
                    have Hx6 := Lib.hid ((Hx5.out.alloc hz5 _).trans hb3)
                    have Hv3 := Lib.hid (show v3 = (V.take r ++ V.drop (r + 1)) ++ [⟨⟨2, n, x, p', ds⟩, pa, pc, da, dc⟩] by rw [hv3, Hv2.out, Hv1.out, HT.out, Hu.out])
                    have HQ6 := Lib.hid (HQ3.out.fresh Hx6.out ho3 (fun v hv => by
                      rw [Hv3.out, List.mem_append, List.mem_append, List.mem_singleton] at hv
                      rcases hv with (hv | hv) | rfl
                      · exact .inl (List.mem_of_mem_take hv)
                      · exact .inl (List.mem_of_mem_drop hv)
                      · exact .inr (RV.old Hat0.out Hmo.out HQ3.out.bel)))
                    clear hv3 ho3 hb3 kx
                    go_wp2_with fail
                    go_roundw
                    case rel => exact JOut.next Hx.out hvl HF.out (by rw [Hv3.out, ← List.eraseIdx_eq_take_drop_succ, List.map_append, map_eraseIdx, List.map_cons, List.map_nil]; exact step_set rfl HvO.out Hl.out Hf.out) HQ6.out
                    case measure => simp [intOf]; omega
                  · dsimp only at hk
                    subst hk
                    go_wp2_with fail
                    refine And.intro (by kernel_rfl) ?_
                    go_upto_region 23 with (fail)
                    have hW3 : Below wr.heap.size wr (((((w2.setCell ⟨wr.heap.size, 0, none⟩ (.int .u8 3)).setCell ⟨wr.heap.size, 1, none⟩ (.slice pa' p'.length pc')).setCell ⟨wr.heap.size, 2, none⟩ (.int .i64 n')).setCell ⟨wr.heap.size, 3, none⟩ (.string x')).setCell ⟨wr.heap.size, 4, none⟩ (.slice da' ds'.length dc')) := below_five HX.out wr.heap.size (Nat.le_refl _) _ _ _ _ _
                    have HQ3 := Lib.hid (HQ.out.below hW3)
                    have hB3 : (((((w2.setCell ⟨wr.heap.size, 0, none⟩ (.int .u8 3)).setCell ⟨wr.heap.size, 1, none⟩ (.slice pa' p'.length pc')).setCell ⟨wr.heap.size, 2, none⟩ (.int .i64 n')).setCell ⟨wr.heap.size, 3, none⟩ (.string x')).setCell ⟨wr.heap.size, 4, none⟩ (.slice da' ds'.length dc')).heap[wr.heap.size]? = some (.cells #[.int .u8 3, .slice pa' p'.length pc', .int .i64 n', .string x', .slice da' ds'.length dc'] 35 (0, 0)) := heap_five Hzb.out _ _ _ _ _
                    generalize hWW : ((((w2.setCell ⟨wr.heap.size, 0, none⟩ (.int .u8 3)).setCell ⟨wr.heap.size, 1, none⟩ (.slice pa' p'.length pc')).setCell ⟨wr.heap.size, 2, none⟩ (.int .i64 n')).setCell ⟨wr.heap.size, 3, none⟩ (.string x')).setCell ⟨wr.heap.size, 4, none⟩ (.slice da' ds'.length dc') = W3 at *
                    have hxb : wr.heap.size < W3.heap.size := heap_lt hB3
                    clear hWW
                    clear z0 z1
                    generalize wr.heap.size = xb at *
                    have hs3 := HQ3.out.bel.size
                    have HB3 := Lib.hid hB3
                    clear hB3 hW3
                    go_wp2_with (at_builtin; go_must (refine wpList_appO rfl _ _ rfl W3.heap.size (some ⟨W3.heap.size, 0, none⟩) 0 [] rfl ?o1 (some ad2) vc V rfl ?s1 ?n1 ?b1 ?_))
                    case o1 => exact OwnO.made _ (Nat.le_refl _)
                    case s1 => exact (HQ3.out.own.below ((Below.refl _ _).alloc (Nat.le_refl _) _)).sl
                    case n1 => simp; omega
                    case b1 => simp
                    intro v' a' c' w4 hv' ho4 hb4 hC4
                    obtain rfl : v' = V := by simpa using hv'
                    have hB5 : Below W3.heap.size W3 w4 := ((Below.refl _ _).alloc (Nat.le_refl _) _).trans hb4
                    have hQ4 := HQ3.out.fresh hB5 ho4 (fun v hv => .inl hv)
                    obtain ⟨g, rfl, hg1, hg2⟩ := OwnO.form ho4 (by omega)
                    obtain ⟨ad3, had3, ⟨e0, e1, e2, e3, e4, _⟩, hlb3⟩ := hQ4.ops.at Hv.out
                    injection had3 with had3
                    subst had3
                    have hadd : (⟨g, 0, none⟩ : Addr).add (r * 5) = ⟨g, r * 5, none⟩ := by unfold Addr.add; split <;> simp_all
                    rw [hadd] at e0 e1 e2 e3 e4
                    dsimp only at e0 e1 e2 e3 e4
                    have f4 := hQ4.own.free
                    have kx := cells_at ((hB5.block _ hxb).trans HB3.out)
                    have hR := (HQ3.out.each _ (List.mem_of_getElem? Hv.out)).below hB5 (Nat.le_trans HQ3.out.lo hs3)
                    have HRX := Lib.hid (show RV w0 w w4 ⟨⟨3, n', x', p', ds'⟩, pa', pc', da', dc'⟩ from hR)
                    have HQ4 := Lib.hid hQ4
                    have hgx : g ≠ xb := by omega
                    clear hv' ho4 hb4 hC4 hQ4 hR hB5
                    go_wp2_with fail
                    go_roundw
                    case rel =>
                      have h := JOut.next Hx.out hvl HF.out (by rw [List.map_set]; rw [set_self HvO.out]; exact step_put rfl HvO.out Hl.out) (HQ4.out.put5 hrl ⟨⟨3, n', x', p', ds'⟩, pa', pc', da', dc'⟩ HRX.out)
                      rw [List.length_set] at h
                      exact h
                    case measure => simp [intOf]; omega
                  · dsimp only at hk
                    subst hk
                    go_wp2_with fail
                    refine And.intro (by kernel_rfl) ?_
                    go_upto_region 23 with (fail)
                    have hW3 : Below wr.heap.size wr (((((w2.setCell ⟨wr.heap.size, 0, none⟩ (.int .u8 4)).setCell ⟨wr.heap.size, 1, none⟩ (.slice pa' p'.length pc')).setCell ⟨wr.heap.size, 2, none⟩ (.int .i64 n')).setCell ⟨wr.heap.size, 3, none⟩ (.string x')).setCell ⟨wr.heap.size, 4, none⟩ (.slice ya y.length yc)) := below_five HX.out wr.heap.size (Nat.le_refl _) _ _ _ _ _
                    have HQ3 := Lib.hid (HQ.out.below hW3)
                    have hB3 : (((((w2.setCell ⟨wr.heap.size, 0, none⟩ (.int .u8 4)).setCell ⟨wr.heap.size, 1, none⟩ (.slice pa' p'.length pc')).setCell ⟨wr.heap.size, 2, none⟩ (.int .i64 n')).setCell ⟨wr.heap.size, 3, none⟩ (.string x')).setCell ⟨wr.heap.size, 4, none⟩ (.slice ya y.length yc)).heap[wr.heap.size]? = some (.cells #[.int .u8 4, .slice pa' p'.length pc', .int .i64 n', .string x', .slice ya y.length yc] 35 (0, 0)) := heap_five Hzb.out _ _ _ _ _
                    have Hy := Lib.hid hy
                    have hw2 : OwnD (((((w2.setCell ⟨wr.heap.size, 0, none⟩ (.int .u8 4)).setCell ⟨wr.heap.size, 1, none⟩ (.slice pa' p'.length pc')).setCell ⟨wr.heap.size, 2, none⟩ (.int .i64 n')).setCell ⟨wr.heap.size, 3, none⟩ (.string x')).setCell ⟨wr.heap.size, 4, none⟩ (.slice ya y.length yc)) w.heap.size ya yc y := (ownD_set5 how wr.heap.size (by simp) _ _ _ _ _).base (by simp; omega)
                    have How := Lib.hid hw2
                    clear hy how hw2
                    generalize hWW : ((((w2.setCell ⟨wr.heap.size, 0, none⟩ (.int .u8 4)).setCell ⟨wr.heap.size, 1, none⟩ (.slice pa' p'.length pc')).setCell ⟨wr.heap.size, 2, none⟩ (.int .i64 n')).setCell ⟨wr.heap.size, 3, none⟩ (.string x')).setCell ⟨wr.heap.size, 4, none⟩ (.slice ya y.length yc) = W3 at *
                    have hxb : wr.heap.size < W3.heap.size := heap_lt hB3
                    clear hWW
                    clear z0 z1
                    generalize wr.heap.size = xb at *
                    have hs3 := HQ3.out.bel.size
                    have HB3 := Lib.hid hB3
                    clear hB3 hW3
                    go_wp2_with (at_builtin; go_must (refine wpList_appO rfl _ _ rfl W3.heap.size (some ⟨W3.heap.size, 0, none⟩) 0 [] rfl ?o1 (some ad2) vc V rfl ?s1 ?n1 ?b1 ?_))
                    case o1 => exact OwnO.made _ (Nat.le_refl _)
                    case s1 => exact (HQ3.out.own.below ((Below.refl _ _).alloc (Nat.le_refl _) _)).sl
                    case n1 => simp; omega
                    case b1 => simp
                    intro v' a' c' w4 hv' ho4 hb4 hC4
                    obtain rfl : v' = V := by simpa using hv'
                    have hB5 : Below W3.heap.size W3 w4 := ((Below.refl _ _).alloc (Nat.le_refl _) _).trans hb4
                    have hQ4 := HQ3.out.fresh hB5 ho4 (fun v hv => .inl hv)
                    obtain ⟨g, rfl, hg1, hg2⟩ := OwnO.form ho4 (by omega)
                    obtain ⟨ad3, had3, ⟨e0, e1, e2, e3, e4, _⟩, hlb3⟩ := hQ4.ops.at Hv.out
                    injection had3 with had3
                    subst had3
                    have hadd : (⟨g, 0, none⟩ : Addr).add (r * 5) = ⟨g, r * 5, none⟩ := by unfold Addr.add; split <;> simp_all
                    rw [hadd] at e0 e1 e2 e3 e4
                    dsimp only at e0 e1 e2 e3 e4
                    have f4 := hQ4.own.free
                    have kx := cells_at ((hB5.block _ hxb).trans HB3.out)
                    have hR := (HQ3.out.each _ (List.mem_of_getElem? Hv.out)).below hB5 (Nat.le_trans HQ3.out.lo hs3)
                    have HRX := Lib.hid (show RV w0 w w4 ⟨⟨4, n', x', p', y⟩, pa', pc', ya, yc⟩ from ⟨hR.pt, .inr (How.out.below hB5), ok_both hR.ok Hat0.out.ok Hy.out, may_drop hR.may Hmo.out rfl rfl Hy.out ((Hl.out.drop rfl).2 y Hy.out)⟩)
                    have HQ4 := Lib.hid hQ4
                    have hgx : g ≠ xb := by omega
                    clear hv' ho4 hb4 hC4 hQ4 hR hB5
                    go_wp2_with fail
                    go_roundw
                    case rel =>
                      have h := JOut.next Hx.out hvl HF.out (by rw [List.map_set]; exact step_drop rfl HvO.out Hl.out Hf.out Hy.out) (HQ4.out.put5 hrl ⟨⟨4, n', x', p', y⟩, pa', pc', ya, yc⟩ HRX.out)
                      rw [List.length_set] at h
                      exact h
                    case measure => simp [intOf]; omega
              | false =>
                go_upto_region 19 with (fail)
                refine region_tree (.seg [0, 1, 2, 3, 4, 5, 6, 7] false (.fork (.seg [8, 9, 10, 11, 12, 13, 14] false .done) (.seg [12, 8, 9, 10, 11, 13, 14] false .done))) mixed (by kernel_rfl) ?_
                simp only [wpSg, List.map_cons, List.map_nil, List.getD_cons_succ, List.getD_cons_zero]
                go_wp2_with fail
                refine And.intro ?_ ?_
                · go_wp2_with fail
                  refine (with_any ⟨⟨k', n', x', p', ds'⟩, pa', pc', da', dc'⟩ ⟨⟨k', n, x, p', ds⟩, pa, pc, da, dc⟩ _ (HR.out.at_.below ?g1) (Hat0.out.below (HQ.out.bel.trans (Below.mono ?g2 hs0))) HR.out.may Hmo.out).mono ?_
                  case g1 => first | exact (Below.refl _ _).drew | exact (Below.refl _ _).drew.alloc (by simp) _ | exact ((Below.refl _ _).alloc (Nat.le_refl _) _).drew
                  case g2 => first | exact (Below.refl _ _).drew | exact (Below.refl _ _).drew.alloc (by simp) _ | exact ((Below.refl _ _).alloc (Nat.le_refl _) _).drew
                  intro e w2 hto
                  obtain ⟨rr, z, rfl, hz, hr, hb⟩ := hto
                  obtain rfl : z = true := hz.2 Hl.out
                  have hbx : Below wr.heap.size wr w2 := by first | exact (Below.refl _ wr).drew.trans hb | exact ((Below.refl _ wr).drew.alloc (by simp) _).trans (hb.mono (by simp)) | exact ((Below.refl _ wr).alloc (Nat.le_refl _) _).drew.trans (hb.mono (by simp))
                  have HX := Lib.hid hbx
                  have hs1 := hbx.size
                  have hrr := hr rfl
                  clear hz hr hb hbx c0 c1 c2 c3 c4 e0 e1 e2 e3 e4
                  rcases hrr with ⟨hk, rfl⟩ | ⟨hk, rfl⟩ | ⟨hk, rfl⟩ | ⟨hk, y, ya, yc, rfl, hy, how⟩
                  · dsimp only at hk
                    subst hk
                    go_wp2_with fail
                    refine And.intro (by kernel_rfl) ?_
                    go_upto_region 23 with (fail)
                    have hW3 : Below wr.heap.size wr (w2.alloc (.cells #[.int .u8 1, .slice pa' p'.length pc', .int .i64 (n' + n), .string x', .slice da' ds'.length dc'] 35 (0, 0))) := HX.out.alloc hs1 _
                    have HQ3 := Lib.hid (HQ.out.below hW3)
                    have hB3 : (w2.alloc (.cells #[.int .u8 1, .slice pa' p'.length pc', .int .i64 (n' + n), .string x', .slice da' ds'.length dc'] 35 (0, 0))).heap[w2.heap.size]? = some (.cells #[.int .u8 1, .slice pa' p'.length pc', .int .i64 (n' + n), .string x', .slice da' ds'.length dc'] 35 (0, 0)) := heap_new w2 _
                    generalize hWW : w2.alloc (.cells #[.int .u8 1, .slice pa' p'.length pc', .int .i64 (n' + n), .string x', .slice da' ds'.length dc'] 35 (0, 0)) = W3 at *
                    have hxb : w2.heap.size < W3.heap.size := heap_lt hB3
                    clear hWW
                    generalize w2.heap.size = xb at *
                    have hs3 := HQ3.out.bel.size
                    have HB3 := Lib.hid hB3
                    clear hB3 hW3
                    go_wp2_with (at_builtin; go_must (refine wpList_appO rfl _ _ rfl W3.heap.size (some ⟨W3.heap.size, 0, none⟩) 0 [] rfl ?o1 (some ad2) vc V rfl ?s1 ?n1 ?b1 ?_))
                    case o1 => exact OwnO.made _ (Nat.le_refl _)
                    case s1 => exact (HQ3.out.own.below ((Below.refl _ _).alloc (Nat.le_refl _) _)).sl
                    case n1 => simp; omega
                    case b1 => simp
                    intro v' a' c' w4 hv' ho4 hb4 hC4
                    obtain rfl : v' = V := by simpa using hv'
                    have hB5 : Below W3.heap.size W3 w4 := ((Below.refl _ _).alloc (Nat.le_refl _) _).trans hb4
                    have hQ4 := HQ3.out.fresh hB5 ho4 (fun v hv => .inl hv)
                    obtain ⟨g, rfl, hg1, hg2⟩ := OwnO.form ho4 (by omega)
                    obtain ⟨ad3, had3, ⟨e0, e1, e2, e3, e4, _⟩, hlb3⟩ := hQ4.ops.at Hv.out
                    injection had3 with had3
                    subst had3
                    have hadd : (⟨g, 0, none⟩ : Addr).add (r * 5) = ⟨g, r * 5, none⟩ := by unfold Addr.add; split <;> simp_all
                    rw [hadd] at e0 e1 e2 e3 e4
                    dsimp only at e0 e1 e2 e3 e4
                    have f4 := hQ4.own.free
                    have kx := cells_at ((hB5.block _ hxb).trans HB3.out)
                    have hR := (HQ3.out.each _ (List.mem_of_getElem? Hv.out)).below hB5 (Nat.le_trans HQ3.out.lo hs3)
                    have HRX := Lib.hid (show RV w0 w w4 ⟨⟨1, n' + n, x', p', ds'⟩, pa', pc', da', dc'⟩ from ⟨hR.pt, hR.ds, hR.ok, may_add hR.may rfl (Hl.out.add rfl).1 (Hl.out.add rfl).2⟩)
                    have HQ4 := Lib.hid hQ4
                    have hgx : g ≠ xb := by omega
                    clear hv' ho4 hb4 hC4 hQ4 hR hB5
                    go_wp2_with fail
                    go_roundw
                    case rel =>
                      have h := JOut.next Hx.out hvl HF.out (by rw [List.map_set]; exact step_add rfl HvO.out Hl.out Hf.out) (HQ4.out.put5 hrl ⟨⟨1, n' + n, x', p', ds'⟩, pa', pc', da', dc'⟩ HRX.out)
                      rw [List.length_set] at h
                      exact h
                    case measure => simp [intOf]; omega
                  · dsimp only at hk
                    subst hk
                    go_wp2_with fail
                    refine And.intro (by kernel_rfl) ?_
                    go_upto_region 21 with (fail)
                    have hW3 : Below wr.heap.size wr (w2.alloc (.cells #[.int .u8 2, .slice pa p'.length pc, .int .i64 n, .string x, .slice da ds.length dc] 35 (0, 0))) := HX.out.alloc hs1 _
                    have HQ3 := Lib.hid (HQ.out.below hW3)
                    have hB3 : (w2.alloc (.cells #[.int .u8 2, .slice pa p'.length pc, .int .i64 n, .string x, .slice da ds.length dc] 35 (0, 0))).heap[w2.heap.size]? = some (.cells #[.int .u8 2, .slice pa p'.length pc, .int .i64 n, .string x, .slice da ds.length dc] 35 (0, 0)) := heap_new w2 _
                    generalize hWW : w2.alloc (.cells #[.int .u8 2, .slice pa p'.length pc, .int .i64 n, .string x, .slice da ds.length dc] 35 (0, 0)) = W3 at *
                    have hxb : w2.heap.size < W3.heap.size := heap_lt hB3
                    clear hWW
                    generalize w2.heap.size = xb at *
                    have hs3 := HQ3.out.bel.size
                    have HB3 := Lib.hid hB3
                    clear hB3 hW3
                    obtain ⟨sa, sc, u, hu, hsl, hits⟩ := cutO (some ad2) vc V (r + 1) (by omega) hcv
                    have hhi := slice_hiO (some ad2) V.length vc r (by omega)
                    have hsl2 : ∀ W : World, (Instr.sliceAt 48 (.slice (some ad2) V.length vc) (some (.int .i64 ((r : Int) + 1))) none none).run Try.prog W = .ok (.slice sa (List.length u) sc) W := fun W => hsl W
                    have Hits := Lib.hid hits
                    have Hu := Lib.hid hu
                    have Hul := Lib.hid (show u.length = V.length - (r + 1) by rw [hu]; simp)
                    obtain ⟨T, hT⟩ : ∃ T, T = V.take r := ⟨_, rfl⟩
                    have HTl := Lib.hid (show T.length = r by rw [hT, List.length_take]; omega)
                    have HT := Lib.hid hT
                    clear hits hu hT
                    refine region_text [([1, 2, 3, 5, 6, 7, 8, 0, 4, 9, 10], false)] mixed (by kernel_rfl) ?_
                    simp only [wpSegs, List.map_cons, List.map_nil, List.getD_cons_succ, List.getD_cons_zero]
                    go_wp2_with (at_builtin; go_must (refine wpList_appO rfl _ _ rfl W3.heap.size _ 0 [] rfl ?o1 (some ad2) vc T (by rw [HTl.out]; rfl) ?s1 ?n1 ?b1 ?_))
                    case o1 => exact OwnO.made _ (by simp)
                    case s1 =>
                      rw [HT.out]
                      exact opsl_take (HQ3.out.own.below (by first | exact (Below.refl _ _).drew.alloc (by simp) _ | exact ((Below.refl _ _).alloc (Nat.le_refl _) _).drew.drew | exact ((Below.refl _ _).alloc (Nat.le_refl _) _).drew | exact (Below.refl _ _).alloc (Nat.le_refl _) _)).sl (by omega)
                    case n1 => have := HTl.out; simp; omega
                    case b1 => simp
                    intro v1 b1 g1 w4 hv1 ho1 hb1 _
                    have hv1' : v1 = T := by simpa using hv1
                    have Hv1 := Lib.hid hv1'
                    have Hl1 := Lib.hid (show v1.length = r by rw [hv1']; exact HTl.out)
                    have Hx4 : Hid (Below W3.heap.size W3 w4) := Lib.hid ((by first | exact ((Below.refl _ W3).drew.alloc (by simp) _) | exact ((Below.refl _ W3).alloc (Nat.le_refl _) _).drew.drew | exact ((Below.refl _ W3).alloc (Nat.le_refl _) _).drew | exact ((Below.refl _ W3).alloc (Nat.le_refl _) _) : Below W3.heap.size W3 _).trans hb1)
                    have Ho4 := Lib.hid ho1
                    have hz4 := Hx4.out.size
                    clear hv1 ho1 hb1 hv1'
                    go_wp2_with (at_builtin; go_must (refine wpList_appO rfl _ _ rfl W3.heap.size b1 g1 v1 rfl Ho4.out sa sc u rfl (Hits.out _ (HQ3.out.own.below Hx4.out).sl) ?n3 hz4 ?_))
                    case n3 => have := Hl1.out; have := Hul.out; omega
                    intro v2 b2 g2 w5 hv2 ho2 hb2 _
                    have Hv2 := Lib.hid hv2
                    have Hl2 := Lib.hid (show v2.length = r + (V.length - (r + 1)) by rw [hv2, List.length_append, Hl1.out, Hul.out])
                    have Hx5 := Lib.hid (Hx4.out.trans hb2)
                    have Ho5 := Lib.hid ho2
                    have hz5 := Hx5.out.size
                    have kx := cells_at ((Hx5.out.block _ hxb).trans HB3.out)
                    clear hv2 ho2 hb2
                    go_wp2_with fail
                    refine And.intro (by kernel_rfl) ?_
                    go_wp2_with (at_builtin; go_must (refine wpList_appO rfl _ _ rfl W3.heap.size b2 g2 v2 rfl ?o4 (some ⟨w5.heap.size, 0, none⟩) 1 [⟨⟨2, n, x, p', ds⟩, pa, pc, da, dc⟩] rfl ?s4 ?n4 ?b4 ?_))
                    case o4 => exact Ho5.out.below ((Below.refl _ _).alloc (Nat.le_refl _) _)
                    case s4 => exact op_one ⟨⟨2, n, x, p', ds⟩, pa, pc, da, dc⟩ (heap_new w5 _)
                    case n4 => have := Hl2.out; simp; omega
                    case b4 => simp; omega
                    intro v3 b3 g3 w6 hv3 ho3 hb3 _
                    have Hx6 := Lib.hid ((Hx5.out.alloc hz5 _).trans hb3)
                    have Hv3 := Lib.hid (show v3 = (V.take r ++ V.drop (r + 1)) ++ [⟨⟨2, n, x, p', ds⟩, pa, pc, da, dc⟩] by rw [hv3, Hv2.out, Hv1.out, HT.out, Hu.out])
                    have HQ6 := Lib.hid (HQ3.out.fresh Hx6.out ho3 (fun v hv => by
                      rw [Hv3.out, List.mem_append, List.mem_append, List.mem_singleton] at hv
                      rcases hv with (hv | hv) | rfl
                      · exact .inl (List.mem_of_mem_take hv)
                      · exact .inl (List.mem_of_mem_drop hv)
                      · exact .inr (RV.old Hat0.out Hmo.out HQ3.out.bel)))
                    clear hv3 ho3 hb3 kx
                    go_wp2_with fail
                    go_roundw
                    case rel => exact JOut.next Hx.out hvl HF.out (by rw [Hv3.out, ← List.eraseIdx_eq_take_drop_succ, List.map_append, map_eraseIdx, List.map_cons, List.map_nil]; exact step_set rfl HvO.out Hl.out Hf.out) HQ6.out
                    case measure => simp [intOf]; omega
                  · dsimp only at hk
                    subst hk
                    go_wp2_with fail
                    refine And.intro (by kernel_rfl) ?_
                    go_upto_region 23 with (fail)
                    have hW3 : Below wr.heap.size wr (w2.alloc (.cells #[.int .u8 3, .slice pa' p'.length pc', .int .i64 n', .string x', .slice da' ds'.length dc'] 35 (0, 0))) := HX.out.alloc hs1 _
                    have HQ3 := Lib.hid (HQ.out.below hW3)
                    have hB3 : (w2.alloc (.cells #[.int .u8 3, .slice pa' p'.length pc', .int .i64 n', .string x', .slice da' ds'.length dc'] 35 (0, 0))).heap[w2.heap.size]? = some (.cells #[.int .u8 3, .slice pa' p'.length pc', .int .i64 n', .string x', .slice da' ds'.length dc'] 35 (0, 0)) := heap_new w2 _
                    generalize hWW : w2.alloc (.cells #[.int .u8 3, .slice pa' p'.length pc', .int .i64 n', .string x', .slice da' ds'.length dc'] 35 (0, 0)) = W3 at *
                    have hxb : w2.heap.size < W3.heap.size := heap_lt hB3
                    clear hWW
                    generalize w2.heap.size = xb at *
                    have hs3 := HQ3.out.bel.size
                    have HB3 := Lib.hid hB3
                    clear hB3 hW3
                    go_wp2_with (at_builtin; go_must (refine wpList_appO rfl _ _ rfl W3.heap.size (some ⟨W3.heap.size, 0, none⟩) 0 [] rfl ?o1 (some ad2) vc V rfl ?s1 ?n1 ?b1 ?_))
                    case o1 => exact OwnO.made _ (Nat.le_refl _)
                    case s1 => exact (HQ3.out.own.below ((Below.refl _ _).alloc (Nat.le_refl _) _)).sl
                    case n1 => simp; omega
                    case b1 => simp
                    intro v' a' c' w4 hv' ho4 hb4 hC4
                    obtain rfl : v' = V := by simpa using hv'
                    have hB5 : Below W3.heap.size W3 w4 := ((Below.refl _ _).alloc (Nat.le_refl _) _).trans hb4
                    have hQ4 := HQ3.out.fresh hB5 ho4 (fun v hv => .inl hv)
                    obtain ⟨g, rfl, hg1, hg2⟩ := OwnO.form ho4 (by omega)
                    obtain ⟨ad3, had3, ⟨e0, e1, e2, e3, e4, _⟩, hlb3⟩ := hQ4.ops.at Hv.out
                    injection had3 with had3
                    subst had3
                    have hadd : (⟨g, 0, none⟩ : Addr).add (r * 5) = ⟨g, r * 5, none⟩ := by unfold Addr.add; split <;> simp_all
                    rw [hadd] at e0 e1 e2 e3 e4
                    dsimp only at e0 e1 e2 e3 e4
                    have f4 := hQ4.own.free
                    have kx := cells_at ((hB5.block _ hxb).trans HB3.out)
                    have hR := (HQ3.out.each _ (List.mem_of_getElem? Hv.out)).below hB5 (Nat.le_trans HQ3.out.lo hs3)
                    have HRX := Lib.hid (show RV w0 w w4 ⟨⟨3, n', x', p', ds'⟩, pa', pc', da', dc'⟩ from hR)
                    have HQ4 := Lib.hid hQ4
                    have hgx : g ≠ xb := by omega
                    clear hv' ho4 hb4 hC4 hQ4 hR hB5
                    go_wp2_with fail
                    go_roundw
                    case rel =>
                      have h := JOut.next Hx.out hvl HF.out (by rw [List.map_set]; rw [set_self HvO.out]; exact step_put rfl HvO.out Hl.out) (HQ4.out.put5 hrl ⟨⟨3, n', x', p', ds'⟩, pa', pc', da', dc'⟩ HRX.out)
                      rw [List.length_set] at h
                      exact h
                    case measure => simp [intOf]; omega
                  · dsimp only at hk
                    subst hk
                    go_wp2_with fail
                    refine And.intro (by kernel_rfl) ?_
                    go_upto_region 23 with (fail)
                    have hW3 : Below wr.heap.size wr (w2.alloc (.cells #[.int .u8 4, .slice pa' p'.length pc', .int .i64 n', .string x', .slice ya y.length yc] 35 (0, 0))) := HX.out.alloc hs1 _
                    have HQ3 := Lib.hid (HQ.out.below hW3)
                    have hB3 : (w2.alloc (.cells #[.int .u8 4, .slice pa' p'.length pc', .int .i64 n', .string x', .slice ya y.length yc] 35 (0, 0))).heap[w2.heap.size]? = some (.cells #[.int .u8 4, .slice pa' p'.length pc', .int .i64 n', .string x', .slice ya y.length yc] 35 (0, 0)) := heap_new w2 _
                    have Hy := Lib.hid hy
                    have hw2 : OwnD (w2.alloc (.cells #[.int .u8 4, .slice pa' p'.length pc', .int .i64 n', .string x', .slice ya y.length yc] 35 (0, 0))) w.heap.size ya yc y := (how.below ((Below.refl _ _).alloc (Nat.le_refl _) _)).base (by simp; omega)
                    have How := Lib.hid hw2
                    clear hy how hw2
                    generalize hWW : w2.alloc (.cells #[.int .u8 4, .slice pa' p'.length pc', .int .i64 n', .string x', .slice ya y.length yc] 35 (0, 0)) = W3 at *
                    have hxb : w2.heap.size < W3.heap.size := heap_lt hB3
                    clear hWW
                    generalize w2.heap.size = xb at *
                    have hs3 := HQ3.out.bel.size
                    have HB3 := Lib.hid hB3
                    clear hB3 hW3
                    go_wp2_with (at_builtin; go_must (refine wpList_appO rfl _ _ rfl W3.heap.size (some ⟨W3.heap.size, 0, none⟩) 0 [] rfl ?o1 (some ad2) vc V rfl ?s1 ?n1 ?b1 ?_))
                    case o1 => exact OwnO.made _ (Nat.le_refl _)
                    case s1 => exact (HQ3.out.own.below ((Below.refl _ _).alloc (Nat.le_refl _) _)).sl
                    case n1 => simp; omega
                    case b1 => simp
                    intro v' a' c' w4 hv' ho4 hb4 hC4
                    obtain rfl : v' = V := by simpa using hv'
                    have hB5 : Below W3.heap.size W3 w4 := ((Below.refl _ _).alloc (Nat.le_refl _) _).trans hb4
                    have hQ4 := HQ3.out.fresh hB5 ho4 (fun v hv => .inl hv)
                    obtain ⟨g, rfl, hg1, hg2⟩ := OwnO.form ho4 (by omega)
                    obtain ⟨ad3, had3, ⟨e0, e1, e2, e3, e4, _⟩, hlb3⟩ := hQ4.ops.at Hv.out
                    injection had3 with had3
                    subst had3
                    have hadd : (⟨g, 0, none⟩ : Addr).add (r * 5) = ⟨g, r * 5, none⟩ := by unfold Addr.add; split <;> simp_all
                    rw [hadd] at e0 e1 e2 e3 e4
                    dsimp only at e0 e1 e2 e3 e4
                    have f4 := hQ4.own.free
                    have kx := cells_at ((hB5.block _ hxb).trans HB3.out)
                    have hR := (HQ3.out.each _ (List.mem_of_getElem? Hv.out)).below hB5 (Nat.le_trans HQ3.out.lo hs3)
                    have HRX := Lib.hid (show RV w0 w w4 ⟨⟨4, n', x', p', y⟩, pa', pc', ya, yc⟩ from ⟨hR.pt, .inr (How.out.below hB5), ok_both hR.ok Hat0.out.ok Hy.out, may_drop hR.may Hmo.out rfl rfl Hy.out ((Hl.out.drop rfl).2 y Hy.out)⟩)
                    have HQ4 := Lib.hid hQ4
                    have hgx : g ≠ xb := by omega
                    clear hv' ho4 hb4 hC4 hQ4 hR hB5
                    go_wp2_with fail
                    go_roundw
                    case rel =>
                      have h := JOut.next Hx.out hvl HF.out (by rw [List.map_set]; exact step_drop rfl HvO.out Hl.out Hf.out Hy.out) (HQ4.out.put5 hrl ⟨⟨4, n', x', p', y⟩, pa', pc', ya, yc⟩ HRX.out)
                      rw [List.length_set] at h
                      exact h
                    case measure => simp [intOf]; omega
                · go_wp2_with fail
                  refine (with_any ⟨⟨k', n', x', p', ds'⟩, pa', pc', da', dc'⟩ ⟨⟨k', n, x, p', ds⟩, pa, pc, da, dc⟩ _ (HR.out.at_.below ?g1) (Hat0.out.below (HQ.out.bel.trans (Below.mono ?g2 hs0))) HR.out.may Hmo.out).mono ?_
                  case g1 => first | exact (Below.refl _ _).drew | exact (Below.refl _ _).drew.alloc (by simp) _ | exact ((Below.refl _ _).alloc (Nat.le_refl _) _).drew
                  case g2 => first | exact (Below.refl _ _).drew | exact (Below.refl _ _).drew.alloc (by simp) _ | exact ((Below.refl _ _).alloc (Nat.le_refl _) _).drew
                  intro e w2 hto
                  obtain ⟨rr, z, rfl, hz, hr, hb⟩ := hto
                  obtain rfl : z = true := hz.2 Hl.out
                  have hbx : Below wr.heap.size wr w2 := by first | exact (Below.refl _ wr).drew.trans hb | exact ((Below.refl _ wr).drew.alloc (by simp) _).trans (hb.mono (by simp)) | exact ((Below.refl _ wr).alloc (Nat.le_refl _) _).drew.trans (hb.mono (by simp))
                  have HX := Lib.hid hbx
                  have hs1 := hbx.size
                  have hzb : w2.heap[wr.heap.size]? = some (.cells ozero 35 (0, 0)) := (hb.block _ (by simp)).trans (by first | exact heap_new wr _ | exact heap_new wr.drew _)
                  have z0 := cells_at hzb
                  have z1 := free_at hzb
                  have hzl := heap_lt hzb
                  have Hzb := Lib.hid hzb
                  simp only [ozero] at z0
                  clear hzb
                  have hrr := hr rfl
                  clear hz hr hb hbx c0 c1 c2 c3 c4 e0 e1 e2 e3 e4
                  rcases hrr with ⟨hk, rfl⟩ | ⟨hk, rfl⟩ | ⟨hk, rfl⟩ | ⟨hk, y, ya, yc, rfl, hy, how⟩
                  · dsimp only at hk
                    subst hk
                    go_wp2_with fail
                    refine And.intro (by kernel_rfl) ?_
                    go_upto_region 23 with (fail)
                    have hW3 : Below wr.heap.size wr (((((w2.setCell ⟨wr.heap.size, 0, none⟩ (.int .u8 1)).setCell ⟨wr.heap.size, 1, none⟩ (.slice pa' p'.length pc')).setCell ⟨wr.heap.size, 2, none⟩ (.int .i64 (n' + n))).setCell ⟨wr.heap.size, 3, none⟩ (.string x')).setCell ⟨wr.heap.size, 4, none⟩ (.slice da' ds'.length dc')) := below_five HX.out wr.heap.size (Nat.le_refl _) _ _ _ _ _
                    have HQ3 := Lib.hid (HQ.out.below hW3)
                    have hB3 : (((((w2.setCell ⟨wr.heap.size, 0, none⟩ (.int .u8 1)).setCell ⟨wr.heap.size, 1, none⟩ (.slice pa' p'.length pc')).setCell ⟨wr.heap.size, 2, none⟩ (.int .i64 (n' + n))).setCell ⟨wr.heap.size, 3, none⟩ (.string x')).setCell ⟨wr.heap.size, 4, none⟩ (.slice da' ds'.length dc')).heap[wr.heap.size]? = some (.cells #[.int .u8 1, .slice pa' p'.length pc', .int .i64 (n' + n), .string x', .slice da' ds'.length dc'] 35 (0, 0)) := heap_five Hzb.out _ _ _ _ _
                    generalize hWW : ((((w2.setCell ⟨wr.heap.size, 0, none⟩ (.int .u8 1)).setCell ⟨wr.heap.size, 1, none⟩ (.slice pa' p'.length pc')).setCell ⟨wr.heap.size, 2, none⟩ (.int .i64 (n' + n))).setCell ⟨wr.heap.size, 3, none⟩ (.string x')).setCell ⟨wr.heap.size, 4, none⟩ (.slice da' ds'.length dc') = W3 at *
                    have hxb : wr.heap.size < W3.heap.size := heap_lt hB3
                    clear hWW
                    clear z0 z1
                    generalize wr.heap.size = xb at *
                    have hs3 := HQ3.out.bel.size
                    have HB3 := Lib.hid hB3
                    clear hB3 hW3
                    go_wp2_with (at_builtin; go_must (refine wpList_appO rfl _ _ rfl W3.heap.size (some ⟨W3.heap.size, 0, none⟩) 0 [] rfl ?o1 (some ad2) vc V rfl ?s1 ?n1 ?b1 ?_))
                    case o1 => exact OwnO.made _ (Nat.le_refl _)
                    case s1 => exact (HQ3.out.own.below ((Below.refl _ _).alloc (Nat.le_refl _) _)).sl
                    case n1 => simp; omega
                    case b1 => simp
                    intro v' a' c' w4 hv' ho4 hb4 hC4
                    obtain rfl : v' = V := by simpa using hv'
                    have hB5 : Below W3.heap.size W3 w4 := ((Below.refl _ _).alloc (Nat.le_refl _) _).trans hb4
                    have hQ4 := HQ3.out.fresh hB5 ho4 (fun v hv => .inl hv)
                    obtain ⟨g, rfl, hg1, hg2⟩ := OwnO.form ho4 (by omega)
                    obtain ⟨ad3, had3, ⟨e0, e1, e2, e3, e4, _⟩, hlb3⟩ := hQ4.ops.at Hv.out
                    injection had3 with had3
                    subst had3
                    have hadd : (⟨g, 0, none⟩ : Addr).add (r * 5) = ⟨g, r * 5, none⟩ := by unfold Addr.add; split <;> simp_all
                    rw [hadd] at e0 e1 e2 e3 e4
                    dsimp only at e0 e1 e2 e3 e4
                    have f4 := hQ4.own.free
                    have kx := cells_at ((hB5.block _ hxb).trans HB3.out)
                    have hR := (HQ3.out.each _ (List.mem_of_getElem? Hv.out)).below hB5 (Nat.le_trans HQ3.out.lo hs3)
                    have HRX := Lib.hid (show RV w0 w w4 ⟨⟨1, n' + n, x', p', ds'⟩, pa', pc', da', dc'⟩ from ⟨hR.pt, hR.ds, hR.ok, may_add hR.may rfl (Hl.out.add rfl).1 (Hl.out.add rfl).2⟩)
                    have HQ4 := Lib.hid hQ4
                    have hgx : g ≠ xb := by omega
                    clear hv' ho4 hb4 hC4 hQ4 hR hB5
                    go_wp2_with fail
                    go_roundw
                    case rel =>
                      have h := JOut.next Hx.out hvl HF.out (by rw [List.map_set]; exact step_add rfl HvO.out Hl.out Hf.out) (HQ4.out.put5 hrl ⟨⟨1, n' + n, x', p', ds'⟩, pa', pc', da', dc'⟩ HRX.out)
                      rw [List.length_set] at h
                      exact h
                    case measure => simp [intOf]; omega
                  · dsimp only at hk
                    subst hk
                    go_wp2_with fail
                    refine And.intro (by kernel_rfl) ?_
                    go_upto_region 21 with (fail)
                    have hW3 : Below wr.heap.size wr (((((w2.setCell ⟨wr.heap.size, 0, none⟩ (.int .u8 2)).setCell ⟨wr.heap.size, 1, none⟩ (.slice pa p'.length pc)).setCell ⟨wr.heap.size, 2, none⟩ (.int .i64 n)).setCell ⟨wr.heap.size, 3, none⟩ (.string x)).setCell ⟨wr.heap.size, 4, none⟩ (.slice da ds.length dc)) := below_five HX.out wr.heap.size (Nat.le_refl _) _ _ _ _ _
                    have HQ3 := Lib.hid (HQ.out.below hW3)
                    have hB3 : (((((w2.setCell ⟨wr.heap.size, 0, none⟩ (.int .u8 2)).setCell ⟨wr.heap.size, 1, none⟩ (.slice pa p'.length pc)).setCell ⟨wr.heap.size, 2, none⟩ (.int .i64 n)).setCell ⟨wr.heap.size, 3, none⟩ (.string x)).setCell ⟨wr.heap.size, 4, none⟩ (.slice da ds.length dc)).heap[wr.heap.size]? = some (.cells #[.int .u8 2, .slice pa p'.length pc, .int .i64 n, .string x, .slice da ds.length dc] 35 (0, 0)) := heap_five Hzb.out _ _ _ _ _
                    generalize hWW : ((((w2.setCell ⟨wr.heap.size, 0, none⟩ (.int .u8 2)).setCell ⟨wr.heap.size, 1, none⟩ (.slice pa p'.length pc)).setCell ⟨wr.heap.size, 2, none⟩ (.int .i64 n)).setCell ⟨wr.heap.size, 3, none⟩ (.string x)).setCell ⟨wr.heap.size, 4, none⟩ (.slice da ds.length dc) = W3 at *
                    have hxb : wr.heap.size < W3.heap.size := heap_lt hB3
                    clear hWW
                    clear z0 z1
                    generalize wr.heap.size = xb at *
                    have hs3 := HQ3.out.bel.size
                    have HB3 := Lib.hid hB3
                    clear hB3 hW3
                    obtain ⟨sa, sc, u, hu, hsl, hits⟩ := cutO (some ad2) vc V (r + 1) (by omega) hcv
                    have hhi := slice_hiO (some ad2) V.length vc r (by omega)
                    have hsl2 : ∀ W : World, (Instr.sliceAt 48 (.slice (some ad2) V.length vc) (some (.int .i64 ((r : Int) + 1))) none none).run Try.prog W = .ok (.slice sa (List.length u) sc) W := fun W => hsl W
                    have Hits := Lib.hid hits
                    have Hu := Lib.hid hu
                    have Hul := Lib.hid (show u.length = V.length - (r + 1) by rw [hu]; simp)
                    obtain ⟨T, hT⟩ : ∃ T, T = V.take r := ⟨_, rfl⟩
                    have HTl := Lib.hid (show T.length = r by rw [hT, List.length_take]; omega)
                    have HT := Lib.hid hT
                    clear hits hu hT
                    refine region_text [([1, 2, 3, 5, 6, 7, 8, 0, 4, 9, 10], false)] mixed (by kernel_rfl) ?_
                    simp only [wpSegs, List.map_cons, List.map_nil, List.getD_cons_succ, List.getD_cons_zero]
                    go_wp2_with (at_builtin; go_must (refine wpList_appO rfl _ _ rfl W3.heap.size _ 0 [] rfl ?o1 (some ad2) vc T (by rw [HTl.out]; rfl) ?s1 ?n1 ?b1 ?_))
                    case o1 => exact OwnO.made _ (by simp)
                    case s1 =>
                      rw [HT.out]
                      exact opsl_take (HQ3.out.own.below (by first | exact (Below.refl _ _).drew.alloc (by simp) _ | exact ((Below.refl _ _).alloc (Nat.le_refl _) _).drew.drew | exact ((Below.refl _ _).alloc (Nat.le_refl _) _).drew | exact (Below.refl _ _).alloc (Nat.le_refl _) _)).sl (by omega)
                    case n1 => have := HTl.out; simp; omega
                    case b1 => simp
                    intro v1 b1 g1 w4 hv1 ho1 hb1 _
                    have hv1' : v1 = T := by simpa using hv1
                    have Hv1 := Lib.hid hv1'
                    have Hl1 := Lib.hid (show v1.length = r by rw [hv1']; exact HTl.out)
                    have Hx4 : Hid (Below W3.heap.size W3 w4) := Lib.hid ((by first | exact ((Below.refl _ W3).drew.alloc (by simp) _) | exact ((Below.refl _ W3).alloc (Nat.le_refl _) _).drew.drew | exact ((Below.refl _ W3).alloc (Nat.le_refl _) _).drew | exact ((Below.refl _ W3).alloc (Nat.le_refl _) _) : Below W3.heap.size W3 _).trans hb1)
                    have Ho4 := Lib.hid ho1
                    have hz4 := Hx4.out.size
                    clear hv1 ho1 hb1 hv1'
                    go_wp2_with (at_builtin; go_must (refine wpList_appO rfl _ _ rfl W3.heap.size b1 g1 v1 rfl Ho4.out sa sc u rfl (Hits.out _ (HQ3.out.own.below Hx4.out).sl) ?n3 hz4 ?_))
                    case n3 => have := Hl1.out; have := Hul.out; omega
                    intro v2 b2 g2 w5 hv2 ho2 hb2 _
                    have Hv2 := Lib.hid hv2
                    have Hl2 := Lib.hid (show v2.length = r + (V.length - (r + 1)) by rw [hv2, List.length_append, Hl1.out, Hul.out])
                    have Hx5 := Lib.hid (Hx4.out.trans hb2)
                    have Ho5 := Lib.hid ho2
                    have hz5 := Hx5.out.size
                    have kx := cells_at ((Hx5.out.block _ hxb).trans HB3.out)
                    clear hv2 ho2 hb2
                    go_wp2_with fail
                    refine And.intro (by kernel_rfl) ?_
                    go_wp2_with (at_builtin; go_must (refine wpList_appO rfl _ _ rfl W3.heap.size b2 g2 v2 rfl ?o4 (some ⟨w5.heap.size, 0, none⟩) 1 [⟨⟨2, n, x, p', ds⟩, pa, pc, da, dc⟩] rfl ?s4 ?n4 ?b4 ?_))
                    case o4 => exact Ho5.out.below ((Below.refl _ _).alloc (Nat.le_refl _) _)
                    case s4 => exact op_one ⟨⟨2, n, x, p', ds⟩, pa, pc, da, dc⟩ (heap_new w5 _)
                    case n4 => have := Hl2.out; simp; omega
                    case b4 => simp; omega
                    intro v3 b3 g3 w6 hv3 ho3 hb3 _
                    have Hx6 := Lib.hid ((Hx5.out.alloc hz5 _).trans hb3)
                    have Hv3 := Lib.hid (show v3 = (V.take r ++ V.drop (r + 1)) ++ [⟨⟨2, n, x, p', ds⟩, pa, pc, da, dc⟩] by rw [hv3, Hv2.out, Hv1.out, HT.out, Hu.out])
                    have HQ6 := Lib.hid (HQ3.out.fresh Hx6.out ho3 (fun v hv => by
                      rw [Hv3.out, List.mem_append, List.mem_append, List.mem_singleton] at hv
                      rcases hv with (hv | hv) | rfl
                      · exact .inl (List.mem_of_mem_take hv)
                      · exact .inl (List.mem_of_mem_drop hv)
                      · exact .inr (RV.old Hat0.out Hmo.out HQ3.out.bel)))
                    clear hv3 ho3 hb3 kx
                    go_wp2_with fail
                    go_roundw
                    case rel => exact JOut.next Hx.out hvl HF.out (by rw [Hv3.out, ← List.eraseIdx_eq_take_drop_succ, List.map_append, map_eraseIdx, List.map_cons, List.map_nil]; exact step_set rfl HvO.out Hl.out Hf.out) HQ6.out
                    case measure => simp [intOf]; omega
                  · dsimp only at hk
                    subst hk
                    go_wp2_with fail
                    refine And.intro (by kernel_rfl) ?_
                    go_upto_region 23 with (fail)
                    have hW3 : Below wr.heap.size wr (((((w2.setCell ⟨wr.heap.size, 0, none⟩ (.int .u8 3)).setCell ⟨wr.heap.size, 1, none⟩ (.slice pa' p'.length pc')).setCell ⟨wr.heap.size, 2, none⟩ (.int .i64 n')).setCell ⟨wr.heap.size, 3, none⟩ (.string x')).setCell ⟨wr.heap.size, 4, none⟩ (.slice da' ds'.length dc')) := below_five HX.out wr.heap.size (Nat.le_refl _) _ _ _ _ _
                    have HQ3 := Lib.hid (HQ.out.below hW3)
                    have hB3 : (((((w2.setCell ⟨wr.heap.size, 0, none⟩ (.int .u8 3)).setCell ⟨wr.heap.size, 1, none⟩ (.slice pa' p'.length pc')).setCell ⟨wr.heap.size, 2, none⟩ (.int .i64 n')).setCell ⟨wr.heap.size, 3, none⟩ (.string x')).setCell ⟨wr.heap.size, 4, none⟩ (.slice da' ds'.length dc')).heap[wr.heap.size]? = some (.cells #[.int .u8 3, .slice pa' p'.length pc', .int .i64 n', .string x', .slice da' ds'.length dc'] 35 (0, 0)) := heap_five Hzb.out _ _ _ _ _
                    generalize hWW : ((((w2.setCell ⟨wr.heap.size, 0, none⟩ (.int .u8 3)).setCell ⟨wr.heap.size, 1, none⟩ (.slice pa' p'.length pc')).setCell ⟨wr.heap.size, 2, none⟩ (.int .i64 n')).setCell ⟨wr.heap.size, 3, none⟩ (.string x')).setCell ⟨wr.heap.size, 4, none⟩ (.slice da' ds'.length dc') = W3 at *
                    have hxb : wr.heap.size < W3.heap.size := heap_lt hB3
                    clear hWW
                    clear z0 z1
                    generalize wr.heap.size = xb at *
                    have hs3 := HQ3.out.bel.size
                    have HB3 := Lib.hid hB3
                    clear hB3 hW3
                    go_wp2_with (at_builtin; go_must (refine wpList_appO rfl _ _ rfl W3.heap.size (some ⟨W3.heap.size, 0, none⟩) 0 [] rfl ?o1 (some ad2) vc V rfl ?s1 ?n1 ?b1 ?_))
                    case o1 => exact OwnO.made _ (Nat.le_refl _)
                    case s1 => exact (HQ3.out.own.below ((Below.refl _ _).alloc (Nat.le_refl _) _)).sl
                    case n1 => simp; omega
                    case b1 => simp
                    intro v' a' c' w4 hv' ho4 hb4 hC4
                    obtain rfl : v' = V := by simpa using hv'
                    have hB5 : Below W3.heap.size W3 w4 := ((Below.refl _ _).alloc (Nat.le_refl _) _).trans hb4
                    have hQ4 := HQ3.out.fresh hB5 ho4 (fun v hv => .inl hv)
                    obtain ⟨g, rfl, hg1, hg2⟩ := OwnO.form ho4 (by omega)
                    obtain ⟨ad3, had3, ⟨e0, e1, e2, e3, e4, _⟩, hlb3⟩ := hQ4.ops.at Hv.out
                    injection had3 with had3
                    subst had3
                    have hadd : (⟨g, 0, none⟩ : Addr).add (r * 5) = ⟨g, r * 5, none⟩ := by unfold Addr.add; split <;> simp_all
                    rw [hadd] at e0 e1 e2 e3 e4
                    dsimp only at e0 e1 e2 e3 e4
                    have f4 := hQ4.own.free
                    have kx := cells_at ((hB5.block _ hxb).trans HB3.out)
                    have hR := (HQ3.out.each _ (List.mem_of_getElem? Hv.out)).below hB5 (Nat.le_trans HQ3.out.lo hs3)
                    have HRX := Lib.hid (show RV w0 w w4 ⟨⟨3, n', x', p', ds'⟩, pa', pc', da', dc'⟩ from hR)
                    have HQ4 := Lib.hid hQ4
                    have hgx : g ≠ xb := by omega
                    clear hv' ho4 hb4 hC4 hQ4 hR hB5
                    go_wp2_with fail
                    go_roundw
                    case rel =>
                      have h := JOut.next Hx.out hvl HF.out (by rw [List.map_set]; rw [set_self HvO.out]; exact step_put rfl HvO.out Hl.out) (HQ4.out.put5 hrl ⟨⟨3, n', x', p', ds'⟩, pa', pc', da', dc'⟩ HRX.out)
                      rw [List.length_set] at h
                      exact h
                    case measure => simp [intOf]; omega
                  · dsimp only at hk
                    subst hk
                    go_wp2_with fail
                    refine And.intro (by kernel_rfl) ?_
                    go_upto_region 23 with (fail)
                    have hW3 : Below wr.heap.size wr (((((w2.setCell ⟨wr.heap.size, 0, none⟩ (.int .u8 4)).setCell ⟨wr.heap.size, 1, none⟩ (.slice pa' p'.length pc')).setCell ⟨wr.heap.size, 2, none⟩ (.int .i64 n')).setCell ⟨wr.heap.size, 3, none⟩ (.string x')).setCell ⟨wr.heap.size, 4, none⟩ (.slice ya y.length yc)) := below_five HX.out wr.heap.size (Nat.le_refl _) _ _ _ _ _
                    have HQ3 := Lib.hid (HQ.out.below hW3)
                    have hB3 : (((((w2.setCell ⟨wr.heap.size, 0, none⟩ (.int .u8 4)).setCell ⟨wr.heap.size, 1, none⟩ (.slice pa' p'.length pc')).setCell ⟨wr.heap.size, 2, none⟩ (.int .i64 n')).setCell ⟨wr.heap.size, 3, none⟩ (.string x')).setCell ⟨wr.heap.size, 4, none⟩ (.slice ya y.length yc)).heap[wr.heap.size]? = some (.cells #[.int .u8 4, .slice pa' p'.length pc', .int .i64 n', .string x', .slice ya y.length yc] 35 (0, 0)) := heap_five Hzb.out _ _ _ _ _
                    have Hy := Lib.hid hy
                    have hw2 : OwnD (((((w2.setCell ⟨wr.heap.size, 0, none⟩ (.int .u8 4)).setCell ⟨wr.heap.size, 1, none⟩ (.slice pa' p'.length pc')).setCell ⟨wr.heap.size, 2, none⟩ (.int .i64 n')).setCell ⟨wr.heap.size, 3, none⟩ (.string x')).setCell ⟨wr.heap.size, 4, none⟩ (.slice ya y.length yc)) w.heap.size ya yc y := (ownD_set5 how wr.heap.size (by simp) _ _ _ _ _).base (by simp; omega)
                    have How := Lib.hid hw2
                    clear hy how hw2
                    generalize hWW : ((((w2.setCell ⟨wr.heap.size, 0, none⟩ (.int .u8 4)).setCell ⟨wr.heap.size, 1, none⟩ (.slice pa' p'.length pc')).setCell ⟨wr.heap.size, 2, none⟩ (.int .i64 n')).setCell ⟨wr.heap.size, 3, none⟩ (.string x')).setCell ⟨wr.heap.size, 4, none⟩ (.slice ya y.length yc) = W3 at *
                    have hxb : wr.heap.size < W3.heap.size := heap_lt hB3
                    clear hWW
                    clear z0 z1
                    generalize wr.heap.size = xb at *
                    have hs3 := HQ3.out.bel.size
                    have HB3 := Lib.hid hB3
                    clear hB3 hW3
                    go_wp2_with (at_builtin; go_must (refine wpList_appO rfl _ _ rfl W3.heap.size (some ⟨W3.heap.size, 0, none⟩) 0 [] rfl ?o1 (some ad2) vc V rfl ?s1 ?n1 ?b1 ?_))
                    case o1 => exact OwnO.made _ (Nat.le_refl _)
                    case s1 => exact (HQ3.out.own.below ((Below.refl _ _).alloc (Nat.le_refl _) _)).sl
                    case n1 => simp; omega
                    case b1 => simp
                    intro v' a' c' w4 hv' ho4 hb4 hC4
                    obtain rfl : v' = V := by simpa using hv'
                    have hB5 : Below W3.heap.size W3 w4 := ((Below.refl _ _).alloc (Nat.le_refl _) _).trans hb4
                    have hQ4 := HQ3.out.fresh hB5 ho4 (fun v hv => .inl hv)
                    obtain ⟨g, rfl, hg1, hg2⟩ := OwnO.form ho4 (by omega)
                    obtain ⟨ad3, had3, ⟨e0, e1, e2, e3, e4, _⟩, hlb3⟩ := hQ4.ops.at Hv.out
                    injection had3 with had3
                    subst had3
                    have hadd : (⟨g, 0, none⟩ : Addr).add (r * 5) = ⟨g, r * 5, none⟩ := by unfold Addr.add; split <;> simp_all
                    rw [hadd] at e0 e1 e2 e3 e4
                    dsimp only at e0 e1 e2 e3 e4
                    have f4 := hQ4.own.free
                    have kx := cells_at ((hB5.block _ hxb).trans HB3.out)
                    have hR := (HQ3.out.each _ (List.mem_of_getElem? Hv.out)).below hB5 (Nat.le_trans HQ3.out.lo hs3)
                    have HRX := Lib.hid (show RV w0 w w4 ⟨⟨4, n', x', p', y⟩, pa', pc', ya, yc⟩ from ⟨hR.pt, .inr (How.out.below hB5), ok_both hR.ok Hat0.out.ok Hy.out, may_drop hR.may Hmo.out rfl rfl Hy.out ((Hl.out.drop rfl).2 y Hy.out)⟩)
                    have HQ4 := Lib.hid hQ4
                    have hgx : g ≠ xb := by omega
                    clear hv' ho4 hb4 hC4 hQ4 hR hB5
                    go_wp2_with fail
                    go_roundw
                    case rel =>
                      have h := JOut.next Hx.out hvl HF.out (by rw [List.map_set]; exact step_drop rfl HvO.out Hl.out Hf.out Hy.out) (HQ4.out.put5 hrl ⟨⟨4, n', x', p', y⟩, pa', pc', ya, yc⟩ HRX.out)
                      rw [List.length_set] at h
                      exact h
                    case measure => simp [intOf]; omega
        · have HF2 := Lib.hid (show FewL [] (l.map (·.o)) (V.map (·.o)) from by have := HF.out; rwa [List.take_of_length_le (by omega)] at this)
          go_wp2_with fail
          exact bodyPost_ret (v := .tuple #[.slice va V.length vc, .int .i64 0]) (by simp [results, Try.results13, go_sem]; try rfl) rfl (.inr ⟨Hm.out, va, vc, V, rfl, HF2.out, HQ.out⟩)
end Go.Proofs.Ytmabjghjkgicgaa
