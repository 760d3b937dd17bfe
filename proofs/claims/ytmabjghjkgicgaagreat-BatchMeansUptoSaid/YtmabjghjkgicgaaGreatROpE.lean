/- The reference's Few (varveref39): contract. (printed by wip/tools/genropf.py) -/
import Derived.Test.YtmabjghjkgicgaaGreatROpD
namespace Go.Proofs.YtmabjghjkgicgaaGreat
open Go.RowKit
set_option linter.unusedVariables false
set_option linter.unusedSimpArgs false

theorem slice_hiO (oa : Option Addr) (n oc j : Nat) (hj : j ≤ oc) (W : World) : (Instr.sliceAt 24 (.slice oa n oc) none (some (.int .i64 (j : Int))) none).run Tryz.prog W = .ok (.slice oa j oc) W := by
  simp [go_sem, Instr.sliceAt, Instr.slice, run_underlying Tryz.underlying24]
  omega
theorem slice_loO (oa : Option Addr) (n oc j : Nat) (hj : j ≤ n) (hn : n ≤ oc) (W : World) : (Instr.sliceAt 24 (.slice oa n oc) (some (.int .i64 (j : Int))) none none).run Tryz.prog W = .ok (.slice (if oc = j then oa else oa.map (·.add (j * 5))) (n - j) (oc - j)) W := by
  simp [go_sem, Instr.sliceAt, Instr.slice, run_underlying Tryz.underlying24]
  intro h; omega
theorem OwnO.made (w : World) {base : Nat} (h : base ≤ w.heap.size) : OwnO (w.alloc (.cells #[] 59)) base (some ⟨w.heap.size, 0, none⟩) 0 [] := World.ownsRow_made w #[] 0 h (by decide) rfl
theorem RQ.chg {w0 w W W' : World} {a a' : Option Addr} {c c' : Nat} {V V' : List Ow} (h : RQ w0 w W a c V) (hC : Chg (ob a) W W') (ho : OwnO W' w.heap.size a' c' V') (hv : ∀ v ∈ V', v ∈ V ∨ RV w0 w W v) : RQ w0 w W' a' c' V' :=
  ⟨ho, fun v hv' => ((hv v hv').elim (fun k => h.each v k) id).chg h.own h.lo h.bel.size hC, h.bel.trans (hC.below h.bel.size (fun k hk => (owns_lt h.own k hk).1)), h.lo⟩
theorem RQ.none_ {w0 w W : World} (h : Below w.heap.size w W) (hl : w0.heap.size ≤ w.heap.size) : RQ w0 w W none 0 [] := ⟨OwnO.nil _ _, fun v hv => (by cases hv), h, hl⟩
theorem RQ.fresh {w0 w W W' : World} {a a' : Option Addr} {c c' : Nat} {V V' : List Ow} (h : RQ w0 w W a c V) (hb : Below W.heap.size W W') (ho : OwnO W' W.heap.size a' c' V') (hv : ∀ v ∈ V', v ∈ V ∨ RV w0 w W v) : RQ w0 w W' a' c' V' :=
  ⟨ho.base h.bel.size, fun v hv' => ((hv v hv').elim (fun k => h.each v k) id).below hb (Nat.le_trans h.lo h.bel.size), below2 h.bel hb h.bel.size, h.lo⟩
theorem OwnO.form {w : World} {base c : Nat} {a : Option Addr} {V : List Ow} (h : OwnO w base a c V) (hv : 0 < V.length) : ∃ g, a = some ⟨g, 0, none⟩ ∧ base ≤ g ∧ g < w.heap.size := by
  rcases h.2 with ⟨h1, h2⟩ | ⟨g, cap, cur, h1, hb, hg, _⟩
  · omega
  · injection h1 with h1
    exact ⟨g, h1, hb, heap_lt hg⟩
def JOut (w0 w : World) (l : List Ow) (out j : Value) (wr : World) : Prop :=
  ∃ (i : Nat) (va : Option Addr) (vc : Nat) (V : List Ow), i ≤ l.length ∧ j = .int .i64 i ∧ out = .slice va V.length vc ∧ V.length ≤ i ∧ FewL [] ((l.take i).map (·.o)) (V.map (·.o)) ∧ RQ w0 w wr va vc V
def RFewTo (w0 w : World) (l : List Ow) (e : Ending) (w' : World) : Prop :=
  (¬ (∀ v ∈ l, MayO v.o) ∧ e = .returned (.tuple #[.slice none 0 0, .int .i64 2]) ∧ Below w.heap.size w w') ∨
  ((∀ v ∈ l, MayO v.o) ∧ ∃ a c V, e = .returned (.tuple #[.slice a (List.length V) c, .int .i64 0]) ∧ FewL [] (l.map (·.o)) (V.map (·.o)) ∧ RQ w0 w w' a c V)
theorem JOut.next {w0 w w2 : World} {l : List Ow} {i vc' : Nat} {va' : Option Addr} {V V' : List Ow} {o : Ow} (hx : l[i]? = some o) (hvl : V.length ≤ i) (hF : FewL [] ((l.take i).map (·.o)) (V.map (·.o))) (hs : StepL (V.map (·.o)) o.o (V'.map (·.o))) (hQ : RQ w0 w w2 va' vc' V') :
    JOut w0 w l (.slice va' V'.length vc') (.int .i64 ((i : Int) + 1)) w2 := by
  have hlt := (List.getElem?_eq_some_iff.1 hx).1
  refine ⟨i + 1, va', vc', V', hlt, by simp, rfl, ?_, ?_, hQ⟩
  · have := hs.len
    simp only [List.length_map] at this
    omega
  · rw [take_snoc' hx, List.map_append, List.map_cons, List.map_nil]
    exact hF.snoc hs
end Go.Proofs.YtmabjghjkgicgaaGreat
