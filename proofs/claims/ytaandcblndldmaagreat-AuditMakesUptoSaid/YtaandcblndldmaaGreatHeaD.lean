/- container/heap over a queue of commits: calls through the interface. | Heaps of commits, plainly. No program in sight. | order.Ahead; the queue's Len, Less, Swap: the contracts. | container/heap's down over the queue: the contract. | The queue's Pop; container/heap's Init and Pop over the queue: the contracts. -/
import Derived.Test.YtaandcblndldmaaGreatGraV
import Derived.Test.YtaandcblndldmaaGreatRgE
import Derived.ChangeKeysEq
import Derived.Test.YtaandcblndldmaaGreatBatC
import Derived.Test.YtaandcblndldmaaGreatRMbA
import Derived.Test.YtaandcblndldmaaGreatWitA
/- HeaA -/
namespace Go.Proofs.YtaandcblndldmaaGreat
open Go.RowKit
set_option linter.unusedVariables false
set_option linter.unusedSimpArgs false

end Go.Proofs.YtaandcblndldmaaGreat

/- HeaP -/
namespace Go.Proofs.YtaandcblndldmaaGreat
open Go.RowKit
set_option linter.unusedVariables false
set_option linter.unusedSimpArgs false

theorem ltCb_or (a b : Cm) : ltCb a b = true ↔ a.t < b.t ∨ a.t = b.t ∧ lessD a.d b.d = true := by
  unfold ltCb
  simp
end Go.Proofs.YtaandcblndldmaaGreat

/- HeaB -/
namespace Go.Proofs.YtaandcblndldmaaGreat
open Go.RowKit
set_option linter.unusedVariables false
set_option linter.unusedSimpArgs false

theorem cmpDD_lt (a b : Dt) : decide (cmpDD a b < 0) = lessD a b := ltD_of a b
set_option maxRecDepth 100000 in
set_option maxHeartbeats 8000000 in
theorem ahead15_any (u v : Cw) (w : World) :
    Calls Tryz.prog 94 #[.agg (cwcells u), .agg (cwcells v)] w fun e w' => e = .returned (.bool (ltCb u.c v.c)) ∧ Below w.heap.size w w' := by
  obtain ⟨⟨⟨⟨r, i⟩, s⟩, ps, uu, t, ⟨k, n, x, p, ds⟩⟩, qa, qc, ua, uc, pa, pc, da, dc⟩ := u
  obtain ⟨⟨⟨⟨r', i'⟩, s'⟩, ps', uu', t', ⟨k', n', x', p', ds'⟩⟩, qa', qc', ua', uc', pa', pc', da', dc'⟩ := v
  have E : Hid (Below w.heap.size w ((w.alloc (.cells (ccells r i s qa ps.length qc ua uu.length uc t k pa p.length pc n x da ds.length dc) 54)).alloc (.cells (ccells r' i' s' qa' ps'.length qc' ua' uu'.length uc' t' k' pa' p'.length pc' n' x' da' ds'.length dc') 54)) ∧ ((w.alloc (.cells (ccells r i s qa ps.length qc ua uu.length uc t k pa p.length pc n x da ds.length dc) 54)).alloc (.cells (ccells r' i' s' qa' ps'.length qc' ua' uu'.length uc' t' k' pa' p'.length pc' n' x' da' ds'.length dc') 54)).heap[w.heap.size]? = some (.cells (ccells r i s qa ps.length qc ua uu.length uc t k pa p.length pc n x da ds.length dc) 54 (0, 0)) ∧ ((w.alloc (.cells (ccells r i s qa ps.length qc ua uu.length uc t k pa p.length pc n x da ds.length dc) 54)).alloc (.cells (ccells r' i' s' qa' ps'.length qc' ua' uu'.length uc' t' k' pa' p'.length pc' n' x' da' ds'.length dc') 54)).heap[w.heap.size + 1]? = some (.cells (ccells r' i' s' qa' ps'.length qc' ua' uu'.length uc' t' k' pa' p'.length pc' n' x' da' ds'.length dc') 54 (0, 0))) :=
    Lib.hid ⟨((Below.refl _ _).alloc (Nat.le_refl _) _).alloc (by simp) _, (heap_old _ _ (by simp)).trans (heap_new _ _), heap_new2 _ _ _⟩
  have d0 := cells_at E.out.2.1
  have d1 := cells_at E.out.2.2
  have z0 := heap_lt E.out.2.1
  have z1 := heap_lt E.out.2.2
  simp only [ccells] at d0 d1
  simp only [cwcells]
  go_enter Tryz.func94, Tryz.ntmps94
  by_cases ht : t = t'
  · have x1 : (t != t') = false := by rw [bne_eq_false_iff_eq]; exact ht
    have Ht := Lib.hid ht
    clear ht
    go_wp2_with fail
    refine (compareD_any r i s r' i' s' _).mono ?_
    rintro e w1 ⟨rfl, hg⟩
    have HB := Lib.hid (below2 E.out.1 hg.below E.out.1.size)
    have hl := cmpDD_lt ((r, i), s) ((r', i'), s')
    have Hr := Lib.hid (show ltCb ⟨((r, i), s), ps, uu, t, ⟨k, n, x, p, ds⟩⟩ ⟨((r', i'), s'), ps', uu', t', ⟨k', n', x', p', ds'⟩⟩ = lessD ((r, i), s) ((r', i'), s') by
      unfold ltCb
      rw [decide_eq_false (show ¬ t < t' by have := Ht.out; omega), decide_eq_true (show t = t' from Ht.out)]; simp)
    clear hg
    go_wp2_with fail
    go_ret
    exact ⟨by rw [Hr.out]; rfl, HB.out⟩
  · have x1 : (t != t') = true := by rw [bne_iff_ne]; exact ht
    have Hr := Lib.hid (show ltCb ⟨((r, i), s), ps, uu, t, ⟨k, n, x, p, ds⟩⟩ ⟨((r', i'), s'), ps', uu', t', ⟨k', n', x', p', ds'⟩⟩ = decide (t < t') by
      unfold ltCb
      rw [decide_eq_false (show ¬ t = t' from ht)]; simp)
    go_wp2_with fail
    go_ret
    exact ⟨by rw [Hr.out]; rfl, E.out.1⟩
end Go.Proofs.YtaandcblndldmaaGreat

/- HeaC -/
namespace Go.Proofs.YtaandcblndldmaaGreat
open Go.RowKit
set_option linter.unusedVariables false
set_option linter.unusedSimpArgs false

theorem cms_i {S : List Cw} {k : Nat} {v : Cw} (h : S[k]? = some v) : (cms S)[k]? = some v.c := by unfold cms; rw [List.getElem?_map, h]; rfl
end Go.Proofs.YtaandcblndldmaaGreat

/- HeaD -/
namespace Go.Proofs.YtaandcblndldmaaGreat
open Go.RowKit
set_option linter.unusedVariables false
set_option linter.unusedSimpArgs false

end Go.Proofs.YtaandcblndldmaaGreat
