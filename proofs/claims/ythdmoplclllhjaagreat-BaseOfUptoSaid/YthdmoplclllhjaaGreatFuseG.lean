/- fuse.both: the items of two leaves that are no tombs, rising: contract. | fuse.both, whole: contract. | fuse.counter, register, set, log: contracts. | fuse.set, fuse.log: contracts. -/
import Derived.Test.YthdmoplclllhjaaGreatFuseA
import Derived.IntWalk
/- FuseF -/
namespace Go.Proofs.YthdmoplclllhjaaGreat
open Go.RowKit
set_option linter.unusedVariables false
set_option linter.unusedSimpArgs false

/-- what 'both' holds while it goes through the items: tombs, what is kept, what was seen -/
structure BothE (w0 wK W : World) (ta : Option Addr) (tc : Nat) (ts L : List Dt) (v : List It) : Prop where
  bt : W.heap[w0.heap.size]? = some (.cells #[.slice ta ts.length tc] 23 (0, 0))
  bl : ∃ va vc, W.heap[w0.heap.size + 1]? = some (.cells #[.slice va v.length vc] 155 (0, 0)) ∧ OwnI W wK.heap.size va vc v
  bs : W.heap[w0.heap.size + 3]? = some (.cells #[.map (some (w0.heap.size + 2))] 63 (0, 0))
  seen : SeenAt W (w0.heap.size + 2) L
  bel : Below w0.heap.size w0 W
  chg : Chg [w0.heap.size + 1, w0.heap.size + 2] wK W
  sz : w0.heap.size + 4 ≤ wK.heap.size
theorem BothE.step {w0 wK W W' : World} {ta : Option Addr} {tc : Nat} {ts L : List Dt} {v : List It} (h : BothE w0 wK W ta tc ts L v) (hb : Below W.heap.size W W') : BothE w0 wK W' ta tc ts L v := by
  obtain ⟨va, vc, h1, h2⟩ := h.bl
  exact ⟨(hb.block _ (heap_lt h.bt)).trans h.bt, ⟨va, vc, (hb.block _ (heap_lt h1)).trans h1, h2.below hb⟩, (hb.block _ (heap_lt h.bs)).trans h.bs, h.seen.below hb, below2 h.bel hb h.bel.size, h.chg.trans (Chg.of_below (F := []) hb) (by simp), h.sz⟩
theorem BothE.kept {w0 wK W W' : World} {ta : Option Addr} {tc : Nat} {ts L : List Dt} {v v' : List It} {a' : Option Addr} {c' : Nat} (h : BothE w0 wK W ta tc ts L v) (hb : Below wK.heap.size W W') (ho : OwnI W' wK.heap.size a' c' v') :
    BothE w0 wK (W'.setCell ⟨w0.heap.size + 1, 0, none⟩ (.slice a' v'.length c')) ta tc ts L v' := by
  obtain ⟨va, vc, h1, h2⟩ := h.bl
  have hz := h.sz
  have hz2 := h.chg.size
  have hC := Chg.setCell W' ⟨w0.heap.size + 1, 0, none⟩ (.slice a' v'.length c')
  have hb1 := (hb.block _ (show w0.heap.size + 1 < wK.heap.size by omega)).trans h1
  have hbs := (hb.block _ (show w0.heap.size + 3 < wK.heap.size by omega)).trans h.bs
  have hbt := (hb.block _ (show w0.heap.size < wK.heap.size by omega)).trans h.bt
  refine ⟨heap_chg hbt hC (by simp), ⟨a', c', heap_setCell1 hb1, owns_chg ho hC (fun k hk hm => by have := (owns_lt ho k hk).1; simp at hm; omega)⟩, heap_chg hbs hC (by simp), ?_, ?_, ?_, h.sz⟩
  · refine SeenAt.chg (F := [w0.heap.size + 1]) ?_ hC (by simp)
    obtain ⟨es, ck, g1, g2⟩ := h.seen
    exact ⟨es, ck, (hb.block _ (show w0.heap.size + 2 < wK.heap.size by omega)).trans g1, g2⟩
  · exact (h.bel.trans (hb.mono (by omega))).setCell (by simp) _
  · have h3 : Chg [w0.heap.size + 1, w0.heap.size + 2] wK W' := ⟨hb.os.trans h.chg.os, hb.tape.trans h.chg.tape, hb.output.trans h.chg.output, Nat.le_trans hz2 hb.size, fun k hk hn => (hb.block k hk).trans (h.chg.block k hk hn)⟩
    exact h3.trans hC (by simp)
end Go.Proofs.YthdmoplclllhjaaGreat

/- FuseG -/
namespace Go.Proofs.YthdmoplclllhjaaGreat
open Go.RowKit
set_option linter.unusedVariables false
set_option linter.unusedSimpArgs false

end Go.Proofs.YthdmoplclllhjaaGreat

/- FuseH -/
namespace Go.Proofs.YthdmoplclllhjaaGreat
open Go.RowKit
set_option linter.unusedVariables false
set_option linter.unusedSimpArgs false

end Go.Proofs.YthdmoplclllhjaaGreat

/- FuseI -/
namespace Go.Proofs.YthdmoplclllhjaaGreat
open Go.RowKit
set_option linter.unusedVariables false
set_option linter.unusedSimpArgs false

theorem ltD_nodup {v : List Dt} (h : v.Pairwise ltD) : v.Nodup := List.Pairwise.imp (S := fun x y => x ≠ y) (fun {x y} (hxy : ltD x y) (e : x = y) => ltD_irrefl x (by rw [← e] at hxy; exact hxy)) h
end Go.Proofs.YthdmoplclllhjaaGreat
