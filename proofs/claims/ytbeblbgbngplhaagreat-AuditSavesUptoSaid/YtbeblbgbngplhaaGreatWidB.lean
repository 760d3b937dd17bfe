/- varvelaw12.wide: what it tells when it is false. | Commits handed in; varvelaw12.great: what it tells when it is false. -/
import Derived.Test.YtbeblbgbngplhaaGreatOwtB
import Derived.Test.YtbeblbgbngplhaaGreatMeanW
import Derived.Test.YtbeblbgbngplhaaGreatGraA
import Derived.Test.YtbeblbgbngplhaaGreatBasA
import Derived.Test.YtbeblbgbngplhaaGreatGraV
/- WidA -/
namespace Go.Proofs.YtbeblbgbngplhaaGreat
open Go.RowKit
set_option linter.unusedVariables false
set_option linter.unusedSimpArgs false

end Go.Proofs.YtbeblbgbngplhaaGreat

/- WidB -/
namespace Go.Proofs.YtbeblbgbngplhaaGreat
open Go.RowKit
set_option linter.unusedVariables false
set_option linter.unusedSimpArgs false

/-- commits handed in -/
structure Cms (w : World) (a : Option Addr) (c : Nat) (l : List Cw) : Prop where
  sl : Sl w 11 a l.length c (ccs l)
  each : ∀ v ∈ l, CwAt w v
theorem Cms.below {w w' : World} {a : Option Addr} {c : Nat} {l : List Cw} (h : Cms w a c l) (hb : Below w.heap.size w w') : Cms w' a c l := ⟨h.sl.below hb, fun v hv => (h.each v hv).below hb⟩
structure CwC (w : World) (b : Addr) (v : Cw) : Prop where
  c0 : w.cell? b = some (.int .u8 v.c.d.1.1)
  c1 : w.cell? ⟨b.block, b.off + 1, none⟩ = some (.int .u32 v.c.d.1.2)
  c2 : w.cell? ⟨b.block, b.off + 2, none⟩ = some (.int .u64 v.c.d.2)
  c3 : w.cell? ⟨b.block, b.off + 3, none⟩ = some (.slice v.qa v.c.ps.length v.qc)
  c4 : w.cell? ⟨b.block, b.off + 4, none⟩ = some (.slice v.va v.c.vv.length v.vc)
  c5 : w.cell? ⟨b.block, b.off + 5, none⟩ = some (.int .u64 v.c.t)
  c6 : w.cell? ⟨b.block, b.off + 6, none⟩ = some (.int .u8 v.c.o.k)
  c7 : w.cell? ⟨b.block, b.off + 7, none⟩ = some (.slice v.pa v.c.o.p.length v.pc)
  c8 : w.cell? ⟨b.block, b.off + 8, none⟩ = some (.int .i64 v.c.o.n)
  c9 : w.cell? ⟨b.block, b.off + 9, none⟩ = some (.string v.c.o.x)
  c10 : w.cell? ⟨b.block, b.off + 10, none⟩ = some (.slice v.da v.c.o.ds.length v.dc)
theorem Cms.at_ {w : World} {a : Option Addr} {c : Nat} {l : List Cw} (h : Cms w a c l) {i : Nat} {v : Cw} (hv : l[i]? = some v) : ∃ ad, a = some ad ∧ CwC w (ad.add (i * 11)) v ∧ ad.block < w.heap.size := by
  have hi := (List.getElem?_eq_some_iff.1 hv).1
  rcases h.sl.2.2.2 with ⟨_, h5, _⟩ | ⟨ad, rfl, hc⟩
  · omega
  · have g : ∀ j, j < 11 → w.cell? (ad.add (i * 11 + j)) = (ccel v)[j]? := fun j hj => by
      have e := ccs_at hv j hj
      have e2 : (ccel v)[j]? = some ((ccel v)[j]'(by rw [ccel_len]; exact hj)) := by simp
      rw [e2]
      exact hc _ _ (by rw [e, e2])
    have g0 := g 0 (by omega)
    have g1 := g 1 (by omega)
    have g2 := g 2 (by omega)
    have g3 := g 3 (by omega)
    have g4 := g 4 (by omega)
    have g5 := g 5 (by omega)
    have g6 := g 6 (by omega)
    have g7 := g 7 (by omega)
    have g8 := g 8 (by omega)
    have g9 := g 9 (by omega)
    have g10 := g 10 (by omega)
    rw [Nat.add_zero] at g0
    rw [← Go.Deep.add_add] at g1 g2 g3 g4 g5 g6 g7 g8 g9 g10
    refine ⟨ad, rfl, ⟨g0, g1, g2, g3, g4, g5, g6, g7, g8, g9, g10⟩, ?_⟩
    have := World.block_lt_of_cell? w _ g0
    rwa [add_block] at this
end Go.Proofs.YtbeblbgbngplhaaGreat
