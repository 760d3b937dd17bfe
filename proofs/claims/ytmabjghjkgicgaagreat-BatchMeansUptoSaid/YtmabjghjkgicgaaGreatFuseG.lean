/- fuse.both, whole: contract. | fuse.counter, register, set, log: contracts. | fuse.set, fuse.log: contracts. -/
import Derived.Test.YtmabjghjkgicgaaGreatFuseC
import Derived.Test.YtmabjghjkgicgaaGreatFuseE
import Derived.IntWalk
/- FuseG -/
namespace Go.Proofs.YtmabjghjkgicgaaGreat
open Go.RowKit
set_option linter.unusedVariables false
set_option linter.unusedSimpArgs false

end Go.Proofs.YtmabjghjkgicgaaGreat

/- FuseH -/
namespace Go.Proofs.YtmabjghjkgicgaaGreat
open Go.RowKit
set_option linter.unusedVariables false
set_option linter.unusedSimpArgs false

theorem wrap_is (n : Int) : IntKind.wrap .i64 n = wrap64 n := by
  simp only [IntKind.wrap, IntKind.signed, IntKind.bits, wrap64]
  simp
  split <;> omega
end Go.Proofs.YtmabjghjkgicgaaGreat

/- FuseI -/
namespace Go.Proofs.YtmabjghjkgicgaaGreat
open Go.RowKit
set_option linter.unusedVariables false
set_option linter.unusedSimpArgs false

theorem tombs_sorted {a b l v : List Dt} (hp : l.Perm (a ++ b)) (hu : v.Pairwise ltD) (hm : ∀ d, d ∈ v ↔ d ∈ l) : TombsOf a b v := ⟨hu, fun d => by rw [hm d, hp.mem_iff, List.mem_append]⟩
theorem owns9 {w : World} {s : Nat} {base : Nat} {e : TypeId} {size : Nat} {a : Option Addr} {n c m : Nat} {xs : List Value} (h : w.ownsRow base e size (.slice a n c) m xs) (hs : s < base) (x0 x1 x2 x3 x4 x5 x6 x7 x8 : Value) :
    (((((((((w.setCell ⟨s, 0, none⟩ x0).setCell ⟨s, 1, none⟩ x1).setCell ⟨s, 2, none⟩ x2).setCell ⟨s, 3, none⟩ x3).setCell ⟨s, 4, none⟩ x4).setCell ⟨s, 5, none⟩ x5).setCell ⟨s, 6, none⟩ x6).setCell ⟨s, 7, none⟩ x7).setCell ⟨s, 8, none⟩ x8).ownsRow base e size (.slice a n c) m xs := by
  have st : ∀ {W : World} (j : Nat) (x : Value), W.ownsRow base e size (.slice a n c) m xs → (W.setCell ⟨s, j, none⟩ x).ownsRow base e size (.slice a n c) m xs := fun {W} j x h =>
    owns_chg h (Chg.setCell W ⟨s, j, none⟩ x) (fun k hk => by have := (owns_lt h k hk).1; simp; omega)
  exact st _ _ (st _ _ (st _ _ (st _ _ (st _ _ (st _ _ (st _ _ (st _ _ (st _ _ h))))))))
end Go.Proofs.YtmabjghjkgicgaaGreat
