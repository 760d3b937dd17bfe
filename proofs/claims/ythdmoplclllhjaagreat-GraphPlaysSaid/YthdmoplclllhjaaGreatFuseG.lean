/- fuse.both: the items of two leaves that are no tombs, rising: contract. | fuse.both, whole: contract. | fuse.counter, register, set, log: contracts. | fuse.set, fuse.log: contracts. -/
import Derived.Test.YthdmoplclllhjaaGreatFuseA
import Derived.IntWalk
/- FuseF -/
namespace Go.Proofs.YthdmoplclllhjaaGreat
open Go.RowKit
set_option linter.unusedVariables false
set_option linter.unusedSimpArgs false

end Go.Proofs.YthdmoplclllhjaaGreat

/- FuseG -/
namespace Go.Proofs.YthdmoplclllhjaaGreat
open Go.RowKit
set_option linter.unusedVariables false
set_option linter.unusedSimpArgs false

end Go.Proofs.YthdmoplclllhjaaGreat

/- FuseH -/
namespace Go.Proofs.YthdmoplclllhjaaGreat
open Go.RowKit
set_option linter.unusedVariables false
set_option linter.unusedSimpArgs false

end Go.Proofs.YthdmoplclllhjaaGreat

/- FuseI -/
namespace Go.Proofs.YthdmoplclllhjaaGreat
open Go.RowKit
set_option linter.unusedVariables false
set_option linter.unusedSimpArgs false

theorem ltD_nodup {v : List Dt} (h : v.Pairwise ltD) : v.Nodup := List.Pairwise.imp (S := fun x y => x ≠ y) (fun {x y} (hxy : ltD x y) (e : x = y) => ltD_irrefl x (by rw [← e] at hxy; exact hxy)) h
end Go.Proofs.YthdmoplclllhjaaGreat
