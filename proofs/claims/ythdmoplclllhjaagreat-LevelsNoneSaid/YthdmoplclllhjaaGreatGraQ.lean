/- varvelaw12.known: the page's examples hold. -/
import Derived.Test.YthdmoplclllhjaaGreatGraO
namespace Go.Proofs.YthdmoplclllhjaaGreat
open Go.RowKit
set_option linter.unusedVariables false
set_option linter.unusedSimpArgs false

theorem hasG_nil (d : Dt) : hasG [] (findC []) d = false := by
  unfold hasG hasV
  have : getN [] d.1 = 0 := rfl
  rw [this]
  show (false || (may d && decide (d.2 ≤ 0))) = false
  cases h : may d with
  | false => rfl
  | true => have := ((may_iff d).1 h).2.1; simp; omega
/-- the blocks of known -/
structure KnE (s : Nat) (w : World) : Prop where
  d : w.heap[s]? = some (.cells #[.int .u8 0, .int .u32 1, .int .u64 1] 41 (0, 0))
  v : w.heap[s + 1]? = some (.cells #[.int .u8 0, .int .u32 1, .int .u64 1] 41 (0, 0))
  p : w.heap[s + 2]? = some (.cells #[.string ⟨#[97]⟩] 9 (0, 0))
  c : w.heap[s + 3]? = some (.cells (ccells 0 1 1 none 0 0 (some ⟨s + 1, 0, none⟩) 1 1 1 1 (some ⟨s + 2, 0, none⟩) 1 1 5 ⟨#[]⟩ none 0 0) 46 (0, 0))
  q : w.heap[s + 5]? = some (.cells #[.int .u8 0, .int .u32 1, .int .u64 1] 41 (0, 0))
  u : w.heap[s + 6]? = some (.cells #[.int .u8 0, .int .u32 1, .int .u64 1, .int .u8 1, .int .u32 1, .int .u64 1] 41 (0, 0))
theorem KnE.chg {s : Nat} {w w' : World} {F : List Nat} (h : KnE s w) (hc : Chg F w w') (hF : ∀ k ∈ F, k < s) : KnE s w' := by
  have hn : ∀ j, s + j ∉ F := fun j hj => by have := hF _ hj; omega
  exact ⟨heap_chg h.d hc (hn 0), heap_chg h.v hc (hn 1), heap_chg h.p hc (hn 2), heap_chg h.c hc (hn 3), heap_chg h.q hc (hn 5), heap_chg h.u hc (hn 6)⟩
theorem KnE.below {s : Nat} {w w' : World} (h : KnE s w) (hb : Below w.heap.size w w') : KnE s w' := h.chg (F := []) (Chg.of_below hb) (fun k hk => by cases hk)
theorem heap_at (w : World) (o : Obj) {k : Nat} (h : k = w.heap.size) : (w.alloc o).heap[k]? = some o := by subst h; exact heap_new w o
theorem held_new {w w' : World} {q : Nat} {C : Array Value} {t : TypeId} {fr : Nat × Nat} (h : w.heap[q]? = some (.cells C t fr)) (h' : w'.heap[q]? = some (.cells C t fr)) : Held (fun k => k = q) w w' := by
  refine .inr fun k o hk ho => ?_
  have hk : k = q := hk
  subst hk
  rw [h] at ho
  have ho := Option.some.inj ho
  subst ho
  exact ⟨fun at_ u e => (by cases e), h'⟩
end Go.Proofs.YthdmoplclllhjaaGreat
