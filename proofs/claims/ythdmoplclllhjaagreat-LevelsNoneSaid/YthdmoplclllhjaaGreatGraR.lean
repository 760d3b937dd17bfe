/- A graph that is not there, or was not made: it refuses. -/
import Derived.Test.YthdmoplclllhjaaGreatGraQ
namespace Go.Proofs.YthdmoplclllhjaaGreat
open Go.RowKit
set_option linter.unusedVariables false
set_option linter.unusedSimpArgs false

/-- no graph -/
def NoG (w : World) (g : Value) : Prop := g = .pointer none ∨ ∃ pg, g = .pointer (some ⟨pg, 0, none⟩) ∧ w.cell? ⟨pg, 5, none⟩ = some (.map none)
theorem NoG.below {w w' : World} {g : Value} (h : NoG w g) (hb : Below w.heap.size w w') : NoG w' g := by
  rcases h with h | ⟨pg, h, hc⟩
  · exact .inl h
  · exact .inr ⟨pg, h, by rw [(bcell hb).1 _ _ (World.block_lt_of_cell? w _ hc)]; exact hc⟩
theorem none_no {w : World} {g : Value} (h : NoG w g) : Calls Tryz.prog 72 #[g] w fun e w' => e = .returned (.bool true) ∧ w' = w := by
  rcases h with rfl | ⟨pg, rfl, hc⟩
  · exact none_nil w
  · exact none_zero pg w hc
abbrev zcommit : Value := .agg (ccells 0 0 0 none 0 0 none 0 0 0 0 none 0 0 0 ⟨#[]⟩ none 0 0)
set_option maxRecDepth 100000 in
theorem get_no (g : Value) (d : Value) (w : World) (h : NoG w g) (r i s : Int) (hd : d = .agg #[.int .u8 r, .int .u32 i, .int .u64 s]) : Calls Tryz.prog 41 #[g, d] w fun e w' => e = .returned (.tuple #[zcommit, .bool false]) ∧ Below w.heap.size w w' := by
  subst hd
  have H := Lib.hid h
  have hB : Below w.heap.size w ((w.alloc (.cells #[.int .u8 r, .int .u32 i, .int .u64 s] 41)).alloc (.cells (ccells 0 0 0 none 0 0 none 0 0 0 0 none 0 0 0 ⟨#[]⟩ none 0 0) 46)) := ((Below.refl _ _).alloc (Nat.le_refl _) _).alloc (by simp) _
  have HB := Lib.hid hB
  clear h hB
  go_enter Tryz.func41, Tryz.ntmps41
  go_wp2_with fail
  refine (none_no (H.out.below HB.out)).mono ?_
  rintro e w1 ⟨rfl, rfl⟩
  go_wp2_with fail
  exact bodyPost_ret (v := .tuple #[zcommit, .bool false]) (by simp [results, Tryz.results41, go_sem]; try rfl) rfl ⟨rfl, HB.out⟩
set_option maxRecDepth 100000 in
theorem insert_no (g : Value) (C : Array Value) (w : World) (h : NoG w g) (r i s : Int) (qa : Option Addr) (qn qc : Nat) (va : Option Addr) (vn vc : Nat) (t k : Int) (pa : Option Addr) (pn pc : Nat) (n : Int) (x : ByteArray) (da : Option Addr) (dn dc : Nat) (hC : C = ccells r i s qa qn qc va vn vc t k pa pn pc n x da dn dc) :
    Calls Tryz.prog 17 #[g, .agg C] w fun e w' => e = .returned (.int .i64 1) ∧ Below w.heap.size w w' := by
  subst hC
  have H := Lib.hid h
  have hB : Below w.heap.size w ((w.alloc (.cells #[g] 33)).alloc (.cells (ccells r i s qa qn qc va vn vc t k pa pn pc n x da dn dc) 46)) := ((Below.refl _ _).alloc (Nat.le_refl _) _).alloc (by simp) _
  have HB := Lib.hid hB
  have hg : g.oneCell' = true := by rcases h with rfl | ⟨pg, rfl, _⟩ <;> rfl
  clear h hB
  obtain ⟨p, rfl⟩ : ∃ p, g = .pointer p := by rcases H.out with rfl | ⟨pg, rfl, _⟩ <;> exact ⟨_, rfl⟩
  go_enter Tryz.func17, Tryz.ntmps17
  go_wp2_with fail
  refine (none_no (H.out.below HB.out)).mono ?_
  rintro e w1 ⟨rfl, rfl⟩
  go_wp2_with fail
  go_ret
  exact ⟨rfl, HB.out⟩
theorem commits_no (g : Value) (w : World) (h : NoG w g) : Calls Tryz.prog 20 #[g] w fun e w' => e = .returned (.slice none 0 0) ∧ w' = w := by
  have H := Lib.hid h
  clear h
  go_enter Tryz.func20, Tryz.ntmps20
  go_wp2_with fail
  refine (none_no H.out).mono ?_
  rintro e w1 ⟨rfl, rfl⟩
  go_wp2_with fail
  go_ret
  exact ⟨rfl, rfl⟩
theorem base_no (g : Value) (w : World) (h : NoG w g) : Calls Tryz.prog 39 #[g] w fun e w' => e = .returned (.agg (basecells 0 none 0 0 none 0 0 0 none 0 0)) ∧ Below w.heap.size w w' := by
  have H := Lib.hid h
  have hB : Below w.heap.size w (w.alloc (.cells (basecells 0 none 0 0 none 0 0 0 none 0 0) 28)) := (Below.refl _ _).alloc (Nat.le_refl _) _
  have HB := Lib.hid hB
  clear h hB
  go_enter Tryz.func39, Tryz.ntmps39
  go_wp2_with fail
  refine (none_no (H.out.below HB.out)).mono ?_
  rintro e w1 ⟨rfl, rfl⟩
  go_wp2_with fail
  exact bodyPost_ret (v := .agg (basecells 0 none 0 0 none 0 0 0 none 0 0)) (by simp [results, Tryz.results39, go_sem]; try rfl) rfl ⟨rfl, HB.out⟩
end Go.Proofs.YthdmoplclllhjaaGreat
