/- levels.of: the contract. -/
import Derived.Test.YthdmoplclllhjaaGreatLevA
import Derived.Test.YthdmoplclllhjaaGreatGraV
namespace Go.Proofs.YthdmoplclllhjaaGreat
open Go.RowKit
set_option linter.unusedVariables false
set_option linter.unusedSimpArgs false

/-- a graph whose commits are told -/
structure Coms (w : World) (g : Value) (L : List Cm) : Prop where
  coms : ∀ W, Below w.heap.size w W → Calls Tryz.prog 20 #[g] W (ComsTo W L)
  nodup : (L.map (·.d)).Nodup
  may : ∀ c ∈ L, CmP c
  max : L.length ≤ 200
theorem Coms.below {w w' : World} {g : Value} {L : List Cm} (h : Coms w g L) (hb : Below w.heap.size w w') : Coms w' g L := ⟨fun W hW => h.coms W (below2 hb hW hb.size), h.nodup, h.may, h.max⟩
theorem Coms.of {w : World} {pg mb : Nat} {w0 : World} {m : Nat} {b : Bw} {L : List Cw} {va : Option Addr} {vc : Nat} {vv : List Dt} (h : GrAt w pg mb w0 m b L va vc vv) : Coms w (.pointer (some ⟨pg, 0, none⟩)) (cms L) :=
  ⟨fun W hW => commits_G pg mb w0 m b L va vc vv W (h.below hW), h.nodup, fun c hc => (by obtain ⟨v, hv, rfl⟩ := List.mem_map.1 hc; exact h.may v hv), by unfold cms; rw [List.length_map]; exact h.max⟩
theorem Coms.no {w : World} {g : Value} (h : NoG w g) : Coms w g [] :=
  ⟨fun W hW => (commits_no g W (h.below hW)).mono fun e w' ⟨he, hw⟩ => by
    subst he hw
    exact ⟨none, 0, [], rfl, .refl _, .nil, World.ownsRow_nil _ _ _ _, by simp, Below.refl _ _⟩, List.nodup_nil, fun c hc => (by cases hc), by decide⟩
/-- levels as a map's elements -/
def lvV (S : List Cm) : Dt → Option Value := fun d => (lvF S d).map fun n => .int .i64 (n : Nat)
/-- while levels are laid -/
structure LvO (w wr : World) (mb : Nat) (a : Option Addr) (c : Nat) (ss : List Cw) (q : Nat) : Prop where
  map : MapN wr mb q (lvV (cms (ss.take q)))
  row : OwnC wr w.heap.size a c ss
  each : ∀ v ∈ ss, CwOwn wr w.heap.size v
  lo : w.heap.size ≤ mb
  bel : Below w.heap.size w wr
theorem LvO.below {w wr w2 : World} {mb : Nat} {a : Option Addr} {c : Nat} {ss : List Cw} {q : Nat} (h : LvO w wr mb a c ss q) (hb : Below wr.heap.size wr w2) : LvO w w2 mb a c ss q :=
  ⟨h.map.below hb, h.row.below hb, fun v hv => (h.each v hv).below hb, h.lo, below2 h.bel hb h.bel.size⟩
theorem cms_take_snoc {ss : List Cw} {q : Nat} {v : Cw} (h : ss[q]? = some v) : cms (ss.take (q + 1)) = cms (ss.take q) ++ [v.c] := by rw [take_snoc' h]; simp [cms]
theorem lvV_snoc (S : List Cm) (c : Cm) (d : Dt) : lvV (S ++ [c]) d = if d = c.d then some (.int .i64 ((lvMax (lvF S) c.ps + 1 : Nat) : Int)) else lvV S d := by
  unfold lvV
  rw [lvF_snoc]
  unfold lvStep
  by_cases e : d = c.d
  · simp [e]
  · simp [e]
theorem LvO.step {w wr w2 : World} {mb : Nat} {a : Option Addr} {c : Nat} {ss : List Cw} {q : Nat} {v : Cw} (h : LvO w wr mb a c ss q) (hv : ss[q]? = some v)
    (hm : MapN w2 mb (q + 1) (fun d => if d = v.c.d then some (.int .i64 ((lvMax (lvF (cms (ss.take q))) v.c.ps + 1 : Nat) : Int)) else lvV (cms (ss.take q)) d)) (hc : Chg [mb] wr w2) : LvO w w2 mb a c ss (q + 1) := by
  have hn := noRow_map h.map
  refine ⟨hm.congr fun d _ => by rw [cms_take_snoc hv, lvV_snoc], h.row.chg hc (fun k hk hm => ?_), fun v hv => (h.each v hv).chg hc hn, h.lo, h.bel.trans (hc.below h.bel.size (by simpa using h.lo))⟩
  obtain ⟨C, fr, hh⟩ := ob_row h.row k hk
  obtain ⟨es, clock, h2⟩ := h.map.block
  simp at hm
  subst hm
  rw [hh] at h2; cases h2
theorem OwnC.ptr {w : World} {base : Nat} {a : Option Addr} {c : Nat} {M : List Cw} (h : OwnC w base a c M) (h0 : 0 < M.length) : ∃ g, a = some ⟨g, 0, none⟩ := by
  rcases h.2 with ⟨h1, h2⟩ | ⟨g, cap, cur, h1, _⟩
  · simp at h1; omega
  · simp at h1; exact ⟨g, h1.1⟩
theorem fresh_at {ss : List Cw} (hn : ((cms ss).map (·.d)).Nodup) {q : Nat} {v : Cw} (hv : ss[q]? = some v) : lvV (cms (ss.take q)) v.c.d = none := by
  unfold lvV
  rw [Option.map_eq_none_iff, lvF_none]
  intro c hc e
  obtain ⟨u, hu, rfl⟩ := List.mem_map.1 hc
  obtain ⟨i, hi⟩ := List.getElem?_of_mem hu
  rw [List.getElem?_take] at hi
  split at hi
  · rename_i hlt
    obtain ⟨h1, rfl⟩ := List.getElem?_eq_some_iff.1 hi
    obtain ⟨h2, rfl⟩ := List.getElem?_eq_some_iff.1 hv
    unfold cms at hn
    rw [List.map_map] at hn
    have h3 := List.pairwise_iff_getElem.1 hn i q (by simpa using h1) (by simpa using h2) hlt
    simp at h3
    exact h3 e
  · cases hi
end Go.Proofs.YthdmoplclllhjaaGreat
