/- slices.DeleteFunc of dots in a row of their own, by any function: contract. | graph.Heads: contract. -/
import Derived.Test.YthdmoplclllhjaaGreatGraJ
import Derived.Test.YthdmoplclllhjaaGreatFuseA
/- GraK -/
namespace Go.Proofs.YthdmoplclllhjaaGreat
open Go.RowKit
set_option linter.unusedVariables false
set_option linter.unusedSimpArgs false

def keepP (p : Dt → Bool) (l : List Dt) : List Dt := l.filter fun d => !p d
theorem keepP_none {p : Dt → Bool} {l : List Dt} (h : ∀ d ∈ l, p d = false) : keepP p l = l := List.filter_eq_self.2 fun d hd => by rw [h d hd]; rfl
theorem keepP_snoc {p : Dt → Bool} {l : List Dt} {q : Nat} {d : Dt} (hd : l[q]? = some d) : keepP p (l.take (q + 1)) = if p d = true then keepP p (l.take q) else keepP p (l.take q) ++ [d] := by
  unfold keepP
  rw [take_snoc' hd, List.filter_append]
  cases hp : p d <;> simp [hp]
/-- the first jj of l are gone through, kk are kept at the start of cur -/
structure DelI (p : Dt → Bool) (l cur : List Dt) (kk jj : Nat) : Prop where
  len : cur.length = l.length
  lt : kk < jj ∧ jj ≤ l.length
  kept : cur.take kk = keepP p (l.take jj)
  rest : ∀ i, jj ≤ i → cur[i]? = l[i]?
theorem DelI.start {p : Dt → Bool} {l : List Dt} {q : Nat} {d : Dt} (hd : l[q]? = some d) (hp : p d = true) (h : ∀ s ∈ l.take q, p s = false) : DelI p l l q (q + 1) :=
  ⟨rfl, ⟨Nat.lt_succ_self _, (List.getElem?_eq_some_iff.1 hd).1⟩, by rw [keepP_snoc hd, if_pos hp, keepP_none h], fun _ _ => rfl⟩
theorem DelI.skip {p : Dt → Bool} {l cur : List Dt} {kk jj : Nat} {d : Dt} (h : DelI p l cur kk jj) (hd : l[jj]? = some d) (hp : p d = true) : DelI p l cur kk (jj + 1) :=
  ⟨h.len, ⟨by have := h.lt; omega, (List.getElem?_eq_some_iff.1 hd).1⟩, by rw [keepP_snoc hd, if_pos hp, h.kept], fun i hi => h.rest i (by omega)⟩
theorem DelI.keep {p : Dt → Bool} {l cur : List Dt} {kk jj : Nat} {d : Dt} (h : DelI p l cur kk jj) (hd : l[jj]? = some d) (hp : p d = false) : DelI p l (cur.set kk d) (kk + 1) (jj + 1) := by
  have hjl := (List.getElem?_eq_some_iff.1 hd).1
  have hkl : kk < cur.length := by have := h.lt; have := h.len; omega
  refine ⟨by rw [List.length_set, h.len], ⟨by have := h.lt; omega, hjl⟩, ?_, fun i hi => ?_⟩
  · rw [keepP_snoc hd, if_neg (by rw [hp]; simp), ← h.kept]
    have hs : (cur.set kk d)[kk]? = some d := by rw [List.getElem?_set_self hkl]
    rw [take_snoc' hs, List.take_set_of_le (Nat.le_refl _)]
  · rw [List.getElem?_set_ne (by have := h.lt; omega)]
    exact h.rest i (by omega)
theorem DelI.done {p : Dt → Bool} {l cur : List Dt} {kk : Nat} (h : DelI p l cur kk l.length) : cur.take kk = keepP p l := by have := h.kept; rwa [List.take_length] at this
end Go.Proofs.YthdmoplclllhjaaGreat

/- GraL -/
namespace Go.Proofs.YthdmoplclllhjaaGreat
open Go.RowKit
set_option linter.unusedVariables false
set_option linter.unusedSimpArgs false

theorem fvW_mem {L : List Cw} (hn : ((cms L).map (·.d)).Nodup) {v : Cw} (hv : v ∈ L) : fdW L v.c.d = some v := by
  induction L with
  | nil => cases hv
  | cons a L ih =>
    unfold cms at hn
    rw [List.map_cons, List.map_cons, List.nodup_cons] at hn
    unfold fdW
    rw [List.find?_cons]
    by_cases e : a.c.d = v.c.d
    · rw [decide_eq_true e]
      rcases List.mem_cons.1 hv with rfl | h
      · rfl
      · exact absurd (List.mem_map.2 ⟨v.c, List.mem_map.2 ⟨v, h, rfl⟩, e.symm⟩) hn.1
    · rw [decide_eq_false e]
      rcases List.mem_cons.1 hv with rfl | h
      · exact absurd rfl e
      · exact ih hn.2 h
theorem fvW_some {L : List Cw} {d : Dt} {x : Value} (h : fvW L d = some x) : ∃ v ∈ L, v.c.d = d ∧ x = cwv v := by
  unfold fvW at h
  cases hf : fdW L d with
  | none => rw [hf] at h; cases h
  | some v => rw [hf] at h; exact ⟨v, (fdW_some hf).1, (fdW_some hf).2, (Option.some.inj h).symm⟩
theorem same_of_d {L : List Cw} (hn : ((cms L).map (·.d)).Nodup) {u v : Cw} (hu : u ∈ L) (hv : v ∈ L) (h : u.c.d = v.c.d) : u = v := by
  have h1 := fvW_mem hn hu
  rw [h, fvW_mem hn hv] at h1
  exact (Option.some.inj h1).symm
end Go.Proofs.YthdmoplclllhjaaGreat
