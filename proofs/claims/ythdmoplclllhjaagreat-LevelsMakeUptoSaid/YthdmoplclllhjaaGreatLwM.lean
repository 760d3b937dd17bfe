/- varveref12.Graph.Greatest: the contract. | The plain law of LevelsMake: levels, chains and pairs are told in one way alone. No program in sight. | varveref47.lay, Level: the contracts. | varveref47.Levels: the contract. | varveref47.Beside, Pairs; levels.Width: the contracts. (printed by wip/tools/genmkc.py) | varveref47.Chain: the contract. (printed by wip/tools/genmkd.py) | varvelaw47.LevelsShape: the walk. | varvelaw47.LevelsMake: the walk. -/
import Derived.Test.YthdmoplclllhjaaGreatRgE
import Derived.Test.YthdmoplclllhjaaGreatRefLA
import Derived.Test.YthdmoplclllhjaaGreatFuseA
import Derived.Test.YthdmoplclllhjaaGreatGraM
import Derived.Test.YthdmoplclllhjaaGreatChnD
import Derived.Test.YthdmoplclllhjaaGreatShpQ
import Derived.Test.YthdmoplclllhjaaGreatLwA
import Derived.Test.YthdmoplclllhjaaGreatBo47
import Derived.Test.YthdmoplclllhjaaGreatLevL
/- MkD -/
/- GtR -/
namespace Go.Proofs.YthdmoplclllhjaaGreat
open Go.RowKit
set_option linter.unusedVariables false
set_option linter.unusedSimpArgs false

theorem keepD (a : Option Addr) (c : Nat) (l : List Dt) (k : Nat) (hk : k ≤ l.length) (hc : l.length ≤ c) : ∃ u, u = l.take k ∧ (∀ W : World, (Instr.sliceAt 23 (.slice a l.length c) none (some (.int .i64 (k : Int))) none).run Tryz.prog W = .ok (.slice a (List.length u) c) W) ∧ ∀ w, Vec w a c l → Vec w a c u :=
  ⟨l.take k, rfl, fun W => by rw [slice_hiD a l.length c k (by omega) W, List.length_take, Nat.min_eq_left hk], fun w h => Vec.takeD h hk⟩
/-- one dot more, in its place -/
theorem ins_sorted {v : List Dt} {d : Dt} {k : Nat} (hv : v.Pairwise ltD) (h1 : ∀ y ∈ v.take k, lessD y d = true) (h2 : ∀ y, v[k]? = some y → lessD y d = false) (hd : d ∉ v) : ((v.take k ++ [d]) ++ v.drop k).Pairwise ltD := by
  have key : ∀ x ∈ v.drop k, ltD d x := by
    intro x hx
    obtain ⟨i, hi⟩ := List.getElem?_of_mem hx
    rw [List.getElem?_drop] at hi
    obtain ⟨hi1, hi2⟩ := List.getElem?_eq_some_iff.1 hi
    have hk : k < v.length := by omega
    have h3 := h2 v[k] (List.getElem?_eq_getElem hk)
    have hne : d ≠ v[k] := fun e => hd (e ▸ List.getElem_mem hk)
    have h4 : ltD d v[k] := by
      rcases lessD_total hne with h5 | h5
      · exact h5
      · rw [h5] at h3; cases h3
    rcases Nat.eq_zero_or_pos i with e | e
    · subst e; subst hi2; exact h4
    · have h5 := List.pairwise_iff_getElem.1 hv k (k + i) hk hi1 (by omega)
      rw [hi2] at h5
      exact ltD_trans h4 h5
  rw [List.pairwise_append, List.pairwise_append]
  refine ⟨⟨hv.sublist (List.take_sublist _ _), List.pairwise_singleton _ _, fun x hx y hy => ?_⟩, hv.sublist (List.drop_sublist _ _), fun x hx y hy => ?_⟩
  · rw [List.mem_singleton] at hy; subst hy; exact h1 x hx
  · rcases List.mem_append.1 hx with hx | hx
    · exact ltD_trans (h1 x hx) (key y hy)
    · rw [List.mem_singleton] at hx; subst hx; exact key y hy
theorem ins_mem {v : List Dt} {d : Dt} {k : Nat} (x : Dt) : x ∈ (v.take k ++ [d]) ++ v.drop k ↔ x ∈ v ∨ x = d := by
  rw [List.mem_append, List.mem_append, List.mem_singleton]
  have h : x ∈ v ↔ x ∈ v.take k ∨ x ∈ v.drop k := by rw [← List.mem_append, List.take_append_drop]
  rw [h]
  constructor
  · rintro ((h | h) | h)
    · exact .inl (.inl h)
    · exact .inr h
    · exact .inl (.inr h)
  · rintro ((h | h) | h)
    · exact .inl (.inl h)
    · exact .inr h
    · exact .inl (.inr h)
def goD (v : List Dt) (d : Dt) (k : Nat) : Bool := match v[k]? with | some y => lessD y d | none => false
theorem goD_some {v : List Dt} {d y : Dt} {k : Nat} (h : v[k]? = some y) : goD v d k = lessD y d := by unfold goD; rw [h]
theorem goD_none {v : List Dt} {d : Dt} {k : Nat} (h : v.length ≤ k) : goD v d k = false := by unfold goD; rw [List.getElem?_eq_none h]
end Go.Proofs.YthdmoplclllhjaaGreat

/- MkP -/
namespace Go.Proofs.YthdmoplclllhjaaGreat
open Go.RowKit
set_option linter.unusedVariables false
set_option linter.unusedSimpArgs false

/-- a rising row of just those dots -/
def SetP (v : List Dt) (P : Dt → Prop) : Prop := v.Pairwise ltD ∧ ∀ d, d ∈ v ↔ P d
theorem SetP.congr {v : List Dt} {P Q : Dt → Prop} (h : SetP v P) (e : ∀ d, P d ↔ Q d) : SetP v Q := ⟨h.1, fun d => by rw [h.2 d, e d]⟩
/-- one more, in its place -/
def LayP (l : List Dt) (d : Dt) (v : List Dt) : Prop := ∃ k, v = (l.take k ++ [d]) ++ l.drop k ∧ (∀ y ∈ l.take k, lessD y d = true) ∧ ∀ y, l[k]? = some y → lessD y d = false
theorem SetP.lay {l v : List Dt} {P : Dt → Prop} {d : Dt} (h : SetP l P) (hn : ¬ P d) (hl : LayP l d v) : SetP v (fun x => P x ∨ x = d) := by
  obtain ⟨k, rfl, h1, h2⟩ := hl
  exact ⟨ins_sorted h.1 h1 h2 (fun hm => hn ((h.2 d).1 hm)), fun x => by rw [ins_mem, h.2 x]⟩
theorem LayP.len {l v : List Dt} {d : Dt} (h : LayP l d v) : v.length = l.length + 1 := by
  obtain ⟨k, rfl, _⟩ := h
  simp only [List.length_append, List.length_take, List.length_drop, List.length_singleton]
  omega
/-- the first of a rising row is the least -/
theorem SetP.least {v : List Dt} {P : Dt → Prop} {d : Dt} (h : SetP v P) (hd : v[0]? = some d) : P d ∧ ∀ p, P p → lessD p d = false := by
  refine ⟨(h.2 d).1 (List.mem_of_getElem? hd), fun p hp => ?_⟩
  obtain ⟨i, hi⟩ := List.getElem?_of_mem ((h.2 p).2 hp)
  obtain ⟨k1, e1⟩ := List.getElem?_eq_some_iff.1 hi
  obtain ⟨k2, e2⟩ := List.getElem?_eq_some_iff.1 hd
  rcases Nat.eq_zero_or_pos i with e | e
  · subst e
    rw [e2] at e1
    subst e1
    exact lessD_irrefl _
  · have h3 := List.pairwise_iff_getElem.1 h.1 0 i k2 k1 e
    rw [e1, e2] at h3
    rw [← Bool.not_eq_true]
    intro h4
    have h5 := ltD_trans (show ltD p d from h4) h3
    exact ltD_irrefl _ h5
/-- levels laid from the lowest one on -/
structure LvB (S : List Cm) (V : List (List Dt)) (n : Nat) : Prop where
  on : ∀ i l, V[i]? = some l → SetP l (fun d => lvF S d = some (i + 1))
  ne : ∀ l ∈ V, l ≠ []
  le : V.length ≤ n
  gap : V.length = n ∨ ∀ d, lvF S d ≠ some (V.length + 1)
theorem LvB.start (S : List Cm) : LvB S [] 0 := ⟨fun i l h => by simp at h, fun l h => (by cases h), Nat.le_refl _, .inl rfl⟩
theorem LvB.put {S : List Cm} {V : List (List Dt)} {n : Nat} {l : List Dt} (hH : LvH S) (h : LvB S V n) (hl : SetP l (fun d => lvF S d = some (n + 1))) (hne : l ≠ []) : LvB S (V ++ [l]) (n + 1) := by
  obtain ⟨d, hd⟩ := List.exists_mem_of_ne_nil l hne
  have hg := (hl.2 d).1 hd
  have hn : V.length = n := by
    rcases h.gap with e | e
    · exact e
    · have h1 := h.le
      obtain ⟨k, hk⟩ : ∃ k, n + 1 = V.length + 1 + k := ⟨n - V.length, by omega⟩
      rw [hk] at hg
      obtain ⟨x, hx⟩ := hH.all k hg
      exact absurd hx (e x)
  refine ⟨fun i u hu => ?_, fun u hu => ?_, by simp; omega, .inl (by simp; omega)⟩
  · rcases snoc_at hu with h1 | ⟨h1, rfl⟩
    · exact h.on i u h1
    · rw [h1, hn]; exact hl
  · rcases List.mem_append.1 hu with h1 | h1
    · exact h.ne u h1
    · rw [List.mem_singleton] at h1; subst h1; exact hne
theorem LvB.skip {S : List Cm} {V : List (List Dt)} {n : Nat} {l : List Dt} (h : LvB S V n) (hl : SetP l (fun d => lvF S d = some (n + 1))) (he : l = []) : LvB S V (n + 1) := by
  refine ⟨h.on, h.ne, by have := h.le; omega, .inr fun d hd => ?_⟩
  rcases h.gap with e | e
  · rw [e] at hd
    have := (hl.2 d).2 hd
    rw [he] at this; cases this
  · exact e d hd
theorem LvB.done {S : List Cm} {V : List (List Dt)} (hH : LvH S) (h : LvB S V S.length) : LevP (lvF S) V := by
  refine ⟨fun l hl => ?_, fun i l hl d => (h.on i l hl).2 d, fun d n hd => ?_, ?_⟩
  · obtain ⟨i, hi⟩ := List.getElem?_of_mem hl
    exact (h.on i l hi).1
  · rcases h.gap with e | e
    · rw [e]; exact (lvF_le hd).2
    · refine Classical.byContradiction fun hn => ?_
      obtain ⟨k, hk⟩ : ∃ k, n = V.length + 1 + k := ⟨n - V.length - 1, by omega⟩
      rw [hk] at hd
      obtain ⟨x, hx⟩ := hH.all k hd
      exact e x hx
  · rcases Nat.eq_zero_or_pos V.length with e | e
    · exact .inl e
    · obtain ⟨k, hk⟩ : ∃ k, V.length = k + 1 := ⟨V.length - 1, by omega⟩
      have e2 : V[k]? = some V[k] := List.getElem?_eq_getElem (by omega)
      obtain ⟨d, hd⟩ := List.exists_mem_of_ne_nil _ (h.ne _ (List.getElem_mem (by omega : k < V.length)))
      exact .inr ⟨d, by rw [hk]; exact ((h.on k _ e2).2 d).1 hd⟩
/-- a chain from the bottom on, of which the n lowest lack -/
structure BuP (S : List Cm) (V : List (List Dt)) (C : List Dt) (n : Nat) : Prop where
  len : C.length + n = V.length
  pos : 0 < C.length
  lev : ∀ i d, C[i]? = some d → lvF S d = some (n + i + 1)
  top : ∀ l, V[V.length - 1]? = some l → C[C.length - 1]? = l[0]?
  step : ∀ i d c, C[i]? = some d → C[i + 1]? = some c.d → c ∈ S → d ∈ c.ps ∧ ∀ p ∈ c.ps, lvF S p = some (n + i + 1) → lessD p d = false
theorem BuP.start {S : List Cm} {V : List (List Dt)} {l : List Dt} {d : Dt} {k : Nat} (hV : LevP (lvF S) V) (hk : V.length = k + 1) (hl : V[k]? = some l) (hd : l[0]? = some d) : BuP S V [d] k := by
  refine ⟨by simp; omega, by simp, fun i x hx => ?_, fun u hu => ?_, fun i x c hx hc => ?_⟩
  · rcases snoc_at (T := []) hx with h | ⟨h, rfl⟩
    · cases h
    · simp at h
      subst h
      exact (hV.on k l hl x).1 (List.mem_of_getElem? hd)
  · rw [hk, Nat.add_sub_cancel, hl] at hu
    cases hu
    rw [hd]; rfl
  · rcases snoc_at (T := []) hc with h | ⟨h, _⟩
    · cases h
    · simp at h
theorem BuP.next {S : List Cm} {V : List (List Dt)} {C : List Dt} {n : Nat} {c : Cm} {d : Dt} (h : BuP S V C (n + 1)) (hc : c ∈ S) (hn : (S.map (·.d)).Nodup) (h0 : C[0]? = some c.d) (hd : d ∈ c.ps) (hl : lvF S d = some (n + 1)) (hm : ∀ p ∈ c.ps, lvF S p = some (n + 1) → lessD p d = false) : BuP S V (d :: C) n := by
  have hlen := h.len
  have hpos := h.pos
  refine ⟨by simp; omega, by simp, fun i x hx => ?_, fun l hl' => ?_, fun i x y hx hy hyS => ?_⟩
  · cases i with
    | zero => simp at hx; subst hx; rw [hl]
    | succ i => rw [List.getElem?_cons_succ] at hx; rw [h.lev i x hx]; congr 1; omega
  · rw [← h.top l hl', List.length_cons, Nat.add_sub_cancel]
    obtain ⟨k, hk⟩ : ∃ k, C.length = k + 1 := ⟨C.length - 1, by omega⟩
    rw [hk, List.getElem?_cons_succ, Nat.add_sub_cancel]
  · cases i with
    | zero =>
      simp at hx
      subst hx
      rw [List.getElem?_cons_succ, h0] at hy
      injection hy with hy
      have e : y = c := by
        have h3 := findC_mem hn hyS
        rw [← hy, findC_mem hn hc] at h3
        exact (Option.some.inj h3).symm
      subst e
      exact ⟨hd, fun p hp hpl => hm p hp hpl⟩
    | succ i =>
      rw [List.getElem?_cons_succ] at hx hy
      have h5 := h.step i x y hx hy hyS
      exact ⟨h5.1, fun p hp hpl => h5.2 p hp (by rw [hpl]; congr 1; omega)⟩
theorem BuP.done {S : List Cm} {V : List (List Dt)} {C : List Dt} (h : BuP S V C 0) : ChnP S V C :=
  ⟨h.len, fun i d hd => by rw [h.lev i d hd]; congr 1; omega, fun l hl => by
    have h1 := h.len
    rw [← h.top l hl]
    congr 1
    omega, fun i d c hd hc hcS => by
    have h5 := h.step i d c hd hc hcS
    exact ⟨h5.1, fun p hp hpl => h5.2 p hp (by rw [hpl]; congr 1; omega)⟩⟩
theorem lessD_eq {a b : Dt} (h1 : lessD a b = false) (h2 : lessD b a = false) : a = b := by
  refine Classical.byContradiction fun h => ?_
  rcases lessD_total h with h3 | h3
  · rw [h3] at h1; cases h1
  · rw [h3] at h2; cases h2
/-- there is one chain alone -/
theorem ChnP.uniq {S : List Cm} {V : List (List Dt)} {C D : List Dt} (hn : (S.map (·.d)).Nodup) (hC : ChnP S V C) (hD : ChnP S V D) : C = D := by
  have key : ∀ k i, i + k + 1 = V.length → C[i]? = D[i]? := by
    intro k
    induction k with
    | zero =>
      intro i hi
      have hi2 : V.length - 1 = i := by omega
      have e : V[i]? = some (V[i]'(by omega)) := List.getElem?_eq_getElem (by omega)
      have h1 := hC.top _ (by rw [hi2]; exact e)
      have h2 := hD.top _ (by rw [hi2]; exact e)
      rw [hi2] at h1 h2
      rw [h1, h2]
    | succ k ih =>
      intro i hi
      have h1 := ih (i + 1) (by omega)
      have c1 : i + 1 < C.length := by rw [hC.len]; omega
      have c2 : i + 1 < D.length := by rw [hD.len]; omega
      have e1 : C[i]? = some (C[i]'(by omega)) := List.getElem?_eq_getElem (by omega)
      have e2 : D[i]? = some (D[i]'(by omega)) := List.getElem?_eq_getElem (by omega)
      have e3 : C[i + 1]? = some C[i + 1] := List.getElem?_eq_getElem c1
      have l3 := hC.lev _ _ e3
      obtain ⟨c, hc, hcd⟩ := lvF_mem (S := S) (d := C[i + 1]) (by rw [l3]; rfl)
      rw [← hcd] at e3
      have s1 := hC.step i _ c e1 e3 hc
      have s2 := hD.step i _ c e2 (by rw [← h1]; exact e3) hc
      rw [e1, e2]
      congr 1
      exact lessD_eq (s2.2 _ s1.1 (hC.lev _ _ e1)) (s1.2 _ s2.1 (hD.lev _ _ e2))
  refine List.ext_getElem? fun i => ?_
  by_cases hi : i < V.length
  · exact key (V.length - i - 1) i (by omega)
  · rw [List.getElem?_eq_none (by rw [hC.len]; omega), List.getElem?_eq_none (by rw [hD.len]; omega)]
theorem BesP.uniq {L M : List Cm} {y : Cm} {u v : List Dt} (hp : L.Perm M) (hu : BesP L y u) (hv : BesP M y v) : u = v :=
  rising_ext (lt := ltD) ltD_irrefl (fun h k => ltD_trans h k) hu.1 hv.1 fun d => by
    rw [hu.2 d, hv.2 d]
    constructor
    · rintro ⟨c, hc, h⟩; exact ⟨c, hp.mem_iff.1 hc, h⟩
    · rintro ⟨c, hc, h⟩; exact ⟨c, hp.mem_iff.2 hc, h⟩
theorem BesP.len {S : List Cm} {y : Cm} {v : List Dt} (hn : (S.map (·.d)).Nodup) (h : BesP S y v) : v.length = (S.filter fun c => besideP y c).length := by
  have e : v.length = ((S.filter fun c => besideP y c).map (·.d)).length := by
    have h2 : ((S.filter fun c => besideP y c).map (·.d)).Nodup := hn.sublist ((List.filter_sublist).map _)
    refine Nat.le_antisymm (nodup_le_of_sub (ltD_nodup h.1) fun d hd => ?_) (nodup_le_of_sub h2 fun d hd => ?_)
    · obtain ⟨c, hc, rfl, hb⟩ := (h.2 d).1 hd
      exact List.mem_map.2 ⟨c, List.mem_filter.2 ⟨hc, hb⟩, rfl⟩
    · obtain ⟨c, hc, rfl⟩ := List.mem_map.1 hd
      have h3 := List.mem_filter.1 hc
      exact (h.2 _).2 ⟨c, h3.1, rfl, h3.2⟩
  rw [e, List.length_map]
/-- how many of the first k are beside the i-th -/
def cntB (S : List Cm) (i k : Nat) : Nat := match S[i]? with | some a => ((S.take k).filter fun b => besideP a b).length | none => 0
def bitB (S : List Cm) (i j : Nat) : Nat := match S[i]?, S[j]? with | some a, some b => if besideP a b then 1 else 0 | _, _ => 0
theorem cntB_succ {S : List Cm} {i k : Nat} (hk : k < S.length) : cntB S i (k + 1) = cntB S i k + bitB S i k := by
  have e : S[k]? = some S[k] := List.getElem?_eq_getElem hk
  unfold cntB bitB
  rw [e]
  cases S[i]? with
  | none => rfl
  | some a =>
    simp only
    rw [take_snoc' e, List.filter_append, List.length_append]
    cases h : besideP a S[k] <;> simp [h]
theorem bitB_comm (S : List Cm) (i j : Nat) : bitB S i j = bitB S j i := by
  unfold bitB
  cases S[i]? with
  | none => cases S[j]? <;> rfl
  | some a =>
    cases S[j]? with
    | none => rfl
    | some b => simp only; rw [beside_comm]
theorem sum_range {f : Nat → Nat} (k : Nat) : ((List.range (k + 1)).map f).sum = ((List.range k).map f).sum + f k := by
  rw [List.range_succ, List.map_append, List.sum_append]; simp
theorem sumR_add {f g h : Nat → Nat} {k : Nat} (e : ∀ i, i < k → f i = g i + h i) : ((List.range k).map f).sum = ((List.range k).map g).sum + ((List.range k).map h).sum := by
  induction k with
  | zero => rfl
  | succ k ih =>
    rw [sum_range, sum_range, sum_range, ih (fun i hi => e i (by omega)), e k (by omega)]
    omega
theorem sum_bits {S : List Cm} (i : Nat) : ∀ k, k ≤ S.length → ((List.range k).map fun j => bitB S j i).sum = cntB S i k := by
  intro k
  induction k with
  | zero => intro _; unfold cntB; cases S[i]? <;> simp
  | succ k ih =>
    intro hk
    rw [sum_range, ih (by omega), cntB_succ (by omega), bitB_comm]
/-- each pair is counted twice -/
theorem pairs_twice {S : List Cm} (hs : ∀ c ∈ S, hasV c.vv c.d = true) : ∀ k, k ≤ S.length → ((List.range k).map fun i => cntB S i k).sum = 2 * pairsP S k := by
  intro k
  induction k with
  | zero => intro _; rfl
  | succ k ih =>
    intro hk
    have h1 := ih (by omega)
    have hkl : k < S.length := by omega
    have h2 : bitB S k k = 0 := by
      unfold bitB
      rw [List.getElem?_eq_getElem hkl]
      simp only
      unfold besideP
      rw [hs _ (List.getElem_mem hkl)]
      rfl
    have h3 : pairsAt S k = cntB S k k := rfl
    rw [sum_range, sumR_add (g := fun i => cntB S i k) (h := fun i => bitB S i k) (fun i _ => cntB_succ hkl), h1, sum_bits k k (by omega), cntB_succ hkl, h2, pairsP_succ, h3]
    omega
end Go.Proofs.YthdmoplclllhjaaGreat

/- MkA -/
namespace Go.Proofs.YthdmoplclllhjaaGreat
open Go.RowKit
set_option linter.unusedVariables false
set_option linter.unusedSimpArgs false

def LayTo (w : World) (l : List Dt) (d : Dt) (e : Ending) (w' : World) : Prop := ∃ a c v, e = .returned (.slice a (List.length v) c) ∧ LayP l d v ∧ OwnD w' w.heap.size a c v ∧ Below w.heap.size w w'
set_option maxRecDepth 100000 in
set_option maxHeartbeats 8000000 in
theorem lay47_any (a : Option Addr) (c : Nat) (l : List Dt) (r i s : Int) (w : World) (h : Vec w a c l) (hn : l.length ≤ 1000) :
    Calls Tryz.prog 123 #[.slice a l.length c, .agg #[.int .u8 r, .int .u32 i, .int .u64 s]] w (LayTo w l ((r, i), s)) := by
  have H := Lib.hid h
  have hcap : l.length ≤ c := h.cap
  have E0 : Hid (BoxE 41 w (w.alloc (.cells #[.int .u8 r, .int .u32 i, .int .u64 s] 41)) #[.int .u8 r, .int .u32 i, .int .u64 s]) := Lib.hid ⟨heap_new _ _, (Below.refl _ _).alloc (Nat.le_refl _) _⟩
  clear h
  go_enter Tryz.func123, Tryz.ntmps123
  go_wp2_with fail
  go_loopw [5] (fun j wr => ∃ k : Nat, k ≤ l.length ∧ j = .int .i64 k ∧ Hid (∀ y ∈ l.take k, lessD y ((r, i), s) = true) ∧ Hid (BoxE 41 w wr #[.int .u8 r, .int .u32 i, .int .u64 s])) (fun j _ => l.length - (intOf j).toNat)
  case atStart => exact ⟨0, Nat.zero_le _, rfl, Lib.hid (by simp), E0⟩
  case round =>
    obtain ⟨k, hk, rfl, HA, E⟩ := hrel
    clear E0
    have ED := Lib.hid (E.out.step ((Below.refl _ _).drew))
    have d0 := cells_at E.out.blk
    have z0 := heap_lt E.out.blk
    go_upto_region 2 with (fail)
    go_cut [18] (fun u wz => u = .bool (goD l ((r, i), s) k) ∧ Hid (BoxE 41 w wz #[.int .u8 r, .int .u32 i, .int .u64 s]))
    case first =>
      by_cases hkl : k < l.length
      · obtain ⟨⟨⟨r3, i3⟩, s3⟩, hy⟩ : ∃ x, l[k]? = some x := ⟨l[k], by simp [hkl]⟩
        obtain ⟨ae, hae, f0, f1, f2, hl1⟩ := (H.out.below E.out.bel).at hy
        dsimp only at hae f0 f1 f2
        subst hae
        have HG := Lib.hid (goD_some (d := ((r, i), s)) hy)
        clear hy
        go_wp2_with fail
        refine region_text [([0, 1, 2, 3, 4, 5, 6, 7, 8, 9, 10, 11], false)] mixed (by kernel_rfl) ?_
        simp only [wpSegs, List.map_cons, List.map_nil, List.getD_cons_succ, List.getD_cons_zero]
        go_wp2_with fail
        refine (rless_any r3 i3 s3 r i s _).mono ?_
        rintro e w3 ⟨rfl, hb⟩
        have E3 := Lib.hid (ED.out.step hb)
        clear hb
        go_wp2_with fail
        refine And.intro (by kernel_rfl) ?_
        go_wp2_with fail
        go_meet
        exact ⟨by rw [HG.out], E3⟩
      · have HG := Lib.hid (goD_none (v := l) (d := ((r, i), s)) (k := k) (by omega))
        have x1 : decide ((k : Int) < (l.length : Int)) = false := decide_eq_false (by omega)
        go_wp2_with fail
        refine region_text [([0, 1, 2, 3, 4, 5, 6, 7, 8, 9, 10, 11], false)] mixed (by kernel_rfl) ?_
        simp only [wpSegs, List.map_cons, List.map_nil, List.getD_cons_succ, List.getD_cons_zero]
        go_wp2_with fail
        refine And.intro (by kernel_rfl) ?_
        go_wp2_with fail
        go_meet
        exact ⟨by rw [HG.out], ED⟩
    case rest =>
      obtain ⟨rfl, E3⟩ := hcut
      obtain ⟨wa, hwa⟩ : ∃ wa, wa = wc := ⟨_, rfl⟩
      subst hwa
      clear E ED d0 z0
      cases hgo : goD l ((r, i), s) k with
      | true =>
        have hkl : k < l.length := Classical.byContradiction fun h => by rw [goD_none (by omega)] at hgo; cases hgo
        have HA' := Lib.hid (show ∀ y ∈ l.take (k + 1), lessD y ((r, i), s) = true from by
          obtain ⟨y, hy⟩ : ∃ y, l[k]? = some y := ⟨l[k], by simp [hkl]⟩
          rw [goD_some hy] at hgo
          exact all_snoc (p := fun y : Dt => lessD y ((r, i), s) = true) hy HA.out hgo)
        clear hgo
        go_wp2_with fail
        go_roundw
        case rel => exact ⟨k + 1, by omega, by go_num, HA', E3⟩
        case measure => simp [intOf]; omega
      | false =>
        have HB := Lib.hid (show ∀ y, l[k]? = some y → lessD y ((r, i), s) = false from fun y hy => by rw [goD_some hy] at hgo; exact hgo)
        clear hgo
        obtain ⟨U, hU, hUr, hUs⟩ := keepD a c l k hk hcap
        obtain ⟨xa, xc, V, hV, hVr, hVs⟩ := cutD a c l k hk hcap
        have HPut := Lib.hid (show (l.take k ++ [((r, i), s)]) ++ l.drop k = (U ++ [((r, i), s)]) ++ V from by rw [hU, hV])
        have hUl : U.length ≤ 1000 := by rw [hU]; simp; omega
        have hVl : V.length ≤ 1000 := by rw [hV]; simp; omega
        have HUs := Lib.hid hUs
        have HVs := Lib.hid hVs
        clear hU hV hUs hVs
        have A1 : Hid (Below wa.heap.size wa (wa.alloc (.cells #[] 41))) := Lib.hid ((Below.refl _ _).alloc (Nat.le_refl _) _)
        go_wp2_with (at_builtin; go_must (refine wpList_appD rfl _ _ rfl wa.heap.size (some ⟨wa.heap.size, 0, none⟩) 0 [] rfl (OwnD.made wa (Nat.le_refl _)) a c U rfl (HUs.out _ (H.out.below (E3.out.step A1.out).bel)) ?n1 ?b1 ?_))
        case n1 => simp; omega
        case b1 => simp
        intro v1 a1 c1 wd hv1 ho1 hb1 hc1
        have Hv1 := Lib.hid (show v1 = U from hv1)
        have hl1 : v1.length ≤ 1000 := by rw [Hv1.out]; exact hUl
        have Hb1 := Lib.hid (A1.out.trans hb1)
        have Ho1 := Lib.hid ho1
        have E4 := Lib.hid (E3.out.step Hb1.out)
        clear hv1 ho1 hb1 hc1 hUr
        have d0 := cells_at E4.out.blk
        have z0 := heap_lt E4.out.blk
        have A2 : Hid (Below wd.heap.size wd (wd.alloc (.cells #[.int .u8 r, .int .u32 i, .int .u64 s] 41))) := Lib.hid ((Below.refl _ _).alloc (Nat.le_refl _) _)
        go_wp2_with (at_builtin; go_must (refine wpList_appD rfl _ _ rfl wa.heap.size a1 c1 v1 rfl (OwnD.below Ho1.out A2.out) (some ⟨wd.heap.size, 0, none⟩) 1 [((r, i), s)] rfl (vec_one (heap_new _ _)) ?n2 ?b2 ?_))
        case n2 => simp; omega
        case b2 => exact Nat.le_trans Hb1.out.size A2.out.size
        intro v2 a2 c2 we hv2 ho2 hb2 hc2
        have Hv2 := Lib.hid (show v2 = U ++ [((r, i), s)] by rw [hv2, Hv1.out])
        have hl2 : v2.length ≤ 1001 := by rw [Hv2.out]; simp; omega
        have Hb2 := Lib.hid ((below2 Hb1.out A2.out Hb1.out.size).trans hb2)
        have Ho2 := Lib.hid ho2
        clear hv2 ho2 hb2 hc2 d0 z0 A2 Ho1 E4
        go_wp2_with (at_builtin; go_must (refine wpList_appD rfl _ _ rfl wa.heap.size a2 c2 v2 rfl Ho2.out xa xc V rfl (HVs.out _ (H.out.below (E3.out.step Hb2.out).bel)) ?n3 ?b3 ?_))
        case n3 => omega
        case b3 => exact Hb2.out.size
        intro v3 a3 c3 wf hv3 ho3 hb3 hc3
        have Hv3 := Lib.hid (show v3 = (l.take k ++ [((r, i), s)]) ++ l.drop k by rw [hv3, Hv2.out, HPut.out])
        have Hb3 := Lib.hid (Hb2.out.trans hb3)
        have Ho3 := Lib.hid (OwnD.base (base' := w.heap.size) ho3 E3.out.bel.size)
        have Bf := Lib.hid (below2 E3.out.bel Hb3.out E3.out.bel.size)
        clear hv3 ho3 hb3 hc3 Ho2 HPut
        go_wp2_with fail
        go_ret
        exact ⟨a3, c3, v3, rfl, ⟨k, Hv3.out, HA.out, HB.out⟩, Ho3.out, Bf.out⟩
theorem eleven_at {W : World} {b : Nat} {a0 a1 a2 a3 a4 a5 a6 a7 a8 a9 a10 : Value} {t : TypeId} (h : W.heap[b]? = some (.cells #[a0, a1, a2, a3, a4, a5, a6, a7, a8, a9, a10] t (0, 0))) (x0 x1 x2 x3 x4 x5 x6 x7 x8 x9 x10 : Value) :
    (((((((((((W.setCell ⟨b, 0, none⟩ x0).setCell ⟨b, 1, none⟩ x1).setCell ⟨b, 2, none⟩ x2).setCell ⟨b, 3, none⟩ x3).setCell ⟨b, 4, none⟩ x4).setCell ⟨b, 5, none⟩ x5).setCell ⟨b, 6, none⟩ x6).setCell ⟨b, 7, none⟩ x7).setCell ⟨b, 8, none⟩ x8).setCell ⟨b, 9, none⟩ x9).setCell ⟨b, 10, none⟩ x10).heap[b]? = some (.cells #[x0, x1, x2, x3, x4, x5, x6, x7, x8, x9, x10] t (0, 0)) := by
  have h1 := Go.heap_setCell_same _ b 4 _ t x4 (Go.heap_setCell_same _ b 3 _ t x3 (Go.heap_setCell_same _ b 2 _ t x2 (Go.heap_setCell_same _ b 1 _ t x1 (Go.heap_setCell_same W b 0 _ t x0 h))))
  have h2 := Go.heap_setCell_same _ b 10 _ t x10 (Go.heap_setCell_same _ b 9 _ t x9 (Go.heap_setCell_same _ b 8 _ t x8 (Go.heap_setCell_same _ b 7 _ t x7 (Go.heap_setCell_same _ b 6 _ t x6 (Go.heap_setCell_same _ b 5 _ t x5 h1)))))
  simp only [List.setIfInBounds_toArray, List.set_cons_zero, List.set_cons_succ] at h2
  exact h2
theorem chg_eleven {W : World} {b : Nat} (x0 x1 x2 x3 x4 x5 x6 x7 x8 x9 x10 : Value) : Chg [b] W (((((((((((W.setCell ⟨b, 0, none⟩ x0).setCell ⟨b, 1, none⟩ x1).setCell ⟨b, 2, none⟩ x2).setCell ⟨b, 3, none⟩ x3).setCell ⟨b, 4, none⟩ x4).setCell ⟨b, 5, none⟩ x5).setCell ⟨b, 6, none⟩ x6).setCell ⟨b, 7, none⟩ x7).setCell ⟨b, 8, none⟩ x8).setCell ⟨b, 9, none⟩ x9).setCell ⟨b, 10, none⟩ x10) :=
  (((((((((((Chg.refl _ _).put _ _ (by simp)).put _ _ (by simp)).put _ _ (by simp)).put _ _ (by simp)).put _ _ (by simp)).put _ _ (by simp)).put _ _ (by simp)).put _ _ (by simp)).put _ _ (by simp)).put _ _ (by simp)).put _ _ (by simp)
/-- a commit in a box somewhere -/
structure BxC (w wr : World) (bx : Nat) (v : Cw) : Prop where
  blk : wr.heap[bx]? = some (.cells (cwcells v) 46 (0, 0))
  lo : w.heap.size ≤ bx
  bel : Below w.heap.size w wr
theorem BxC.step {w wr w' : World} {bx : Nat} {v : Cw} (h : BxC w wr bx v) (hb : Below wr.heap.size wr w') : BxC w w' bx v := ⟨(hb.block _ (heap_lt h.blk)).trans h.blk, h.lo, below2 h.bel hb h.bel.size⟩
set_option maxRecDepth 100000 in
set_option maxHeartbeats 16000000 in
theorem level_R (pw : Nat) (w0 : World) (m : Nat) (b : Bw) (S : List Cw) (la : Option Addr) (lc : Nat) (hH : LvH (cms S)) : ∀ (k : Nat) (r i s : Int) (y : Cm) (w : World), RgAt w pw w0 m b S la lc → findC (cms S) ((r, i), s) = some y → y.t.toNat ≤ k →
    Calls Tryz.prog 122 #[.pointer (some ⟨pw, 0, none⟩), .agg #[.int .u8 r, .int .u32 i, .int .u64 s]] w (fun e w' => e = .returned (.int .i64 ((lvMax (lvF (cms S)) y.ps : Nat) : Int)) ∧ Below w.heap.size w w') := by
  have HH := Lib.hid hH
  intro k
  induction k with
  | zero =>
    intro r i s y w h hf hk
    have := hH.dag.pos y (findC_some hf).1
    omega
  | succ k ih =>
    intro r i s y w h hf hk
    have IH := Lib.hid ih
    have H := Lib.hid h
    have Hf := Lib.hid hf
    have Hk := Lib.hid hk
    have hfew := h.few
    have E0 : Hid (BoxE 41 w (w.alloc (.cells #[.int .u8 r, .int .u32 i, .int .u64 s] 41)) #[.int .u8 r, .int .u32 i, .int .u64 s]) := Lib.hid ⟨heap_new _ _, (Below.refl _ _).alloc (Nat.le_refl _) _⟩
    rcases ixC_cases S ((r, i), s) with ⟨x1, x2⟩ | ⟨q, v, x1, x3, x4, x2⟩
    · rw [hf] at x2; cases x2
    have hvy : v.c = y := by rw [hf] at x2; exact (Option.some.inj x2).symm
    have hql : q < S.length := (List.getElem?_eq_some_iff.1 x3).1
    have HvS := Lib.hid (List.mem_of_getElem? x3)
    have Hx3 := Lib.hid x3
    have Hx1 := Lib.hid x1
    subst hvy
    have hpl : v.c.ps.length ≤ 64 := (h.may v HvS.out).few
    have hq2 : q < 200 := by omega
    clear h hf hk x1 x2 x3 x4 ih
    obtain ⟨⟨⟨⟨r1, i1⟩, s1⟩, ps, uu, t1, ⟨k1, n1, x1, p1, ds1⟩⟩, qa, qc, ua, uc, pa, pc, da, dc⟩ := v
    dsimp only at hpl
    go_enter Tryz.func122, Tryz.ntmps122
    go_upto_region 1 with (fail)
    go_cut [5] (fun p wx => ∃ bx : Nat, p = .pointer (some ⟨bx, 0, none⟩) ∧ Hid (BxC w wx bx ⟨⟨((r1, i1), s1), ps, uu, t1, ⟨k1, n1, x1, p1, ds1⟩⟩, qa, qc, ua, uc, pa, pc, da, dc⟩))
    case first =>
      have d0 := cells_at E0.out.blk
      have z0 := heap_lt E0.out.blk
      have RB := Lib.hid (H.out.below E0.out.bel)
      have g0 := cells_at RB.out.blk
      simp only [rgcells] at g0
      have gz := heap_lt RB.out.blk
      refine region_tree (.seg [0, 1, 2, 3, 4, 5] false (.fork (.seg [6] true (.seg [7, 8, 9, 10] false .done)) (.seg [9] false (.seg [6] true (.seg [7, 8, 10] false .done))))) mixed (by kernel_rfl) ?_
      simp only [wpSg, List.map_cons, List.map_nil, List.getD_cons_succ, List.getD_cons_zero]
      go_wp2_with fail
      refine And.intro ?_ ?_
      · go_wp2_with fail
        refine (find_R pw w0 m b S la lc r i s _ (RB.out.below ((Below.refl _ _).drew))).mono ?_
        rintro e w1 ⟨rfl, hb⟩
        rw [Hx1.out]
        have Hb := Lib.hid hb
        have E1 := Lib.hid (E0.out.step (((Below.refl _ _).drew).trans hb))
        obtain ⟨ad, had, ⟨c0, c1, c2, c3, c4, c5, c6, c7, c8, c9, c10⟩, hlb⟩ := (H.out.below E1.out.bel).rows.at_ Hx3.out
        dsimp only at c0 c1 c2 c3 c4 c5 c6 c7 c8 c9 c10
        subst had
        have X1 : Hid (BxC w (w1.alloc (.cells (ccells r1 i1 s1 qa ps.length qc ua uu.length uc t1 k1 pa p1.length pc n1 x1 da ds1.length dc) 46)) w1.heap.size ⟨⟨((r1, i1), s1), ps, uu, t1, ⟨k1, n1, x1, p1, ds1⟩⟩, qa, qc, ua, uc, pa, pc, da, dc⟩) := Lib.hid ⟨heap_new _ _, E1.out.bel.size, E1.out.bel.alloc E1.out.bel.size _⟩
        clear hb d0 z0 g0 gz
        go_wp2_with fail
        refine And.intro (Agree.of_below Hb.out) ?_
        go_wp2_with fail
        refine And.intro (by kernel_rfl) ?_
        go_wp2_with fail
        go_meet
        exact ⟨w1.heap.size, rfl, X1⟩
      · have hA : Below w.heap.size w ((w.alloc (.cells #[.int .u8 r, .int .u32 i, .int .u64 s] 41)).alloc (.cells (ccells 0 0 0 none 0 0 none 0 0 0 0 none 0 0 0 ⟨#[]⟩ none 0 0) 46)).drew := (((Below.refl _ _).alloc (Nat.le_refl _) _).alloc (by simp) _).drew
        have HA := Lib.hid hA
        clear hA d0 z0 g0 gz RB
        go_wp2_with fail
        refine (find_R pw w0 m b S la lc r i s _ (H.out.below HA.out)).mono ?_
        rintro e w1 ⟨rfl, hb⟩
        rw [Hx1.out]
        have Hb := Lib.hid hb
        have B1 := Lib.hid (below2 HA.out hb HA.out.size)
        have Z1 : Hid (w1.heap[w.heap.size + 1]? = some (.cells (ccells 0 0 0 none 0 0 none 0 0 0 0 none 0 0 0 ⟨#[]⟩ none 0 0) 46 (0, 0))) := Lib.hid ((hb.block _ (by simp)).trans (heap_new2 _ _ _))
        obtain ⟨ad, had, ⟨c0, c1, c2, c3, c4, c5, c6, c7, c8, c9, c10⟩, hlb⟩ := (H.out.below B1.out).rows.at_ Hx3.out
        dsimp only at c0 c1 c2 c3 c4 c5 c6 c7 c8 c9 c10
        subst had
        have d1 := cells_at Z1.out
        have f1 := free_at Z1.out
        have z1 := heap_lt Z1.out
        simp only [ccells] at d1
        have X1 : Hid (BxC w (((((((((((w1.setCell ⟨w.heap.size + 1, 0, none⟩ (.int .u8 r1)).setCell ⟨w.heap.size + 1, 1, none⟩ (.int .u32 i1)).setCell ⟨w.heap.size + 1, 2, none⟩ (.int .u64 s1)).setCell ⟨w.heap.size + 1, 3, none⟩ (.slice qa ps.length qc)).setCell ⟨w.heap.size + 1, 4, none⟩ (.slice ua uu.length uc)).setCell ⟨w.heap.size + 1, 5, none⟩ (.int .u64 t1)).setCell ⟨w.heap.size + 1, 6, none⟩ (.int .u8 k1)).setCell ⟨w.heap.size + 1, 7, none⟩ (.slice pa p1.length pc)).setCell ⟨w.heap.size + 1, 8, none⟩ (.int .i64 n1)).setCell ⟨w.heap.size + 1, 9, none⟩ (.string x1)).setCell ⟨w.heap.size + 1, 10, none⟩ (.slice da ds1.length dc)) (w.heap.size + 1) ⟨⟨((r1, i1), s1), ps, uu, t1, ⟨k1, n1, x1, p1, ds1⟩⟩, qa, qc, ua, uc, pa, pc, da, dc⟩) :=
          Lib.hid ⟨eleven_at Z1.out _ _ _ _ _ _ _ _ _ _ _, Nat.le_succ _, B1.out.trans ((chg_eleven _ _ _ _ _ _ _ _ _ _ _).below B1.out.size (by simp))⟩
        clear hb
        go_wp2_with fail
        refine And.intro (Agree.of_below Hb.out) ?_
        go_wp2_with fail
        refine And.intro (by kernel_rfl) ?_
        go_wp2_with fail
        go_meet
        exact ⟨w.heap.size + 1, rfl, X1⟩
    case rest =>
      obtain ⟨bx, rfl, X⟩ := hcut
      obtain ⟨wa, hwa⟩ : ∃ wa, wa = wc := ⟨_, rfl⟩
      subst hwa
      clear E0
      have hmx : ∀ (l : List Dt), lvMax (lvF (cms S)) l ≤ 200 := fun l => Nat.le_trans (lvMax_le (fun d n h => lvF_le h) l) (by unfold cms; rw [List.length_map]; exact hfew)
      have Hmx := Lib.hid hmx
      clear hmx
      go_wp2_with fail
      go_loopw [6, 7] (fun u j wr => ∃ (z n : Nat), z ≤ ps.length ∧ j = .int .i64 z ∧ u = .int .i64 (n : Int) ∧ n ≤ 200 ∧ Hid (n = lvMax (lvF (cms S)) (ps.take z)) ∧ Hid (BxC w wr bx ⟨⟨((r1, i1), s1), ps, uu, t1, ⟨k1, n1, x1, p1, ds1⟩⟩, qa, qc, ua, uc, pa, pc, da, dc⟩)) (fun _ j _ => ps.length - (intOf j).toNat)
      case atStart => exact ⟨0, 0, Nat.zero_le _, rfl, rfl, by decide, Lib.hid rfl, X⟩
      case round =>
        obtain ⟨z, n, hz, rfl, rfl, hn, HN, B⟩ := hrel
        clear X
        have d0 := cells_at B.out.blk
        simp only [cwcells, ccells] at d0
        have z0 := heap_lt B.out.blk
        by_cases hlz : z < ps.length
        · obtain ⟨⟨⟨r2, i2⟩, s2⟩, hx⟩ : ∃ y, ps[z]? = some y := ⟨ps[z], by simp [hlz]⟩
          obtain ⟨ad, had, e0, e1, e2, hl0⟩ := ((H.out.below B.out.bel).rows.each _ HvS.out).ps.at hx
          dsimp only at had e0 e1 e2
          subst had
          have Hx := Lib.hid hx
          have HNx := Lib.hid (show ∀ j : Nat, (lvF (cms S) ((r2, i2), s2)).getD 0 = j → max n j = lvMax (lvF (cms S)) (ps.take (z + 1)) from fun j hj => by rw [take_snoc' hx, lvMax_snoc, ← HN.out, hj])
          clear hx
          go_wp2_with fail
          refine (find_R pw w0 m b S la lc r2 i2 s2 _ (H.out.below B.out.bel)).mono ?_
          rintro e w2 ⟨rfl, hb⟩
          have B2 := Lib.hid (B.out.step hb)
          clear hb d0 z0 e0 e1 e2 hl0 B
          have d0 := cells_at B2.out.blk
          simp only [cwcells, ccells] at d0
          have z0 := heap_lt B2.out.blk
          rcases ixC_cases S ((r2, i2), s2) with ⟨f1, f2⟩ | ⟨q2, v2, f1, f3, f4, f2⟩
          · rw [f1]
            have hnone : lvF (cms S) ((r2, i2), s2) = none := lvF_none.2 (findC_none.1 f2)
            have HN2 := Lib.hid (show n = lvMax (lvF (cms S)) (ps.take (z + 1)) from by rw [← HNx.out 0 (by rw [hnone]; rfl)]; omega)
            have y1 : decide ((-1 : Int) < 0) = true := by decide
            clear f1 f2 hnone
            go_wp2_with fail
            go_roundw
            case rel => exact ⟨z + 1, n, by omega, by go_num, rfl, hn, HN2, B2⟩
            case measure => simp [intOf]; omega
          · rw [f1]
            have hv2 : v2.c ∈ cms S := (findC_some f2).1
            have htl : v2.c.t.toNat ≤ k := by
              have h1 := (HH.out.dag.up _ (findC_some Hf.out).1 ((r2, i2), s2) (List.mem_of_getElem? Hx.out) v2.c f2).1
              have h2 := HH.out.dag.pos v2.c hv2
              have h3 := Hk.out
              dsimp only at h1
              omega
            have hlv : lvF (cms S) ((r2, i2), s2) = some (lvMax (lvF (cms S)) v2.c.ps + 1) := by rw [← f4]; exact HH.out.at_ hv2
            have y1 : decide ((q2 : Int) < 0) = false := decide_eq_false (by omega)
            obtain ⟨mm, hmm⟩ : ∃ mm, mm = lvMax (lvF (cms S)) v2.c.ps := ⟨_, rfl⟩
            have hm2 : mm ≤ 200 := by rw [hmm]; exact Hmx.out _
            have HN2 := Lib.hid (show max n (mm + 1) = lvMax (lvF (cms S)) (ps.take (z + 1)) from HNx.out (mm + 1) (by rw [hlv, hmm]; rfl))
            have Hmm := Lib.hid hmm
            have Ht := Lib.hid htl
            have Hf2 := Lib.hid f2
            have hql2 : q2 < 200 := by have := (List.getElem?_eq_some_iff.1 f3).1; omega
            clear f1 f2 f3 f4 hv2 htl hlv hmm
            obtain ⟨ae, hae, e0, e1, e2, hl0⟩ := ((H.out.below B2.out.bel).rows.each _ HvS.out).ps.at Hx.out
            dsimp only at hae e0 e1 e2
            obtain rfl : ad = ae := Option.some.inj hae
            clear hae
            go_wp2_with fail
            refine (IH.out r2 i2 s2 v2.c _ (H.out.below B2.out.bel) Hf2.out Ht.out).mono ?_
            rintro e w3 ⟨rfl, hb⟩
            rw [← Hmm.out]
            have B3 := Lib.hid (B2.out.step hb)
            clear hb d0 z0 e0 e1 e2 hl0 B2
            by_cases hge : n ≤ mm
            · have y2 : decide ((n : Int) ≤ (mm : Int)) = true := decide_eq_true (by omega)
              have HN3 := Lib.hid (show mm + 1 = lvMax (lvF (cms S)) (ps.take (z + 1)) from by rw [← HN2.out]; omega)
              have hm3 : mm + 1 ≤ 200 := by rw [HN3.out]; exact Hmx.out _
              go_wp2_with fail
              go_roundw
              case rel => exact ⟨z + 1, mm + 1, by omega, by go_num, by go_num, hm3, HN3, B3⟩
              case measure => simp [intOf]; omega
            · have y2 : decide ((n : Int) ≤ (mm : Int)) = false := decide_eq_false (by omega)
              have HN3 := Lib.hid (show n = lvMax (lvF (cms S)) (ps.take (z + 1)) from by rw [← HN2.out]; omega)
              go_wp2_with fail
              go_roundw
              case rel => exact ⟨z + 1, n, by omega, by go_num, rfl, hn, HN3, B3⟩
              case measure => simp [intOf]; omega
        · have HNf := Lib.hid (show n = lvMax (lvF (cms S)) ps from by have h1 := HN.out; rwa [List.take_of_length_le (by omega)] at h1)
          go_wp2_with fail
          go_ret
          exact ⟨by dsimp only; rw [← HNf.out]; rfl, B.out.bel⟩
end Go.Proofs.YthdmoplclllhjaaGreat

/- MkB -/
namespace Go.Proofs.YthdmoplclllhjaaGreat
open Go.RowKit
set_option linter.unusedVariables false
set_option linter.unusedSimpArgs false

theorem cms_get {S : List Cw} {k : Nat} {v : Cw} (h : S[k]? = some v) : (cms S)[k]? = some v.c := by unfold cms; rw [List.getElem?_map, h]; rfl
/-- the document's levels, in rows of one's own -/
def LevRTo (w : World) (S : List Cm) (e : Ending) (w' : World) : Prop :=
  ∃ (a : Option Addr) (c : Nat) (R : List Rd), e = .returned (.slice a (List.length R) c) ∧ LevP (lvF S) (R.map (·.v)) ∧ OwnL w' w.heap.size a c R ∧ (∀ r ∈ R, OwnD w' w.heap.size r.a r.c r.v) ∧ R.length ≤ 200 ∧ (∀ r ∈ R, r.v.length ≤ 200) ∧ Below w.heap.size w w'
structure LvQ (w wr : World) (S : List Cm) (R : List Rd) (n : Nat) (oa : Option Addr) (oc : Nat) : Prop where
  own : OwnL wr w.heap.size oa oc R
  rows : ∀ r ∈ R, OwnD wr w.heap.size r.a r.c r.v
  lv : LvB S (R.map (·.v)) n
  few : ∀ r ∈ R, r.v.length ≤ 200
  bel : Below w.heap.size w wr
theorem LvQ.below {w wr w' : World} {S : List Cm} {R : List Rd} {n : Nat} {oa : Option Addr} {oc : Nat} (h : LvQ w wr S R n oa oc) (hb : Below wr.heap.size wr w') : LvQ w w' S R n oa oc :=
  ⟨owns_chg (F := []) h.own (Chg.of_below hb) (by simp), fun r hr => OwnD.below (h.rows r hr) hb, h.lv, h.few, below2 h.bel hb h.bel.size⟩
theorem LvQ.put {w wr w' : World} {S : List Cm} {R : List Rd} {n : Nat} {oa oa' : Option Addr} {oc oc' : Nat} {r : Rd} (h : LvQ w wr S R n oa oc) (hH : LvH S) (hl : SetP r.v (fun d => lvF S d = some (n + 1))) (hne : r.v ≠ []) (ho : OwnD wr w.heap.size r.a r.c r.v) (hf : r.v.length ≤ 200) (hc : Chg (ob oa) wr w') (how : OwnL w' w.heap.size oa' oc' (R ++ [r])) : LvQ w w' S (R ++ [r]) (n + 1) oa' oc' := by
  have key : ∀ x : Rd, OwnD wr w.heap.size x.a x.c x.v → OwnD w' w.heap.size x.a x.c x.v := fun x hx => owns_chg hx hc (fun k hk hm => owns_dif h.own hx sd_ne k hm hk)
  refine ⟨how, fun x hx => ?_, ?_, fun x hx => ?_, h.bel.trans (hc.below h.bel.size (fun k hk => (owns_lt h.own k hk).1))⟩
  · rcases List.mem_append.1 hx with hx | hx
    · exact key x (h.rows x hx)
    · rw [List.mem_singleton] at hx; subst hx; exact key _ ho
  · rw [List.map_append]
    exact h.lv.put hH hl hne
  · rcases List.mem_append.1 hx with hx | hx
    · exact h.few x hx
    · rw [List.mem_singleton] at hx; subst hx; exact hf
structure LvI (w wr : World) (S : List Cm) (n i : Nat) (l : List Dt) (xa : Option Addr) (xc : Nat) : Prop where
  own : OwnD wr w.heap.size xa xc l
  set : SetP l (fun d => ∃ c ∈ S.take i, c.d = d ∧ lvF S d = some (n + 1))
  len : l.length ≤ i
  bel : Below w.heap.size w wr
theorem LvI.below {w wr w' : World} {S : List Cm} {n i : Nat} {l : List Dt} {xa : Option Addr} {xc : Nat} (h : LvI w wr S n i l xa xc) (hb : Below wr.heap.size wr w') : LvI w w' S n i l xa xc :=
  ⟨OwnD.below h.own hb, h.set, h.len, below2 h.bel hb h.bel.size⟩
theorem LvI.skip {w wr : World} {S : List Cm} {n i : Nat} {l : List Dt} {xa : Option Addr} {xc : Nat} {c : Cm} (h : LvI w wr S n i l xa xc) (hc : S[i]? = some c) (hl : lvF S c.d ≠ some (n + 1)) : LvI w wr S n (i + 1) l xa xc := by
  refine ⟨h.own, h.set.congr fun d => ?_, by have := h.len; omega, h.bel⟩
  rw [take_snoc' hc]
  constructor
  · rintro ⟨x, hx, h1⟩; exact ⟨x, by simp [hx], h1⟩
  · rintro ⟨x, hx, rfl, h2⟩
    rcases List.mem_append.1 hx with hx | hx
    · exact ⟨x, hx, rfl, h2⟩
    · rw [List.mem_singleton] at hx; subst hx; exact absurd h2 hl
theorem LvI.put {w wr w' : World} {S : List Cm} {n i : Nat} {l v : List Dt} {xa ya : Option Addr} {xc yc : Nat} {c : Cm} (h : LvI w wr S n i l xa xc) (hn : (S.map (·.d)).Nodup) (hc : S[i]? = some c) (hl : lvF S c.d = some (n + 1)) (hv : LayP l c.d v) (ho : OwnD w' w.heap.size ya yc v) (hb : Below w.heap.size w w') : LvI w w' S n (i + 1) v ya yc := by
  refine ⟨ho, (h.set.lay ?_ hv).congr fun d => ?_, by rw [hv.len]; have := h.len; omega, hb⟩
  · rintro ⟨x, hx, hxd, _⟩
    obtain ⟨j, hj⟩ := List.getElem?_of_mem hx
    rw [List.getElem?_take] at hj
    split at hj
    · rename_i hlt
      obtain ⟨k1, e1⟩ := List.getElem?_eq_some_iff.1 hj
      obtain ⟨k2, e2⟩ := List.getElem?_eq_some_iff.1 hc
      have h2 := List.pairwise_iff_getElem.1 hn j i (by simpa using k1) (by simpa using k2) hlt
      simp only [List.getElem_map] at h2
      rw [e1, e2] at h2
      exact h2 hxd
    · cases hj
  · rw [take_snoc' hc]
    constructor
    · rintro (⟨x, hx, h1⟩ | rfl)
      · exact ⟨x, by simp [hx], h1⟩
      · exact ⟨c, by simp, rfl, hl⟩
    · rintro ⟨x, hx, rfl, h2⟩
      rcases List.mem_append.1 hx with hx | hx
      · exact .inl ⟨x, hx, rfl, h2⟩
      · rw [List.mem_singleton] at hx; subst hx; exact .inr rfl
theorem LvI.done {w wr : World} {S : List Cm} {n : Nat} {l : List Dt} {xa : Option Addr} {xc : Nat} (h : LvI w wr S n S.length l xa xc) : SetP l (fun d => lvF S d = some (n + 1)) := by
  refine h.set.congr fun d => ⟨fun ⟨c, _, _, h1⟩ => h1, fun h1 => ?_⟩
  obtain ⟨c, hc, hcd⟩ := lvF_mem (S := S) (d := d) (by rw [h1]; rfl)
  exact ⟨c, by rw [List.take_length]; exact hc, hcd, h1⟩
set_option maxRecDepth 100000 in
set_option maxHeartbeats 16000000 in
theorem levels_R (pw : Nat) (w0 : World) (m : Nat) (b : Bw) (S : List Cw) (la : Option Addr) (lc : Nat) (w : World) (h : RgAt w pw w0 m b S la lc) (hH : LvH (cms S)) :
    Calls Tryz.prog 58 #[.pointer (some ⟨pw, 0, none⟩)] w (LevRTo w (cms S)) := by
  have H := Lib.hid h
  have HH := Lib.hid hH
  have hfew := h.few
  have hSS : (cms S).length = S.length := by unfold cms; rw [List.length_map]
  have HSS := Lib.hid hSS
  have E0 : Hid (LvQ w w (cms S) [] 0 none 0) := Lib.hid ⟨OwnL.nil _ _, fun r hr => (by cases hr), LvB.start _, fun r hr => (by cases hr), Below.refl _ _⟩
  clear h hH hSS
  go_enter Tryz.func58, Tryz.ntmps58
  go_wp2_with fail
  go_loopw [3, 4] (fun o j wr => ∃ (n : Nat) (R : List Rd) (oa : Option Addr) (oc : Nat), n ≤ S.length ∧ j = .int .i64 n ∧ o = .slice oa (List.length R) oc ∧ Hid (LvQ w wr (cms S) R n oa oc)) (fun _ j _ => S.length - (intOf j).toNat)
  case atStart => exact ⟨0, [], none, 0, Nat.zero_le _, rfl, rfl, E0⟩
  case round =>
    obtain ⟨n, R, oa, oc, hn, rfl, rfl, E⟩ := hrel
    clear E0
    have hRl : R.length ≤ 200 := by have h1 := E.out.lv.le; rw [List.length_map] at h1; omega
    have RB := Lib.hid (H.out.below E.out.bel)
    have g0 := cells_at RB.out.blk
    simp only [rgcells] at g0
    have gz := heap_lt RB.out.blk
    by_cases hlt : n < S.length
    · have I0 : Hid (LvI w wr (cms S) n 0 [] none 0) := Lib.hid ⟨OwnD.nil _ _, ⟨List.Pairwise.nil, fun d => by simp⟩, Nat.zero_le _, E.out.bel⟩
      have hsz := E.out.bel.size
      go_wp2_with fail
      clear g0 gz RB
      go_loopw [5, 6] (fun u j wx => ∃ (i : Nat) (l : List Dt) (xa : Option Addr) (xc : Nat), i ≤ S.length ∧ j = .int .i64 i ∧ u = .slice xa (List.length l) xc ∧ Hid (LvI w wx (cms S) n i l xa xc) ∧ Hid (Below wr.heap.size wr wx)) (fun _ j _ => S.length - (intOf j).toNat)
      case atStart => exact ⟨0, [], none, 0, Nat.zero_le _, rfl, rfl, I0, Lib.hid (Below.refl _ _)⟩
      case round =>
        obtain ⟨i, l, xa, xc, hi, rfl, rfl, I, BX⟩ := hrel
        clear I0
        have hll : l.length ≤ 200 := by have := I.out.len; omega
        have RB := Lib.hid (H.out.below I.out.bel)
        have g0 := cells_at RB.out.blk
        simp only [rgcells] at g0
        have gz := heap_lt RB.out.blk
        by_cases hli : i < S.length
        · obtain ⟨u, hu⟩ : ∃ u, S[i]? = some u := ⟨S[i], by simp [hli]⟩
          obtain ⟨ad, had, ⟨c0, c1, c2, c3, c4, c5, c6, c7, c8, c9, c10⟩, hlb⟩ := RB.out.rows.at_ hu
          subst had
          have huS : u.c ∈ cms S := List.mem_map.2 ⟨u, List.mem_of_getElem? hu, rfl⟩
          have Huc := Lib.hid (cms_get hu)
          have Hu := Lib.hid hu
          have Hlv := Lib.hid (HH.out.at_ huS)
          have Hfd := Lib.hid (findC_mem HH.out.dag.nodup huS)
          clear hu huS c3 c4 c5 c6 c7 c8 c9 c10
          obtain ⟨⟨⟨⟨r, i2⟩, s⟩, ps, uu, t1, ⟨k1, n1, sx1, p1, ds1⟩⟩, qa1, qc1, ua1, uc1, pa1, pc1, da1, dc1⟩ := u
          dsimp only at c0 c1 c2
          go_wp2_with fail
          refine (level_R pw w0 m b S (some ad) lc HH.out _ r i2 s _ _ RB.out Hfd.out (Nat.le_refl _)).mono ?_
          rintro e w2 ⟨rfl, hb⟩
          dsimp only
          obtain ⟨mm, hmm⟩ : ∃ mm, mm = lvMax (lvF (cms S)) ps := ⟨_, rfl⟩
          rw [← hmm]
          have hlv2 : lvF (cms S) ((r, i2), s) = some (mm + 1) := by rw [hmm]; exact Hlv.out
          have Hlv2 := Lib.hid hlv2
          have I2 := Lib.hid (I.out.below hb)
          have BX2 := Lib.hid (below2 BX.out hb BX.out.size)
          clear hb c0 c1 c2 hlb g0 gz RB hmm hlv2 Hlv I BX
          have RB := Lib.hid (H.out.below I2.out.bel)
          have g0 := cells_at RB.out.blk
          simp only [rgcells] at g0
          have gz := heap_lt RB.out.blk
          by_cases hmn : mm = n
          · have x1 : ((mm : Int) == (n : Int)) = true := by rw [beq_iff_eq, hmn]
            obtain ⟨ad2, had2, ⟨c0, c1, c2, c3, c4, c5, c6, c7, c8, c9, c10⟩, hlb⟩ := RB.out.rows.at_ Hu.out
            obtain rfl : ad = ad2 := Option.some.inj had2
            dsimp only at c0 c1 c2
            have Hmn := Lib.hid hmn
            clear had2 hmn c3 c4 c5 c6 c7 c8 c9 c10
            go_wp2_with fail
            refine (lay47_any xa xc l r i2 s _ I2.out.own.vec (by omega)).mono ?_
            intro e w3 hto
            obtain ⟨ya, yc, v, rfl, hv, hov, hb3⟩ := hto
            have I3 := Lib.hid (I2.out.put (c := ⟨((r, i2), s), ps, uu, t1, ⟨k1, n1, sx1, p1, ds1⟩⟩) HH.out.dag.nodup Huc.out (by rw [← Hmn.out]; exact Hlv2.out) hv (OwnD.base (base' := w.heap.size) hov I2.out.bel.size) (below2 I2.out.bel hb3 I2.out.bel.size))
            have BX3 := Lib.hid (below2 BX2.out hb3 BX2.out.size)
            clear hv hov hb3 c0 c1 c2 g0 gz hlb RB x1
            go_wp2_with fail
            go_roundw
            case rel => exact ⟨i + 1, v, ya, yc, by omega, by go_num, rfl, I3, BX3⟩
            case measure => simp [intOf]; omega
          · have x1 : ((mm : Int) == (n : Int)) = false := by rw [beq_eq_false_iff_ne]; omega
            have I3 := Lib.hid (I2.out.skip Huc.out (by dsimp only; rw [Hlv2.out]; intro e; injection e with e; omega))
            go_wp2_with fail
            go_roundw
            case rel => exact ⟨i + 1, l, xa, xc, by omega, by go_num, rfl, I3, BX2⟩
            case measure => simp [intOf]; omega
        · have hii : i = (cms S).length := by rw [HSS.out]; omega
          have HI := Lib.hid (show SetP l (fun d => lvF (cms S) d = some (n + 1)) from LvI.done (by rw [← hii]; exact I.out))
          have EX := Lib.hid (E.out.below BX.out)
          clear hii
          by_cases hne : l.length = 0
          · have E3 : Hid (LvQ w wr (cms S) R (n + 1) oa oc) := Lib.hid ⟨EX.out.own, EX.out.rows, EX.out.lv.skip HI.out (List.length_eq_zero_iff.1 hne), EX.out.few, EX.out.bel⟩
            rw [hne]
            clear hne
            go_wp2_with fail
            go_roundw
            case rel => exact ⟨n + 1, R, oa, oc, by omega, by go_num, rfl, E3⟩
            case measure => simp [intOf]; omega
          · have hpos : 0 < l.length := by omega
            have x1 : decide ((0 : Int) < (l.length : Int)) = true := decide_eq_true (by omega)
            have Hne := Lib.hid (show l ≠ [] from fun e => by rw [e] at hpos; simp at hpos)
            have A2 : Hid (Below wr.heap.size wr (wr.alloc (.cells #[.slice xa l.length xc] 23))) := Lib.hid ((Below.refl _ _).alloc (Nat.le_refl _) _)
            have EA := Lib.hid (EX.out.below A2.out)
            have OA := Lib.hid (OwnD.below I.out.own A2.out)
            clear hne
            go_wp2_with (at_builtin; go_must (refine wpList_appL rfl _ _ rfl w.heap.size oa oc R rfl EA.out.own (some ⟨wr.heap.size, 0, none⟩) 1 [⟨xa, xc, l⟩] rfl ?s1 ?n1 ?b1 ?_))
            case s1 => exact Sl.blk (n := 1) (size := 1) (heap_new _ _) rfl (by decide)
            case n1 => simp; omega
            case b1 => exact EA.out.bel.size
            intro v' a' c' w5 hv' ho5 hb5 hch5
            have E5 := Lib.hid (EA.out.put (r := ⟨xa, xc, l⟩) HH.out HI.out Hne.out OA.out hll hch5 (by rw [← hv']; exact ho5))
            rw [← hv'] at E5
            clear hv' ho5 hb5 hch5 A2 EA OA
            go_wp2_with fail
            go_roundw
            case rel => exact ⟨n + 1, v', a', c', by omega, by go_num, rfl, E5⟩
            case measure => simp [intOf]; omega
    · have hnn : n = (cms S).length := by rw [HSS.out]; omega
      have HD := Lib.hid (show LevP (lvF (cms S)) (R.map (·.v)) from LvB.done HH.out (by rw [← hnn]; exact E.out.lv))
      clear hnn
      go_wp2_with fail
      go_ret
      exact ⟨oa, oc, R, rfl, HD.out, E.out.own, E.out.rows, hRl, E.out.few, E.out.bel⟩
end Go.Proofs.YthdmoplclllhjaaGreat

/- MkC -/
namespace Go.Proofs.YthdmoplclllhjaaGreat
open Go.RowKit
set_option linter.unusedVariables false
set_option linter.unusedSimpArgs false

/-- those of the first i commits that are so -/
structure ClI (w wr : World) (S : List Cm) (Q : Cm → Prop) (i : Nat) (l : List Dt) (xa : Option Addr) (xc : Nat) : Prop where
  own : OwnD wr w.heap.size xa xc l
  set : SetP l (fun d => ∃ c ∈ S.take i, c.d = d ∧ Q c)
  len : l.length ≤ i
  bel : Below w.heap.size w wr
theorem ClI.below {w wr w' : World} {S : List Cm} {Q : Cm → Prop} {i : Nat} {l : List Dt} {xa : Option Addr} {xc : Nat} (h : ClI w wr S Q i l xa xc) (hb : Below wr.heap.size wr w') : ClI w w' S Q i l xa xc :=
  ⟨OwnD.below h.own hb, h.set, h.len, below2 h.bel hb h.bel.size⟩
theorem ClI.skip {w wr : World} {S : List Cm} {Q : Cm → Prop} {i : Nat} {l : List Dt} {xa : Option Addr} {xc : Nat} {c : Cm} (h : ClI w wr S Q i l xa xc) (hc : S[i]? = some c) (hl : ¬ Q c) : ClI w wr S Q (i + 1) l xa xc := by
  refine ⟨h.own, h.set.congr fun d => ?_, by have := h.len; omega, h.bel⟩
  rw [take_snoc' hc]
  constructor
  · rintro ⟨x, hx, h1⟩; exact ⟨x, by simp [hx], h1⟩
  · rintro ⟨x, hx, rfl, h2⟩
    rcases List.mem_append.1 hx with hx | hx
    · exact ⟨x, hx, rfl, h2⟩
    · rw [List.mem_singleton] at hx; subst hx; exact absurd h2 hl
theorem ClI.put {w wr w' : World} {S : List Cm} {Q : Cm → Prop} {i : Nat} {l v : List Dt} {xa ya : Option Addr} {xc yc : Nat} {c : Cm} (h : ClI w wr S Q i l xa xc) (hn : (S.map (·.d)).Nodup) (hc : S[i]? = some c) (hl : Q c) (hv : LayP l c.d v) (ho : OwnD w' w.heap.size ya yc v) (hb : Below w.heap.size w w') : ClI w w' S Q (i + 1) v ya yc := by
  refine ⟨ho, (h.set.lay ?_ hv).congr fun d => ?_, by rw [hv.len]; have := h.len; omega, hb⟩
  · rintro ⟨x, hx, hxd, _⟩
    obtain ⟨j, hj⟩ := List.getElem?_of_mem hx
    rw [List.getElem?_take] at hj
    split at hj
    · rename_i hlt
      obtain ⟨k1, e1⟩ := List.getElem?_eq_some_iff.1 hj
      obtain ⟨k2, e2⟩ := List.getElem?_eq_some_iff.1 hc
      have h2 := List.pairwise_iff_getElem.1 hn j i (by simpa using k1) (by simpa using k2) hlt
      simp only [List.getElem_map] at h2
      rw [e1, e2] at h2
      exact h2 hxd
    · cases hj
  · rw [take_snoc' hc]
    constructor
    · rintro (⟨x, hx, h1⟩ | rfl)
      · exact ⟨x, by simp [hx], h1⟩
      · exact ⟨c, by simp, rfl, hl⟩
    · rintro ⟨x, hx, rfl, h2⟩
      rcases List.mem_append.1 hx with hx | hx
      · exact .inl ⟨x, hx, rfl, h2⟩
      · rw [List.mem_singleton] at hx; subst hx; exact .inr rfl
def BesRTo (w : World) (S : List Cm) (y : Cm) (e : Ending) (w' : World) : Prop := ∃ (a : Option Addr) (c : Nat) (v : List Dt), e = .returned (.slice a (List.length v) c) ∧ BesP S y v ∧ v.length ≤ S.length ∧ OwnD w' w.heap.size a c v ∧ Below w.heap.size w w'
set_option maxRecDepth 100000 in
set_option maxHeartbeats 16000000 in
theorem beside47_R (pw : Nat) (w0 : World) (m : Nat) (b : Bw) (S : List Cw) (la : Option Addr) (lc : Nat) (hn : ((cms S).map (·.d)).Nodup) (r i s : Int) (y : Cm) (w : World) (h : RgAt w pw w0 m b S la lc) (hf : findC (cms S) ((r, i), s) = some y) :
    Calls Tryz.prog 61 #[.pointer (some ⟨pw, 0, none⟩), .agg #[.int .u8 r, .int .u32 i, .int .u64 s]] w (BesRTo w (cms S) y) := by
  have Hnd := Lib.hid hn
  have H := Lib.hid h
  have Hf := Lib.hid hf
  have hfew := h.few
  have hSS : (cms S).length = S.length := by unfold cms; rw [List.length_map]
  have HSS := Lib.hid hSS
  have E0 : Hid (BoxE 41 w (w.alloc (.cells #[.int .u8 r, .int .u32 i, .int .u64 s] 41)) #[.int .u8 r, .int .u32 i, .int .u64 s]) := Lib.hid ⟨heap_new _ _, (Below.refl _ _).alloc (Nat.le_refl _) _⟩
  rcases ixC_cases S ((r, i), s) with ⟨x1, x2⟩ | ⟨q, v, x1, x3, x4, x2⟩
  · rw [hf] at x2; cases x2
  have hvy : v.c = y := by rw [hf] at x2; exact (Option.some.inj x2).symm
  have hql : q < S.length := (List.getElem?_eq_some_iff.1 x3).1
  have HvS := Lib.hid (List.mem_of_getElem? x3)
  have Hx3 := Lib.hid x3
  have Hx1 := Lib.hid x1
  subst hvy
  have hvl : v.c.vv.length ≤ 64 := (h.may v HvS.out).vlen
  have hq2 : q < 200 := by omega
  clear h hf x1 x2 x3 x4 hn hSS
  obtain ⟨⟨⟨⟨r1, i1⟩, s1⟩, ps, uu, t1, ⟨k1, n1, x1, p1, ds1⟩⟩, qa, qc, ua, uc, pa, pc, da, dc⟩ := v
  dsimp only at hvl
  go_enter Tryz.func61, Tryz.ntmps61
  go_upto_region 1 with (fail)
  go_cut [5] (fun p wx => ∃ bx : Nat, p = .pointer (some ⟨bx, 0, none⟩) ∧ Hid (BxC w wx bx ⟨⟨((r1, i1), s1), ps, uu, t1, ⟨k1, n1, x1, p1, ds1⟩⟩, qa, qc, ua, uc, pa, pc, da, dc⟩))
  case first =>
    have d0 := cells_at E0.out.blk
    have z0 := heap_lt E0.out.blk
    have RB := Lib.hid (H.out.below E0.out.bel)
    have g0 := cells_at RB.out.blk
    simp only [rgcells] at g0
    have gz := heap_lt RB.out.blk
    refine region_tree (.seg [0, 1, 2, 3, 4, 5] false (.fork (.seg [6] true (.seg [7, 8, 9, 10] false .done)) (.seg [9] false (.seg [6] true (.seg [7, 8, 10] false .done))))) mixed (by kernel_rfl) ?_
    simp only [wpSg, List.map_cons, List.map_nil, List.getD_cons_succ, List.getD_cons_zero]
    go_wp2_with fail
    refine And.intro ?_ ?_
    · go_wp2_with fail
      refine (find_R pw w0 m b S la lc r i s _ (RB.out.below ((Below.refl _ _).drew))).mono ?_
      rintro e w1 ⟨rfl, hb⟩
      rw [Hx1.out]
      have Hb := Lib.hid hb
      have E1 := Lib.hid (E0.out.step (((Below.refl _ _).drew).trans hb))
      obtain ⟨ad, had, ⟨c0, c1, c2, c3, c4, c5, c6, c7, c8, c9, c10⟩, hlb⟩ := (H.out.below E1.out.bel).rows.at_ Hx3.out
      dsimp only at c0 c1 c2 c3 c4 c5 c6 c7 c8 c9 c10
      subst had
      have X1 : Hid (BxC w (w1.alloc (.cells (ccells r1 i1 s1 qa ps.length qc ua uu.length uc t1 k1 pa p1.length pc n1 x1 da ds1.length dc) 46)) w1.heap.size ⟨⟨((r1, i1), s1), ps, uu, t1, ⟨k1, n1, x1, p1, ds1⟩⟩, qa, qc, ua, uc, pa, pc, da, dc⟩) := Lib.hid ⟨heap_new _ _, E1.out.bel.size, E1.out.bel.alloc E1.out.bel.size _⟩
      clear hb d0 z0 g0 gz
      go_wp2_with fail
      refine And.intro (Agree.of_below Hb.out) ?_
      go_wp2_with fail
      refine And.intro (by kernel_rfl) ?_
      go_wp2_with fail
      go_meet
      exact ⟨w1.heap.size, rfl, X1⟩
    · have hA : Below w.heap.size w ((w.alloc (.cells #[.int .u8 r, .int .u32 i, .int .u64 s] 41)).alloc (.cells (ccells 0 0 0 none 0 0 none 0 0 0 0 none 0 0 0 ⟨#[]⟩ none 0 0) 46)).drew := (((Below.refl _ _).alloc (Nat.le_refl _) _).alloc (by simp) _).drew
      have HA := Lib.hid hA
      clear hA d0 z0 g0 gz RB
      go_wp2_with fail
      refine (find_R pw w0 m b S la lc r i s _ (H.out.below HA.out)).mono ?_
      rintro e w1 ⟨rfl, hb⟩
      rw [Hx1.out]
      have Hb := Lib.hid hb
      have B1 := Lib.hid (below2 HA.out hb HA.out.size)
      have Z1 : Hid (w1.heap[w.heap.size + 1]? = some (.cells (ccells 0 0 0 none 0 0 none 0 0 0 0 none 0 0 0 ⟨#[]⟩ none 0 0) 46 (0, 0))) := Lib.hid ((hb.block _ (by simp)).trans (heap_new2 _ _ _))
      obtain ⟨ad, had, ⟨c0, c1, c2, c3, c4, c5, c6, c7, c8, c9, c10⟩, hlb⟩ := (H.out.below B1.out).rows.at_ Hx3.out
      dsimp only at c0 c1 c2 c3 c4 c5 c6 c7 c8 c9 c10
      subst had
      have d1 := cells_at Z1.out
      have f1 := free_at Z1.out
      have z1 := heap_lt Z1.out
      simp only [ccells] at d1
      have X1 : Hid (BxC w (((((((((((w1.setCell ⟨w.heap.size + 1, 0, none⟩ (.int .u8 r1)).setCell ⟨w.heap.size + 1, 1, none⟩ (.int .u32 i1)).setCell ⟨w.heap.size + 1, 2, none⟩ (.int .u64 s1)).setCell ⟨w.heap.size + 1, 3, none⟩ (.slice qa ps.length qc)).setCell ⟨w.heap.size + 1, 4, none⟩ (.slice ua uu.length uc)).setCell ⟨w.heap.size + 1, 5, none⟩ (.int .u64 t1)).setCell ⟨w.heap.size + 1, 6, none⟩ (.int .u8 k1)).setCell ⟨w.heap.size + 1, 7, none⟩ (.slice pa p1.length pc)).setCell ⟨w.heap.size + 1, 8, none⟩ (.int .i64 n1)).setCell ⟨w.heap.size + 1, 9, none⟩ (.string x1)).setCell ⟨w.heap.size + 1, 10, none⟩ (.slice da ds1.length dc)) (w.heap.size + 1) ⟨⟨((r1, i1), s1), ps, uu, t1, ⟨k1, n1, x1, p1, ds1⟩⟩, qa, qc, ua, uc, pa, pc, da, dc⟩) :=
        Lib.hid ⟨eleven_at Z1.out _ _ _ _ _ _ _ _ _ _ _, Nat.le_succ _, B1.out.trans ((chg_eleven _ _ _ _ _ _ _ _ _ _ _).below B1.out.size (by simp))⟩
      clear hb
      go_wp2_with fail
      refine And.intro (Agree.of_below Hb.out) ?_
      go_wp2_with fail
      refine And.intro (by kernel_rfl) ?_
      go_wp2_with fail
      go_meet
      exact ⟨w.heap.size + 1, rfl, X1⟩
  case rest =>
    obtain ⟨bx, rfl, X⟩ := hcut
    obtain ⟨wa, hwa⟩ : ∃ wa, wa = wc := ⟨_, rfl⟩
    subst hwa
    clear E0
    have I0 : Hid (ClI w wa (cms S) (fun c => besideP ⟨((r1, i1), s1), ps, uu, t1, ⟨k1, n1, x1, p1, ds1⟩⟩ c = true) 0 [] none 0) := Lib.hid ⟨OwnD.nil _ _, ⟨List.Pairwise.nil, fun d => by simp⟩, Nat.zero_le _, X.out.bel⟩
    go_wp2_with fail
    go_loopw [6, 7] (fun u j wr => ∃ (z : Nat) (l : List Dt) (xa : Option Addr) (xc : Nat), z ≤ S.length ∧ j = .int .i64 z ∧ u = .slice xa (List.length l) xc ∧ Hid (ClI w wr (cms S) (fun c => besideP ⟨((r1, i1), s1), ps, uu, t1, ⟨k1, n1, x1, p1, ds1⟩⟩ c = true) z l xa xc) ∧ Hid (BxC w wr bx ⟨⟨((r1, i1), s1), ps, uu, t1, ⟨k1, n1, x1, p1, ds1⟩⟩, qa, qc, ua, uc, pa, pc, da, dc⟩)) (fun _ j _ => S.length - (intOf j).toNat)
    case atStart => exact ⟨0, [], none, 0, Nat.zero_le _, rfl, rfl, I0, X⟩
    case round =>
      obtain ⟨z, l, xa, xc, hz, rfl, rfl, I, B⟩ := hrel
      clear I0 X
      have hll : l.length ≤ 200 := by have := I.out.len; omega
      have RB := Lib.hid (H.out.below I.out.bel)
      have g0 := cells_at RB.out.blk
      simp only [rgcells] at g0
      have gz := heap_lt RB.out.blk
      by_cases hlz : z < S.length
      · obtain ⟨u, hu⟩ : ∃ u, S[z]? = some u := ⟨S[z], by simp [hlz]⟩
        obtain ⟨ad, had, ⟨c0, c1, c2, c3, c4, c5, c6, c7, c8, c9, c10⟩, hlb⟩ := RB.out.rows.at_ hu
        subst had
        have Huc := Lib.hid (cms_get hu)
        have Hat := Lib.hid (RB.out.rows.each u (List.mem_of_getElem? hu))
        have Hat0 := Lib.hid (RB.out.rows.each _ HvS.out)
        have hul : u.c.vv.length ≤ 64 := (H.out.may u (List.mem_of_getElem? hu)).vlen
        clear hu
        obtain ⟨⟨⟨⟨r2, i2⟩, s2⟩, ps2, uu2, t2, ⟨k2, n2, x2, p2, ds2⟩⟩, qa2, qc2, ua2, uc2, pa2, pc2, da2, dc2⟩ := u
        dsimp only at c0 c1 c2 c3 c4 c5 c6 c7 c8 c9 c10 hul
        have A5 : Hid (BoxE 46 wr (wr.alloc (.cells (ccells r2 i2 s2 qa2 ps2.length qc2 ua2 uu2.length uc2 t2 k2 pa2 p2.length pc2 n2 x2 da2 ds2.length dc2) 46)) (ccells r2 i2 s2 qa2 ps2.length qc2 ua2 uu2.length uc2 t2 k2 pa2 p2.length pc2 n2 x2 da2 ds2.length dc2)) := Lib.hid ⟨heap_new _ _, (Below.refl _ _).alloc (Nat.le_refl _) _⟩
        have B5 := Lib.hid (B.out.step A5.out.bel)
        have d5 := cells_at B5.out.blk
        simp only [cwcells, ccells] at d5
        have z5 := heap_lt B5.out.blk
        have hbw : bx < wr.heap.size := heap_lt B.out.blk
        go_wp2_with fail
        refine (rhas_any ua uc uu r2 i2 s2 _ (Hat0.out.vv.below A5.out.bel) (by omega)).mono ?_
        rintro e w6 ⟨rfl, hb⟩
        have A6 := Lib.hid (A5.out.step hb)
        have B6 := Lib.hid (B5.out.step hb)
        have I6 := Lib.hid (I.out.below A6.out.bel)
        clear hb d5 z5 c0 c1 c2 c3 c4 c5 c6 c7 c8 c9 c10 hlb g0 gz RB A5 B5 B I
        have d5 := cells_at B6.out.blk
        simp only [cwcells, ccells] at d5
        have z5 := heap_lt B6.out.blk
        have d6 := cells_at A6.out.blk
        try simp only [ccells] at d6
        have z6 := heap_lt A6.out.blk
        cases hh : hasV uu ((r2, i2), s2) with
        | true =>
          have Hr := Lib.hid (show ¬ besideP ⟨((r1, i1), s1), ps, uu, t1, ⟨k1, n1, x1, p1, ds1⟩⟩ ⟨((r2, i2), s2), ps2, uu2, t2, ⟨k2, n2, x2, p2, ds2⟩⟩ = true by simp [besideP, hh])
          have I7 := Lib.hid (I6.out.skip Huc.out Hr.out)
          go_wp2_with fail
          go_roundw
          case rel => exact ⟨z + 1, l, xa, xc, by omega, by go_num, rfl, I7, B6⟩
          case measure => simp [intOf]; omega
        | false =>
          have Hr := Lib.hid (show besideP ⟨((r1, i1), s1), ps, uu, t1, ⟨k1, n1, x1, p1, ds1⟩⟩ ⟨((r2, i2), s2), ps2, uu2, t2, ⟨k2, n2, x2, p2, ds2⟩⟩ = !hasV uu2 ((r1, i1), s1) by simp [besideP, hh])
          go_wp2_with fail
          refine (rhas_any ua2 uc2 uu2 r1 i1 s1 _ (Hat.out.vv.below A6.out.bel) (by omega)).mono ?_
          rintro e w7 ⟨rfl, hb⟩
          have A7 := Lib.hid (A6.out.step hb)
          have B7 := Lib.hid (B6.out.step hb)
          have I7 := Lib.hid (I6.out.below hb)
          clear hb d5 z5 d6 z6 A6 B6 I6
          have d7 := cells_at A7.out.blk
          try simp only [ccells] at d7
          have z7 := heap_lt A7.out.blk
          cases hh2 : hasV uu2 ((r1, i1), s1) with
          | true =>
            have I8 := Lib.hid (I7.out.skip Huc.out (by rw [Hr.out, hh2]; decide))
            go_wp2_with fail
            go_roundw
            case rel => exact ⟨z + 1, l, xa, xc, by omega, by go_num, rfl, I8, B7⟩
            case measure => simp [intOf]; omega
          | false =>
            have Hr2 := Lib.hid (show besideP ⟨((r1, i1), s1), ps, uu, t1, ⟨k1, n1, x1, p1, ds1⟩⟩ ⟨((r2, i2), s2), ps2, uu2, t2, ⟨k2, n2, x2, p2, ds2⟩⟩ = true by rw [Hr.out, hh2]; rfl)
            go_wp2_with fail
            refine (lay47_any xa xc l r2 i2 s2 _ I7.out.own.vec (by omega)).mono ?_
            intro e w8 hto
            obtain ⟨ya, yc, v, rfl, hv, hov, hb8⟩ := hto
            have I8 := Lib.hid (I7.out.put Hnd.out Huc.out Hr2.out hv (OwnD.base (base' := w.heap.size) hov I7.out.bel.size) (below2 I7.out.bel hb8 I7.out.bel.size))
            have B8 := Lib.hid (B7.out.step hb8)
            clear hv hov hb8 d7 z7
            go_wp2_with fail
            go_roundw
            case rel => exact ⟨z + 1, v, ya, yc, by omega, by go_num, rfl, I8, B8⟩
            case measure => simp [intOf]; omega
      · have hzz : z = (cms S).length := by rw [HSS.out]; omega
        have HB := Lib.hid (show BesP (cms S) ⟨((r1, i1), s1), ps, uu, t1, ⟨k1, n1, x1, p1, ds1⟩⟩ l from ⟨I.out.set.1, fun d => by rw [I.out.set.2 d, hzz, List.take_length]⟩)
        have HL := Lib.hid (show l.length ≤ (cms S).length from by have h1 := I.out.len; omega)
        clear hzz
        go_wp2_with fail
        go_ret
        exact ⟨xa, xc, l, rfl, HB.out, HL.out, I.out.own, I.out.bel⟩
theorem cntB_bes {S : List Cm} {i : Nat} {y : Cm} {v : List Dt} (hn : (S.map (·.d)).Nodup) (hi : S[i]? = some y) (h : BesP S y v) : cntB S i S.length = v.length := by
  unfold cntB
  rw [hi, h.len hn, List.take_length]
theorem cntB_le (S : List Cm) (i k : Nat) : cntB S i k ≤ S.length := by
  unfold cntB
  cases S[i]? with
  | none => exact Nat.zero_le _
  | some a =>
    refine Nat.le_trans (List.length_filter_le _ _) ?_
    rw [List.length_take]; omega
def sumB (S : List Cm) (k : Nat) : Nat := ((List.range k).map fun i => cntB S i S.length).sum
theorem sumB_le (S : List Cm) : ∀ k, sumB S k ≤ k * S.length := by
  intro k
  induction k with
  | zero => simp [sumB]
  | succ k ih =>
    have h1 := cntB_le S k S.length
    unfold sumB at *
    rw [sum_range]
    rw [Nat.succ_mul]
    omega
set_option maxRecDepth 100000 in
set_option maxHeartbeats 8000000 in
theorem pairs47_R (pw : Nat) (w0 : World) (m : Nat) (b : Bw) (S : List Cw) (la : Option Addr) (lc : Nat) (w : World) (h : RgAt w pw w0 m b S la lc) (hD : DagP (cms S)) :
    Calls Tryz.prog 65 #[.pointer (some ⟨pw, 0, none⟩)] w (fun e w' => e = .returned (.int .i64 ((pairsP (cms S) (cms S).length : Nat) : Int)) ∧ Below w.heap.size w w') := by
  have H := Lib.hid h
  have HD := Lib.hid hD
  have hfew := h.few
  have HSS := Lib.hid (show (cms S).length = S.length by unfold cms; rw [List.length_map])
  clear h hD
  go_enter Tryz.func65, Tryz.ntmps65
  go_wp2_with fail
  go_loopw [3, 4] (fun u j wr => ∃ (i n : Nat), i ≤ S.length ∧ j = .int .i64 i ∧ u = .int .i64 (n : Int) ∧ n ≤ 40000 ∧ Hid (n = sumB (cms S) i) ∧ Hid (Below w.heap.size w wr)) (fun _ j _ => S.length - (intOf j).toNat)
  case atStart => exact ⟨0, 0, Nat.zero_le _, rfl, rfl, by decide, Lib.hid rfl, Lib.hid (Below.refl _ _)⟩
  case round =>
    obtain ⟨i, n, hi, rfl, rfl, hn, HN, B⟩ := hrel
    have RB := Lib.hid (H.out.below B.out)
    have g0 := cells_at RB.out.blk
    simp only [rgcells] at g0
    have gz := heap_lt RB.out.blk
    by_cases hlt : i < S.length
    · obtain ⟨u, hu⟩ : ∃ u, S[i]? = some u := ⟨S[i], by simp [hlt]⟩
      obtain ⟨ad, had, ⟨c0, c1, c2, c3, c4, c5, c6, c7, c8, c9, c10⟩, hlb⟩ := RB.out.rows.at_ hu
      subst had
      have huS : u.c ∈ cms S := List.mem_map.2 ⟨u, List.mem_of_getElem? hu, rfl⟩
      have Huc := Lib.hid (cms_get hu)
      have Hfd := Lib.hid (findC_mem HD.out.nodup huS)
      clear hu huS c3 c4 c5 c6 c7 c8 c9 c10
      obtain ⟨⟨⟨⟨r, i2⟩, s⟩, ps, uu, t1, ⟨k1, n1, sx1, p1, ds1⟩⟩, qa1, qc1, ua1, uc1, pa1, pc1, da1, dc1⟩ := u
      dsimp only at c0 c1 c2
      go_wp2_with fail
      refine (beside47_R pw w0 m b S (some ad) lc HD.out.nodup r i2 s _ _ RB.out Hfd.out).mono ?_
      intro e w2 hto
      obtain ⟨ya, yc, v, rfl, hv, hvl, hov, hb2⟩ := hto
      have hvl2 : v.length ≤ 200 := by rw [HSS.out] at hvl; omega
      have hsum : n + v.length = sumB (cms S) (i + 1) := by
        unfold sumB
        rw [sum_range, cntB_bes HD.out.nodup Huc.out hv, HN.out]; rfl
      have hle : n + v.length ≤ 40000 := by
        rw [hsum]
        have h1 := sumB_le (cms S) (i + 1)
        have h2 : (i + 1) * (cms S).length ≤ 200 * 200 := Nat.mul_le_mul (by omega) (by rw [HSS.out]; omega)
        omega
      have Hsum := Lib.hid hsum
      have B2 := Lib.hid (below2 B.out hb2 B.out.size)
      clear hv hvl hov hb2 hsum c0 c1 c2 hlb g0 gz RB
      go_wp2_with fail
      go_roundw
      case rel => exact ⟨i + 1, n + v.length, by omega, by go_num, by go_num, hle, Hsum, B2⟩
      case measure => simp [intOf]; omega
    · have hii : i = (cms S).length := by rw [HSS.out]; omega
      obtain ⟨p, hp⟩ : ∃ p, p = pairsP (cms S) (cms S).length := ⟨_, rfl⟩
      have hnp : n = 2 * p := by
        rw [hp, HN.out, hii]
        exact pairs_twice HD.out.self _ (Nat.le_refl _)
      have Hp := Lib.hid hp
      have hq : Int.tdiv (n : Int) 2 = (p : Int) := by
        rw [hnp, show ((2 * p : Nat) : Int) = (p : Int) * 2 by omega]
        exact Int.mul_tdiv_cancel _ (by decide)
      have Hq := Lib.hid hq
      clear hp hnp hii hq
      go_wp2_with fail
      go_ret
      exact ⟨congrArg (fun x => Ending.returned (Value.int .i64 x)) (Hq.out.trans (congrArg (fun x : Nat => (x : Int)) Hp.out)), B.out⟩
/-- the widest -/
def widM (V : List (List Dt)) (k : Nat) : Nat := (V.take k).foldl (fun n l => max n l.length) 0
def WidTo (w : World) (L : List Cm) (e : Ending) (w' : World) : Prop := ∃ (S : List Cm) (V : List (List Dt)), S.Perm L ∧ SortedC S ∧ LevP (lvF S) V ∧ e = .returned (.int .i64 ((widM V V.length : Nat) : Int)) ∧ Below w.heap.size w w'
theorem widM_next {V : List (List Dt)} {k : Nat} {l : List Dt} (h : V[k]? = some l) : widM V (k + 1) = max (widM V k) l.length := by
  unfold widM
  rw [take_snoc' h, List.foldl_append]
  rfl
set_option maxRecDepth 100000 in
set_option maxHeartbeats 8000000 in
theorem width_G (g : Value) (L : List Cm) (w : World) (h : Coms w g L) : Calls Tryz.prog 66 #[g] w (WidTo w L) := by
  have H := Lib.hid h
  clear h
  go_enter Tryz.func66, Tryz.ntmps66
  go_wp2_with fail
  refine (levels_any g L _ H.out).mono ?_
  intro e w1 hto
  obtain ⟨ra, rc, R, S, rfl, hp, hs, hV, hoL, hoR, hap, hRl, hRv, hb⟩ := hto
  have Hp := Lib.hid hp
  have Hs := Lib.hid hs
  have HV := Lib.hid hV
  have HoL := Lib.hid hoL
  have HRv := Lib.hid hRv
  have HVl := Lib.hid (show (R.map (·.v)).length = R.length from List.length_map _)
  have B1 := Lib.hid hb
  clear hp hs hV hoL hoR hap hRv hb
  go_wp2_with fail
  go_loopw [2, 8] (fun u j wr => ∃ (q n : Nat), q ≤ R.length ∧ j = .int .i64 q ∧ u = .int .i64 (n : Int) ∧ n ≤ 200 ∧ Hid (n = widM (R.map (·.v)) q) ∧ Hid (Below w1.heap.size w1 wr)) (fun _ j _ => R.length - (intOf j).toNat)
  case atStart => exact ⟨0, 0, Nat.zero_le _, rfl, rfl, by decide, Lib.hid rfl, Lib.hid (Below.refl _ _)⟩
  case round =>
    obtain ⟨q, n, hq, rfl, rfl, hn, HN, B⟩ := hrel
    by_cases hlt : q < R.length
    · obtain ⟨rr, hrr⟩ : ∃ x, R[q]? = some x := ⟨R[q], List.getElem?_eq_getElem (by omega)⟩
      obtain ⟨g2, rfl⟩ := HoL.out.ptr (by omega)
      have hc0 := OwnL.cell (w := wr) (owns_chg (F := []) HoL.out (Chg.of_below B.out) (by simp)) hrr
      have hrl : rr.v.length ≤ 200 := HRv.out rr (List.mem_of_getElem? hrr)
      have HN2 := Lib.hid (show max n rr.v.length = widM (R.map (·.v)) (q + 1) from by rw [widM_next (l := rr.v) (by rw [List.getElem?_map, hrr]; rfl), ← HN.out])
      clear hrr
      obtain ⟨xa, xc, xv⟩ := rr
      dsimp only at hc0 hrl HN2
      have hmx : max n xv.length ≤ 200 := by omega
      go_wp2_with fail
      go_roundw
      case rel => exact ⟨q + 1, max n xv.length, by omega, by go_num, congrArg (Value.int .i64) (by omega), hmx, HN2, B⟩
      case measure => simp [intOf]; omega
    · have hqq : q = (R.map (·.v)).length := by rw [HVl.out]; omega
      have HN2 := Lib.hid (show n = widM (R.map (·.v)) (R.map (·.v)).length from by rw [← hqq]; exact HN.out)
      have B2 := Lib.hid (below2 B1.out B.out B1.out.size)
      clear hqq
      go_wp2_with fail
      go_ret
      exact ⟨S, _, Hp.out, Hs.out, HV.out, by rw [← HN2.out]; rfl, B2.out⟩
end Go.Proofs.YthdmoplclllhjaaGreat

/- MkD -/
namespace Go.Proofs.YthdmoplclllhjaaGreat
open Go.RowKit
set_option linter.unusedVariables false
set_option linter.unusedSimpArgs false

/-- those of the first i dots that are so -/
structure DlI (w wr : World) (ps : List Dt) (Q : Dt → Prop) (i : Nat) (l : List Dt) (xa : Option Addr) (xc : Nat) : Prop where
  own : OwnD wr w.heap.size xa xc l
  set : SetP l (fun d => d ∈ ps.take i ∧ Q d)
  len : l.length ≤ i
  bel : Below w.heap.size w wr
theorem DlI.below {w wr w' : World} {ps : List Dt} {Q : Dt → Prop} {i : Nat} {l : List Dt} {xa : Option Addr} {xc : Nat} (h : DlI w wr ps Q i l xa xc) (hb : Below wr.heap.size wr w') : DlI w w' ps Q i l xa xc :=
  ⟨OwnD.below h.own hb, h.set, h.len, below2 h.bel hb h.bel.size⟩
theorem DlI.skip {w wr : World} {ps : List Dt} {Q : Dt → Prop} {i : Nat} {l : List Dt} {xa : Option Addr} {xc : Nat} {d : Dt} (h : DlI w wr ps Q i l xa xc) (hd : ps[i]? = some d) (hl : ¬ Q d) : DlI w wr ps Q (i + 1) l xa xc := by
  refine ⟨h.own, h.set.congr fun x => ?_, by have := h.len; omega, h.bel⟩
  rw [take_snoc' hd]
  constructor
  · rintro ⟨h1, h2⟩; exact ⟨by simp [h1], h2⟩
  · rintro ⟨h1, h2⟩
    rcases List.mem_append.1 h1 with h1 | h1
    · exact ⟨h1, h2⟩
    · rw [List.mem_singleton] at h1; subst h1; exact absurd h2 hl
theorem DlI.put {w wr w' : World} {ps : List Dt} {Q : Dt → Prop} {i : Nat} {l v : List Dt} {xa ya : Option Addr} {xc yc : Nat} {d : Dt} (h : DlI w wr ps Q i l xa xc) (hn : ps.Nodup) (hd : ps[i]? = some d) (hl : Q d) (hv : LayP l d v) (ho : OwnD w' w.heap.size ya yc v) (hb : Below w.heap.size w w') : DlI w w' ps Q (i + 1) v ya yc := by
  refine ⟨ho, (h.set.lay ?_ hv).congr fun x => ?_, by rw [hv.len]; have := h.len; omega, hb⟩
  · rintro ⟨hx, _⟩
    obtain ⟨j, hj⟩ := List.getElem?_of_mem hx
    rw [List.getElem?_take] at hj
    split at hj
    · rename_i hlt
      obtain ⟨k1, e1⟩ := List.getElem?_eq_some_iff.1 hj
      obtain ⟨k2, e2⟩ := List.getElem?_eq_some_iff.1 hd
      have h4 := List.pairwise_iff_getElem.1 hn j i k1 k2 hlt
      rw [e1, e2] at h4
      exact h4 rfl
    · cases hj
  · rw [take_snoc' hd]
    constructor
    · rintro (⟨h1, h2⟩ | rfl)
      · exact ⟨by simp [h1], h2⟩
      · exact ⟨by simp, hl⟩
    · rintro ⟨h1, h2⟩
      rcases List.mem_append.1 h1 with h1 | h1
      · exact .inl ⟨h1, h2⟩
      · rw [List.mem_singleton] at h1; subst h1; exact .inr rfl
def ChnRTo (w : World) (S : List Cm) (e : Ending) (w' : World) : Prop := ∃ (a : Option Addr) (c : Nat) (C : List Dt) (V : List (List Dt)), e = .returned (.slice a (List.length C) c) ∧ LevP (lvF S) V ∧ ChnP S V C ∧ C.length ≤ 200 ∧ OwnD w' w.heap.size a c C ∧ Below w.heap.size w w'
structure ChQ (w wr : World) (S : List Cm) (V : List (List Dt)) (n : Nat) (oa : Option Addr) (oc : Nat) (C : List Dt) : Prop where
  own : OwnD wr w.heap.size oa oc C
  bu : BuP S V C n
  bel : Below w.heap.size w wr
set_option maxRecDepth 100000 in
set_option maxHeartbeats 32000000 in
theorem chain47_R (pw : Nat) (w0 : World) (m : Nat) (b : Bw) (S : List Cw) (la : Option Addr) (lc : Nat) (w : World) (h : RgAt w pw w0 m b S la lc) (hH : LvH (cms S)) :
    Calls Tryz.prog 63 #[.pointer (some ⟨pw, 0, none⟩)] w (ChnRTo w (cms S)) := by
  have H := Lib.hid h
  have HH := Lib.hid hH
  have hfew := h.few
  clear h hH
  go_enter Tryz.func63, Tryz.ntmps63
  go_wp2_with fail
  refine (levels_R pw w0 m b S la lc _ H.out HH.out).mono ?_
  intro e w1 hto
  obtain ⟨ra, rc, R, rfl, hV, hoL, hoR, hRl, hRv, hb1⟩ := hto
  have HV := Lib.hid hV
  have HoL := Lib.hid hoL
  have HoR := Lib.hid hoR
  have B1 := Lib.hid hb1
  have hVl : (R.map (·.v)).length = R.length := List.length_map _
  clear hV hoL hoR hb1
  by_cases h0 : R.length = 0
  · have HC : Hid (ChnP (cms S) (R.map (·.v)) []) := Lib.hid ⟨by rw [hVl, h0]; rfl, fun i d hd => (by simp at hd), fun l hl => (by
      have h1 := (List.getElem?_eq_some_iff.1 hl).1
      rw [hVl] at h1; omega), fun i d c hd => (by simp at hd)⟩
    rw [h0]
    clear hVl h0
    go_wp2_with fail
    go_ret
    exact ⟨none, 0, [], _, rfl, HV.out, HC.out, by decide, OwnD.nil _ _, B1.out⟩
  obtain ⟨k, hk⟩ : ∃ k, R.length = k + 1 := ⟨R.length - 1, by omega⟩
  obtain ⟨rr, hrr⟩ : ∃ x, R[k]? = some x := ⟨R[k], List.getElem?_eq_getElem (by omega)⟩
  obtain ⟨g, rfl⟩ := HoL.out.ptr (by omega)
  have hc0 := HoL.out.cell hrr
  have hrow : (R.map (·.v))[k]? = some rr.v := by rw [List.getElem?_map, hrr]; rfl
  obtain ⟨x0, hx0⟩ := HH.out.row HV.out hrow
  have hrn : rr.v ≠ [] := fun e => by rw [e] at hx0; cases hx0
  have hRR := HoR.out rr (List.mem_of_getElem? hrr)
  obtain ⟨g2, hg2, hg3, hg4⟩ := hRR.form hrn
  rw [hg2] at hRR hc0
  obtain ⟨⟨⟨r, i⟩, s⟩, hx⟩ : ∃ x, rr.v[0]? = some x := ⟨rr.v[0]'(List.length_pos_iff.2 hrn), List.getElem?_eq_getElem _⟩
  obtain ⟨c0, c1, c2⟩ := hRR.at hx
  simp only [Nat.zero_mul, Nat.zero_add] at c0 c1 c2
  have hl1 : 1 ≤ rr.v.length := List.length_pos_iff.2 hrn
  have hl2 : rr.v.length ≤ 200 := hRv rr (List.mem_of_getElem? hrr)
  have HVl := Lib.hid (show (R.map (·.v)).length ≤ 200 by rw [hVl]; omega)
  have E0 : Hid (ChQ w (w1.alloc (.cells #[.int .u8 r, .int .u32 i, .int .u64 s] 41)) (cms S) (R.map (·.v)) k (some ⟨w1.heap.size, 0, none⟩) 1 [((r, i), s)]) := Lib.hid ⟨OwnD.one w1 B1.out.size r i s, BuP.start HV.out (by rw [hVl, hk]) hrow hx, B1.out.alloc B1.out.size _⟩
  rw [hk]
  have hk9 : k ≤ 200 := by omega
  have x0 : ((k : Int) + 1 == 0) = false := by rw [beq_eq_false_iff_ne]; omega
  generalize R.map (·.v) = V at HV HVl E0
  clear hk hrr hrow hx0 hrn hRR hg2 hx hVl h0 HoL HoR hRv
  go_wp2_with fail
  go_loopw [4, 5] (fun j o wr => ∃ (n : Nat) (oa : Option Addr) (oc : Nat) (C : List Dt), n ≤ 200 ∧ j = .int .i64 (n : Int) ∧ o = .slice oa (List.length C) oc ∧ Hid (ChQ w wr (cms S) V n oa oc C)) (fun j _ _ => (intOf j).toNat)
  case atStart => exact ⟨k, some ⟨w1.heap.size, 0, none⟩, 1, [((r, i), s)], hk9, rfl, rfl, E0⟩
  case round =>
    obtain ⟨n, oa, oc, C, hn9, rfl, rfl, E⟩ := hrel
    clear E0 c0 c1 c2 hc0
    have hCl : C.length ≤ 200 := by have h1 := E.out.bu.len; have h2 := HVl.out; omega
    cases n with
    | zero =>
      have HC := Lib.hid (E.out.bu.done)
      go_wp2_with fail
      go_ret
      exact ⟨oa, oc, C, V, rfl, HV.out, HC.out, hCl, E.out.own, E.out.bel⟩
    | succ n =>
    have hCp : 1 ≤ C.length := E.out.bu.pos
    obtain ⟨⟨⟨r3, i3⟩, s3⟩, hx⟩ : ∃ x, C[0]? = some x := ⟨C[0]'(by omega), List.getElem?_eq_getElem _⟩
    have hlev := E.out.bu.lev 0 _ hx
    obtain ⟨y, hyS, hyd⟩ := lvF_mem (S := cms S) (d := ((r3, i3), s3)) (by rw [hlev]; rfl)
    have hfy : findC (cms S) ((r3, i3), s3) = some y := by rw [← hyd]; exact findC_mem HH.out.dag.nodup hyS
    rcases ixC_cases S ((r3, i3), s3) with ⟨x1, x2⟩ | ⟨q, v, x1, x3, x4, x2⟩
    · rw [hfy] at x2; cases x2
    have hvy : v.c = y := by rw [hfy] at x2; exact (Option.some.inj x2).symm
    have hql : q < S.length := (List.getElem?_eq_some_iff.1 x3).1
    have HvS := Lib.hid (List.mem_of_getElem? x3)
    have Hx3 := Lib.hid x3
    have Hx1 := Lib.hid x1
    have Hx := Lib.hid hx
    have Hlev := Lib.hid hlev
    subst hvy
    have Hyd := Lib.hid hyd
    have HyS := Lib.hid hyS
    have hpl : v.c.ps.length ≤ 64 := (H.out.may v HvS.out).few
    have Hpn := Lib.hid (show v.c.ps.Nodup from ltD_nodup (H.out.may v HvS.out).ps.1)
    have hq2 : q < 200 := by omega
    clear x1 x2 x3 x4 hx hlev hyd hyS hfy
    obtain ⟨⟨⟨⟨r1, i1⟩, s1⟩, ps, uu, t1, ⟨k1, n1, x1, p1, ds1⟩⟩, qa, qc, ua, uc, pa, pc, da, dc⟩ := v
    dsimp only at hpl Hpn
    obtain ⟨w2, hw2⟩ : ∃ w2, w2 = wr := ⟨_, rfl⟩
    subst hw2
    go_upto_region 7 with (fail)
    go_cut [6] (fun p wx => ∃ bx : Nat, p = .pointer (some ⟨bx, 0, none⟩) ∧ Hid (BxC w wx bx ⟨⟨((r1, i1), s1), ps, uu, t1, ⟨k1, n1, x1, p1, ds1⟩⟩, qa, qc, ua, uc, pa, pc, da, dc⟩) ∧ Hid (Below w2.heap.size w2 wx))
    case first =>
      have RB := Lib.hid (H.out.below E.out.bel)
      have g0 := cells_at RB.out.blk
      simp only [rgcells] at g0
      have gz := heap_lt RB.out.blk
      obtain ⟨ae, hae, e0, e1, e2, hl0⟩ := E.out.own.vec.at Hx.out
      simp only [Nat.zero_mul, Addr.add, if_true] at hae e0 e1 e2
      subst hae
      refine region_tree (.seg [0, 1, 2, 3, 4, 5, 6, 7] false (.fork (.seg [8] true (.seg [9, 10, 11, 12] false .done)) (.seg [11] false (.seg [8] true (.seg [9, 10, 12] false .done))))) mixed (by kernel_rfl) ?_
      simp only [wpSg, List.map_cons, List.map_nil, List.getD_cons_succ, List.getD_cons_zero]
      go_wp2_with fail
      refine And.intro ?_ ?_
      · go_wp2_with fail
        refine (find_R pw w0 m b S la lc r3 i3 s3 _ (RB.out.below ((Below.refl _ _).drew))).mono ?_
        rintro e w3 ⟨rfl, hb⟩
        rw [Hx1.out]
        have Hb := Lib.hid hb
        have B2 := Lib.hid (show Below w2.heap.size w2 w3 from ((Below.refl _ _).drew).trans hb)
        have B3 := Lib.hid (below2 E.out.bel B2.out E.out.bel.size)
        obtain ⟨ad, had, ⟨c0, c1, c2, c3, c4, c5, c6, c7, c8, c9, c10⟩, hlb⟩ := (H.out.below B3.out).rows.at_ Hx3.out
        dsimp only at c0 c1 c2 c3 c4 c5 c6 c7 c8 c9 c10
        subst had
        have X1 : Hid (BxC w (w3.alloc (.cells (ccells r1 i1 s1 qa ps.length qc ua uu.length uc t1 k1 pa p1.length pc n1 x1 da ds1.length dc) 46)) w3.heap.size ⟨⟨((r1, i1), s1), ps, uu, t1, ⟨k1, n1, x1, p1, ds1⟩⟩, qa, qc, ua, uc, pa, pc, da, dc⟩) := Lib.hid ⟨heap_new _ _, B3.out.size, B3.out.alloc B3.out.size _⟩
        have Y1 := Lib.hid (B2.out.alloc B2.out.size (.cells (ccells r1 i1 s1 qa ps.length qc ua uu.length uc t1 k1 pa p1.length pc n1 x1 da ds1.length dc) 46))
        clear hb g0 gz e0 e1 e2 hl0
        go_wp2_with fail
        refine And.intro (Agree.of_below Hb.out) ?_
        go_wp2_with fail
        refine And.intro (by kernel_rfl) ?_
        go_wp2_with fail
        go_meet
        exact ⟨w3.heap.size, rfl, X1, Y1⟩
      · have hA : Below w2.heap.size w2 (w2.alloc (.cells (ccells 0 0 0 none 0 0 none 0 0 0 0 none 0 0 0 ⟨#[]⟩ none 0 0) 46)).drew := ((Below.refl _ _).alloc (Nat.le_refl _) _).drew
        have HA := Lib.hid hA
        have HA2 := Lib.hid (below2 E.out.bel hA E.out.bel.size)
        clear hA g0 gz e0 e1 e2 hl0 RB
        go_wp2_with fail
        refine (find_R pw w0 m b S la lc r3 i3 s3 _ (H.out.below HA2.out)).mono ?_
        rintro e w3 ⟨rfl, hb⟩
        rw [Hx1.out]
        have Hb := Lib.hid hb
        have B2 := Lib.hid (below2 HA.out hb HA.out.size)
        have B3 := Lib.hid (below2 E.out.bel B2.out E.out.bel.size)
        have Z1 : Hid (w3.heap[w2.heap.size]? = some (.cells (ccells 0 0 0 none 0 0 none 0 0 0 0 none 0 0 0 ⟨#[]⟩ none 0 0) 46 (0, 0))) := Lib.hid ((hb.block _ (by simp)).trans (heap_new _ _))
        obtain ⟨ad, had, ⟨c0, c1, c2, c3, c4, c5, c6, c7, c8, c9, c10⟩, hlb⟩ := (H.out.below B3.out).rows.at_ Hx3.out
        dsimp only at c0 c1 c2 c3 c4 c5 c6 c7 c8 c9 c10
        subst had
        have d1 := cells_at Z1.out
        have f1 := free_at Z1.out
        have z1 := heap_lt Z1.out
        simp only [ccells] at d1
        have hCh := chg_eleven (W := w3) (b := w2.heap.size) (.int .u8 r1) (.int .u32 i1) (.int .u64 s1) (.slice qa ps.length qc) (.slice ua uu.length uc) (.int .u64 t1) (.int .u8 k1) (.slice pa p1.length pc) (.int .i64 n1) (.string x1) (.slice da ds1.length dc)
        have X1 : Hid (BxC w (((((((((((w3.setCell ⟨w2.heap.size, 0, none⟩ (.int .u8 r1)).setCell ⟨w2.heap.size, 1, none⟩ (.int .u32 i1)).setCell ⟨w2.heap.size, 2, none⟩ (.int .u64 s1)).setCell ⟨w2.heap.size, 3, none⟩ (.slice qa ps.length qc)).setCell ⟨w2.heap.size, 4, none⟩ (.slice ua uu.length uc)).setCell ⟨w2.heap.size, 5, none⟩ (.int .u64 t1)).setCell ⟨w2.heap.size, 6, none⟩ (.int .u8 k1)).setCell ⟨w2.heap.size, 7, none⟩ (.slice pa p1.length pc)).setCell ⟨w2.heap.size, 8, none⟩ (.int .i64 n1)).setCell ⟨w2.heap.size, 9, none⟩ (.string x1)).setCell ⟨w2.heap.size, 10, none⟩ (.slice da ds1.length dc)) w2.heap.size ⟨⟨((r1, i1), s1), ps, uu, t1, ⟨k1, n1, x1, p1, ds1⟩⟩, qa, qc, ua, uc, pa, pc, da, dc⟩) :=
          Lib.hid ⟨eleven_at Z1.out _ _ _ _ _ _ _ _ _ _ _, E.out.bel.size, B3.out.trans (hCh.below B3.out.size (by simpa using E.out.bel.size))⟩
        have Y1 := Lib.hid (B2.out.trans (hCh.below B2.out.size (by simp)))
        clear hb hCh
        go_wp2_with fail
        refine And.intro (Agree.of_below Hb.out) ?_
        go_wp2_with fail
        refine And.intro (by kernel_rfl) ?_
        go_wp2_with fail
        go_meet
        exact ⟨w2.heap.size, rfl, X1, Y1⟩
    case rest =>
      obtain ⟨bx, rfl, X, Y⟩ := hcut
      obtain ⟨wa, hwa⟩ : ∃ wa, wa = wc := ⟨_, rfl⟩
      subst hwa
      have hbw : w.heap.size ≤ wa.heap.size := X.out.bel.size
      have I0 : Hid (DlI w wa ps (fun d => lvF (cms S) d = some (n + 1)) 0 [] none 0) := Lib.hid ⟨OwnD.nil _ _, ⟨List.Pairwise.nil, fun d => by simp⟩, Nat.zero_le _, X.out.bel⟩
      go_wp2_with fail
      go_loopw [7, 8] (fun u j wx => ∃ (z : Nat) (l : List Dt) (xa : Option Addr) (xc : Nat), z ≤ ps.length ∧ j = .int .i64 z ∧ u = .slice xa (List.length l) xc ∧ Hid (DlI w wx ps (fun d => lvF (cms S) d = some (n + 1)) z l xa xc) ∧ Hid (BxC w wx bx ⟨⟨((r1, i1), s1), ps, uu, t1, ⟨k1, n1, x1, p1, ds1⟩⟩, qa, qc, ua, uc, pa, pc, da, dc⟩) ∧ Hid (Below w2.heap.size w2 wx)) (fun _ j _ => ps.length - (intOf j).toNat)
      case atStart => exact ⟨0, [], none, 0, Nat.zero_le _, rfl, rfl, I0, X, Y⟩
      case round =>
        obtain ⟨z, l, xa, xc, hz, rfl, rfl, I, B, Y2⟩ := hrel
        clear I0 X Y
        have hll : l.length ≤ 64 := by have := I.out.len; omega
        have d0 := cells_at B.out.blk
        simp only [cwcells, ccells] at d0
        have z0 := heap_lt B.out.blk
        by_cases hlz : z < ps.length
        · obtain ⟨⟨⟨r2, i2⟩, s2⟩, hx⟩ : ∃ y, ps[z]? = some y := ⟨ps[z], by simp [hlz]⟩
          obtain ⟨ad, had, e0, e1, e2, hl0⟩ := ((H.out.below B.out.bel).rows.each _ HvS.out).ps.at hx
          dsimp only at had e0 e1 e2
          subst had
          have Hp := Lib.hid hx
          clear hx
          go_wp2_with fail
          refine (find_R pw w0 m b S la lc r2 i2 s2 _ (H.out.below B.out.bel)).mono ?_
          rintro e w3 ⟨rfl, hb⟩
          have B2 := Lib.hid (B.out.step hb)
          have I2 := Lib.hid (I.out.below hb)
          have Y3 := Lib.hid (below2 Y2.out hb Y2.out.size)
          clear hb d0 z0 e0 e1 e2 hl0 B I Y2
          have d0 := cells_at B2.out.blk
          simp only [cwcells, ccells] at d0
          have z0 := heap_lt B2.out.blk
          rcases ixC_cases S ((r2, i2), s2) with ⟨f1, f2⟩ | ⟨q2, v2, f1, f3, f4, f2⟩
          · rw [f1]
            have hnone : lvF (cms S) ((r2, i2), s2) = none := lvF_none.2 (findC_none.1 f2)
            have I3 := Lib.hid (I2.out.skip Hp.out (by rw [hnone]; intro e; cases e))
            have y1 : decide ((0 : Int) ≤ -1) = false := by decide
            clear f1 f2 hnone
            go_wp2_with fail
            go_roundw
            case rel => exact ⟨z + 1, l, xa, xc, by omega, by go_num, rfl, I3, B2, Y3⟩
            case measure => simp [intOf]; omega
          · rw [f1]
            have hv2 : v2.c ∈ cms S := (findC_some f2).1
            have hlv : lvF (cms S) ((r2, i2), s2) = some (lvMax (lvF (cms S)) v2.c.ps + 1) := by rw [← f4]; exact HH.out.at_ hv2
            have y1 : decide ((0 : Int) ≤ (q2 : Int)) = true := decide_eq_true (by omega)
            obtain ⟨mm, hmm⟩ : ∃ mm, mm = lvMax (lvF (cms S)) v2.c.ps := ⟨_, rfl⟩
            have Hmm := Lib.hid hmm
            have Hlv := Lib.hid (show lvF (cms S) ((r2, i2), s2) = some (mm + 1) by rw [hlv, hmm])
            have Hf2 := Lib.hid f2
            have hql2 : q2 < 200 := by have := (List.getElem?_eq_some_iff.1 f3).1; omega
            clear f1 f2 f3 f4 hv2 hlv hmm
            obtain ⟨ae, hae, e0, e1, e2, hl0⟩ := ((H.out.below B2.out.bel).rows.each _ HvS.out).ps.at Hp.out
            dsimp only at hae e0 e1 e2
            obtain rfl : ad = ae := Option.some.inj hae
            clear hae
            go_wp2_with fail
            refine (level_R pw w0 m b S la lc HH.out _ r2 i2 s2 v2.c _ (H.out.below B2.out.bel) Hf2.out (Nat.le_refl _)).mono ?_
            rintro e w4 ⟨rfl, hb⟩
            rw [← Hmm.out]
            have B3 := Lib.hid (B2.out.step hb)
            have I3 := Lib.hid (I2.out.below hb)
            have Y4 := Lib.hid (below2 Y3.out hb Y3.out.size)
            clear hb d0 z0 e0 e1 e2 hl0 B2 I2 Y3
            by_cases hmn : mm = n
            · have y2 : ((mm : Int) == (n : Int)) = true := by rw [beq_iff_eq, hmn]
              have Hmn := Lib.hid hmn
              have d0 := cells_at B3.out.blk
              simp only [cwcells, ccells] at d0
              have z0 := heap_lt B3.out.blk
              obtain ⟨ae, hae, e0, e1, e2, hl0⟩ := ((H.out.below B3.out.bel).rows.each _ HvS.out).ps.at Hp.out
              dsimp only at hae e0 e1 e2
              obtain rfl : ad = ae := Option.some.inj hae
              clear hae hmn
              go_wp2_with fail
              refine (lay47_any xa xc l r2 i2 s2 _ I3.out.own.vec (by omega)).mono ?_
              intro e w5 hto
              obtain ⟨ya, yc, vv, rfl, hv, hov, hb5⟩ := hto
              have I4 := Lib.hid (I3.out.put Hpn.out Hp.out (by rw [← Hmn.out]; exact Hlv.out) hv (OwnD.base (base' := w.heap.size) hov I3.out.bel.size) (below2 I3.out.bel hb5 I3.out.bel.size))
              have B4 := Lib.hid (B3.out.step hb5)
              have Y5 := Lib.hid (below2 Y4.out hb5 Y4.out.size)
              clear hv hov hb5 d0 z0 e0 e1 e2 hl0 y2
              go_wp2_with fail
              go_roundw
              case rel => exact ⟨z + 1, vv, ya, yc, by omega, by go_num, rfl, I4, B4, Y5⟩
              case measure => simp [intOf]; omega
            · have y2 : ((mm : Int) == (n : Int)) = false := by rw [beq_eq_false_iff_ne]; omega
              have I4 := Lib.hid (I3.out.skip Hp.out (by rw [Hlv.out]; intro e; injection e with e; omega))
              go_wp2_with fail
              go_roundw
              case rel => exact ⟨z + 1, l, xa, xc, by omega, by go_num, rfl, I4, B3, Y4⟩
              case measure => simp [intOf]; omega
        · have HS := Lib.hid (show SetP l (fun d => d ∈ ps ∧ lvF (cms S) d = some (n + 1)) from by have h1 := I.out.set; rwa [List.take_of_length_le (by omega)] at h1)
          have hne : l ≠ [] := by
            obtain ⟨p, hp, hpl⟩ := HH.out.down HyS.out (n := n) (by rw [Hyd.out, Hlev.out])
            intro e
            have h1 := (HS.out.2 p).2 ⟨hp, hpl⟩
            rw [e] at h1; cases h1
          obtain ⟨gx, hgx, _, _⟩ := I.out.own.form hne
          subst hgx
          obtain ⟨⟨⟨r2, i2⟩, s2⟩, hx2⟩ : ∃ x, l[0]? = some x := ⟨l[0]'(List.length_pos_iff.2 hne), List.getElem?_eq_getElem _⟩
          obtain ⟨c0, c1, c2⟩ := I.out.own.at hx2
          simp only [Nat.zero_mul, Nat.zero_add] at c0 c1 c2
          have hl1 : 1 ≤ l.length := List.length_pos_iff.2 hne
          have hleast := HS.out.least hx2
          have HBu := Lib.hid (BuP.next E.out.bu HyS.out HH.out.dag.nodup (by rw [Hyd.out]; exact Hx.out) hleast.1.1 hleast.1.2 (fun p hp hpl => hleast.2 p ⟨hp, hpl⟩))
          have EX := Lib.hid (OwnD.below E.out.own Y2.out)
          have A5 : Hid (Below wr.heap.size wr (wr.alloc (.cells #[.int .u8 r2, .int .u32 i2, .int .u64 s2] 41))) := Lib.hid ((Below.refl _ _).alloc (Nat.le_refl _) _)
          have O5 := Lib.hid (OwnD.one wr I.out.bel.size r2 i2 s2)
          have hb9 := I.out.bel.size
          clear hne hx2 hleast
          go_wp2_with (at_builtin; go_must (refine wpList_appD rfl _ _ rfl w.heap.size (some ⟨wr.heap.size, 0, none⟩) 1 [((r2, i2), s2)] rfl O5.out oa oc C rfl (OwnD.vec (OwnD.below EX.out A5.out)) ?n1 ?b1 ?_))
          case n1 => simp; omega
          case b1 => simp; omega
          intro C2 a2 c3 w6 hC2 ho6 hb6 hc6
          have HC2 := Lib.hid (show C2 = ((r2, i2), s2) :: C from hC2)
          have E6 : Hid (ChQ w w6 (cms S) V n a2 c3 C2) := Lib.hid ⟨ho6, by rw [HC2.out]; exact HBu.out, (below2 I.out.bel A5.out I.out.bel.size).trans hb6⟩
          clear hC2 ho6 hb6 hc6 c0 c1 c2
          go_wp2_with fail
          go_roundw
          case rel => exact ⟨n, a2, c3, C2, by omega, by go_num, rfl, E6⟩
          case measure => simp [intOf]
end Go.Proofs.YthdmoplclllhjaaGreat

/- LwM -/
/- LwS -/
namespace Go.Proofs.YthdmoplclllhjaaGreat
open Go.RowKit
set_option linter.unusedVariables false
set_option linter.unusedSimpArgs false

end Go.Proofs.YthdmoplclllhjaaGreat

/- LwM -/
namespace Go.Proofs.YthdmoplclllhjaaGreat
open Go.RowKit
set_option linter.unusedVariables false
set_option linter.unusedSimpArgs false

set_option maxRecDepth 100000 in
set_option maxHeartbeats 32000000 in
theorem levelsMake_walk (v : Bw) (m : Nat) (la0 : Option Addr) (lc0 : Nat) (l : List Cw) (r i s : Int) (w : World) (h : BwAt w m v) (hl : Cms w la0 lc0 l) (hok : okD ((r, i), s)) (htp : v.b.tips.length ≤ 1100000) (hB : BdA 1100000 3 v.b.tr) (hsz : szT 10 v.b.tr ≤ 1100000) :
    Calls Tryz.prog 10 #[.agg (bwcells v), .slice la0 l.length lc0, .agg #[.int .u8 r, .int .u32 i, .int .u64 s]] w (fun e w' => e = .returned (.bool true) ∧ Below w.heap.size w w') := by
  obtain ⟨⟨num, F, tips, t, tr⟩, fa, fc, ta, tc, ra, rc⟩ := v
  have H := Lib.hid h
  have HL := Lib.hid hl
  have HBd := Lib.hid hB
  have Hsz := Lib.hid hsz
  have Hok := Lib.hid hok
  dsimp only at htp
  have E : Hid (Below w.heap.size w ((w.alloc (.cells (basecells num fa F.length fc ta tips.length tc t ra tr.length rc) 28)).alloc (.cells #[.int .u8 r, .int .u32 i, .int .u64 s] 41)) ∧ ((w.alloc (.cells (basecells num fa F.length fc ta tips.length tc t ra tr.length rc) 28)).alloc (.cells #[.int .u8 r, .int .u32 i, .int .u64 s] 41)).heap[w.heap.size]? = some (.cells (basecells num fa F.length fc ta tips.length tc t ra tr.length rc) 28 (0, 0)) ∧ ((w.alloc (.cells (basecells num fa F.length fc ta tips.length tc t ra tr.length rc) 28)).alloc (.cells #[.int .u8 r, .int .u32 i, .int .u64 s] 41)).heap[w.heap.size + 1]? = some (.cells #[.int .u8 r, .int .u32 i, .int .u64 s] 41 (0, 0))) :=
    Lib.hid ⟨((Below.refl _ _).alloc (Nat.le_refl _) _).alloc (by simp) _, (heap_old _ _ (by simp)).trans (heap_new _ _), heap_new2 _ _ _⟩
  clear h hl hB hsz hok
  simp only [bwcells]
  go_enter Tryz.func10, Tryz.ntmps10
  go_wp2_with fail
  refine (both47_any ⟨⟨num, F, tips, t, tr⟩, fa, fc, ta, tc, ra, rc⟩ m la0 lc0 l _ (H.out.below E.out.1) (HL.out.below E.out.1) htp HBd.out Hsz.out).mono ?_
  intro e w1 hto
  rcases hto.two with ⟨rfl, hb⟩ | ⟨P, rfl, hp, hPl, hPv⟩
  · have HB := Lib.hid (below2 E.out.1 hb E.out.1.size)
    clear hto hb
    go_wp2_with fail
    refine (known47_any _).mono ?_
    rintro e w2 ⟨rfl, hb⟩
    have HB2 := Lib.hid (below2 HB.out hb HB.out.size)
    clear hb
    go_wp2_with fail
    go_ret
    exact ⟨rfl, HB2.out⟩
  have HP1 := Lib.hid hp
  have HB1 := Lib.hid (below2 E.out.1 hp.bel E.out.1.size)
  have HX1 := Lib.hid ((hp.bel.block _ (heap_lt E.out.2.2)).trans E.out.2.2)
  have hSl : P.S.length ≤ 12 := by rw [hp.len]; exact hPl
  have Hlv := Lib.hid (show ∀ S : List Cm, S.Perm (cms P.L) → SortedC S → LvH S from fun S h1 h2 => LvH.of hp.ins hp.hist h1 h2)
  have HlS := Lib.hid (Hlv.out (cms P.S) hp.perm hp.rg.sorted)
  have hSc : (cms P.S).length = P.S.length := by unfold cms; rw [List.length_map]
  have HSc := Lib.hid hSc
  clear hto hp hPv E hSc
  generalize (w.alloc (.cells (basecells num fa F.length fc ta tips.length tc t ra tr.length rc) 28)).alloc (.cells #[.int .u8 r, .int .u32 i, .int .u64 s] 41) = wA at HP1
  go_wp2_with fail
  refine (levels_any _ (cms P.L) _ (Coms.of HP1.out.gr)).mono ?_
  intro e w2 hto
  obtain ⟨ra, rc, R, S2, rfl, hp2, hs2, hV, hoL, hoR, hap, hRl, hRv, hb2⟩ := hto
  obtain rfl : cms P.S = S2 := sorted_uniq HP1.out.perm HP1.out.rg.sorted hp2 hs2
  have HV := Lib.hid hV
  have HP2 := Lib.hid (HP1.out.below hb2)
  have HB2 := Lib.hid (below2 HB1.out hb2 HB1.out.size)
  have HX2 := Lib.hid ((hb2.block _ (heap_lt HX1.out)).trans HX1.out)
  have HoL := Lib.hid hoL
  have HoR := Lib.hid (show ∀ r ∈ R, Vec w2 r.a r.c r.v from fun r hr => (hoR r hr).vec)
  have HRv := Lib.hid hRv
  clear hp2 hs2 hV hoL hoR hap hb2 HP1 HB1 HX1 hRv
  go_wp2_with fail
  refine (levels_R P.pw wA P.m P.v P.S P.la P.lc _ HP2.out.rg HlS.out).mono ?_
  intro e w3 hto
  obtain ⟨qa, qc, Q, rfl, hV2, hoL2, hoR2, hQl, hQv, hb3⟩ := hto
  have hRQ : R.map (·.v) = Q.map (·.v) := LevP.uniq HV.out hV2
  have hRQl : R.length = Q.length := by have h1 := congrArg List.length hRQ; simpa using h1
  have HRQ := Lib.hid hRQ
  have HRQl := Lib.hid hRQl
  have x1 : ((R.length : Int) != (Q.length : Int)) = false := by rw [bne_eq_false_iff_eq, hRQl]
  have HoQ := Lib.hid hoL2
  have HoQR := Lib.hid (show ∀ r ∈ Q, Vec w3 r.a r.c r.v from fun r hr => (hoR2 r hr).vec)
  have HP := Lib.hid (HP2.out.below hb3)
  have HB := Lib.hid (below2 HB2.out hb3 HB2.out.size)
  have HX := Lib.hid ((hb3.block _ (heap_lt HX2.out)).trans HX2.out)
  have HoL3 := Lib.hid (show OwnL w3 w1.heap.size ra rc R from owns_chg (F := []) HoL.out (Chg.of_below hb3) (by simp))
  have HoR3 := Lib.hid (show ∀ r ∈ R, Vec w3 r.a r.c r.v from fun r hr => (HoR.out r hr).below hb3)
  have HVl := Lib.hid (show (R.map (·.v)).length = R.length from List.length_map _)
  clear hV2 hoL2 hoR2 hQv hb3 HP2 HB2 HX2 HoL HoR hRQ hRQl
  go_wp2_with fail
  go_loopw [12, 39] (fun u j wr => ∃ (q n : Nat), q ≤ R.length ∧ j = .int .i64 q ∧ u = .int .i64 (n : Int) ∧ n ≤ 200 ∧ Hid (n = widM (R.map (·.v)) q) ∧ Hid (Below w3.heap.size w3 wr)) (fun _ j _ => R.length - (intOf j).toNat)
  case atStart => exact ⟨0, 0, Nat.zero_le _, rfl, rfl, by decide, Lib.hid rfl, Lib.hid (Below.refl _ _)⟩
  case round =>
    obtain ⟨q, n, hq, rfl, rfl, hn, HN, B⟩ := hrel
    by_cases hlt : q < R.length
    · obtain ⟨rr, hrr⟩ : ∃ x, R[q]? = some x := ⟨R[q], List.getElem?_eq_getElem (by omega)⟩
      have hql : q < Q.length := by have := HRQl.out; omega
      obtain ⟨qq, hqq⟩ : ∃ x, Q[q]? = some x := ⟨Q[q], List.getElem?_eq_getElem hql⟩
      obtain ⟨g2, rfl⟩ := HoL3.out.ptr (by omega)
      obtain ⟨g3, rfl⟩ := HoQ.out.ptr (by omega)
      have hc0 := OwnL.cell (w := wr.drew) (owns_chg (F := []) HoL3.out (Chg.of_below B.out.drew) (by simp)) hrr
      have hc1 := OwnL.cell (w := wr.drew) (owns_chg (F := []) HoQ.out (Chg.of_below B.out.drew) (by simp)) hqq
      have hd0 := OwnL.cell (w := wr) (owns_chg (F := []) HoL3.out (Chg.of_below B.out) (by simp)) hrr
      have hd1 := OwnL.cell (w := wr) (owns_chg (F := []) HoQ.out (Chg.of_below B.out) (by simp)) hqq
      have hrl : rr.v.length ≤ 200 := HRv.out rr (List.mem_of_getElem? hrr)
      have heq : rr.v = qq.v := by
        have h1 : (R.map (·.v))[q]? = some rr.v := by rw [List.getElem?_map, hrr]; rfl
        have h2 : (Q.map (·.v))[q]? = some qq.v := by rw [List.getElem?_map, hqq]; rfl
        rw [HRQ.out, h2] at h1
        exact (Option.some.inj h1).symm
      have HN2 := Lib.hid (show max n qq.v.length = widM (R.map (·.v)) (q + 1) from by rw [← heq, widM_next (l := rr.v) (by rw [List.getElem?_map, hrr]; rfl), ← HN.out])
      have HVr := Lib.hid ((HoR3.out rr (List.mem_of_getElem? hrr)).below B.out.drew)
      have HVq := Lib.hid ((HoQR.out qq (List.mem_of_getElem? hqq)).below B.out.drew)
      have Heq := Lib.hid heq
      have Hqq := Lib.hid hqq
      have hql2 : qq.v.length ≤ 200 := by rw [← heq]; exact hrl
      clear hrr hqq heq
      obtain ⟨xa, xc, xv⟩ := rr
      obtain ⟨ya, yc, yv⟩ := qq
      dsimp only at hc0 hc1 hd0 hd1 hrl HN2 HVr HVq Heq hql2
      have hmx : max n yv.length ≤ 200 := by omega
      go_wp2_with fail
      refine region_text [([0, 1, 2, 3, 4, 5, 6, 7, 8, 9], false)] mixed (by kernel_rfl) ?_
      simp only [wpSegs, List.map_cons, List.map_nil, List.getD_cons_succ, List.getD_cons_zero]
      go_wp2_with fail
      refine (same47_any xa ya xc yc xv yv _ HVr.out HVq.out (by omega) (by omega)).mono ?_
      rintro e w5 ⟨rfl, hb⟩
      rw [decide_eq_true Heq.out]
      have B5 := Lib.hid (below2 B.out.drew hb B.out.drew.size)
      clear hb hc0 hc1 hd0 hd1
      have hc1 := OwnL.cell (w := w5) (owns_chg (F := []) HoQ.out (Chg.of_below B5.out) (by simp)) Hqq.out
      go_wp2_with fail
      refine And.intro (by kernel_rfl) ?_
      go_wp2_with fail
      go_roundw
      case rel => exact ⟨q + 1, max n yv.length, by omega, by go_num, congrArg (Value.int .i64) (by omega), hmx, HN2, B5⟩
      case measure => simp [intOf]; omega
    · have HN2 := Lib.hid (show n = widM (R.map (·.v)) (R.map (·.v)).length from by
        have hqq : q = R.length := by omega
        rw [HVl.out, ← hqq]
        exact HN.out)
      have P4 := Lib.hid (HP.out.below B.out)
      have T4 := Lib.hid (below2 HB.out B.out HB.out.size)
      have X4 := Lib.hid ((B.out.block _ (heap_lt HX.out)).trans HX.out)
      clear HoL3 HoQ HoR3 HoQR HN HP HB HX
      have d0 := cells_at X4.out
      have z0 := heap_lt X4.out
      go_wp2_with fail
      refine (besideL_G P.pg P.mb P.w0 3 P.b P.L P.va P.vc P.vv r i s _ P4.out.gr Hok.out).mono ?_
      intro e w5 hto
      clear hn hq hlt
      rcases hto with ⟨hf, rfl, hb5⟩ | ⟨y, ma, mc, mv, hf, rfl, hBs, hokm, hml, hom, hb5⟩
      · have hfS : findC (cms P.S) ((r, i), s) = none := by rw [P4.out.nd]; exact hf
        have hix : ixC P.S ((r, i), s) = -1 := by
          rcases ixC_cases P.S ((r, i), s) with ⟨h1, _⟩ | ⟨k, v, _, _, _, h2⟩
          · exact h1
          · rw [hfS] at h2; cases h2
        have Hix := Lib.hid hix
        have P5 := Lib.hid (P4.out.below hb5)
        have T5 := Lib.hid (below2 T4.out hb5 T4.out.size)
        have X5 := Lib.hid ((hb5.block _ (heap_lt X4.out)).trans X4.out)
        clear hf hfS hix hb5 P4 T4 X4 d0 z0
        have d0 := cells_at X5.out
        have z0 := heap_lt X5.out
        have y1 : decide ((-1 : Int) < 0) = true := by decide
        have y2 : decide ((0 : Int) ≤ -1) = false := by decide
        go_wp2_with fail
        refine (find_R P.pw wA P.m P.v P.S P.la P.lc r i s _ P5.out.rg).mono ?_
        rintro e w6 ⟨rfl, hb⟩
        rw [Hix.out]
        have P6 := Lib.hid (P5.out.below hb)
        have T6 := Lib.hid (below2 T5.out hb T5.out.size)
        have X6 := Lib.hid ((hb.block _ (heap_lt X5.out)).trans X5.out)
        clear hb d0 z0 P5 T5 X5
        have d0 := cells_at X6.out
        have z0 := heap_lt X6.out
        go_wp2_with fail
        refine (find_R P.pw wA P.m P.v P.S P.la P.lc r i s _ P6.out.rg).mono ?_
        rintro e w7 ⟨rfl, hb⟩
        rw [Hix.out]
        have P9 := Lib.hid (P6.out.below hb)
        have T9 := Lib.hid (below2 T6.out hb T6.out.size)
        clear hb d0 z0 P6 T6 X6
        have PD := Lib.hid (P9.out.below ((Below.refl _ _).drew))
        have TD := Lib.hid (T9.out.drew)
        clear P9 T9
        go_wp2_with fail
        refine region_text [([0, 2, 1, 3, 4, 5, 6, 8, 7, 9, 10, 11, 12, 13, 15, 14, 16, 17, 18, 19, 22, 23, 24, 25, 26], false), ([20], true), ([21, 27, 28, 29, 30, 31, 32], false)] mixed (by kernel_rfl) ?_
        simp only [wpSegs, List.map_cons, List.map_nil, List.getD_cons_succ, List.getD_cons_zero]
        go_wp2_with fail
        refine (chain_G P.pg P.mb P.w0 3 P.b P.L P.va P.vc P.vv _ PD.out.gr Hlv.out).mono ?_
        intro e w10 hto
        obtain ⟨ca, cc, C, S3, V3, rfl, hp3, hs3, hV3, hC3, hoC, hokC, hCl, hb10⟩ := hto
        obtain rfl : cms P.S = S3 := sorted_uniq PD.out.perm PD.out.rg.sorted hp3 hs3
        obtain rfl : R.map (·.v) = V3 := LevP.uniq HV.out hV3
        have HC := Lib.hid hC3
        have HoC := Lib.hid hoC.vec
        have P10 := Lib.hid (PD.out.below hb10)
        have T10 := Lib.hid (below2 TD.out hb10 TD.out.size)
        clear hp3 hs3 hV3 hC3 hoC hokC hb10 PD TD
        go_wp2_with fail
        refine (chain47_R P.pw wA P.m P.v P.S P.la P.lc _ P10.out.rg HlS.out).mono ?_
        intro e w11 hto
        obtain ⟨ea, ec, D, V4, rfl, hV4, hD4, hDl, hoD, hb11⟩ := hto
        obtain rfl : R.map (·.v) = V4 := LevP.uniq HV.out hV4
        have HCD := Lib.hid (ChnP.uniq P10.out.rg.nodup HC.out hD4)
        have HoD := Lib.hid hoD.vec
        have HoC2 := Lib.hid (HoC.out.below hb11)
        have P11 := Lib.hid (P10.out.below hb11)
        have T11 := Lib.hid (below2 T10.out hb11 T10.out.size)
        clear hV4 hD4 hoD hb11 P10 T10 HoC HC
        go_wp2_with fail
        refine (same47_any ca ea cc ec C D _ HoC2.out HoD.out (by omega) (by omega)).mono ?_
        rintro e w12 ⟨rfl, hb⟩
        rw [decide_eq_true HCD.out]
        have P12 := Lib.hid (P11.out.below hb)
        have T12 := Lib.hid (below2 T11.out hb T11.out.size)
        clear hb P11 T11 HoC2 HoD HCD
        go_wp2_with fail
        refine (pairs_any _ (cms P.L) _ (Coms.of P12.out.gr)).mono ?_
        intro e w13 hto
        obtain ⟨S4, hp4, hs4, rfl, hb13⟩ := hto
        obtain rfl : cms P.S = S4 := sorted_uniq P12.out.perm P12.out.rg.sorted hp4 hs4
        have P13 := Lib.hid (P12.out.below hb13)
        have T13 := Lib.hid (below2 T12.out hb13 T12.out.size)
        clear hp4 hs4 hb13 P12 T12
        go_wp2_with fail
        refine (pairs47_R P.pw wA P.m P.v P.S P.la P.lc _ P13.out.rg HlS.out.dag).mono ?_
        rintro e w14 ⟨rfl, hb⟩
        have P14 := Lib.hid (P13.out.below hb)
        have T14 := Lib.hid (below2 T13.out hb T13.out.size)
        clear hb P13 T13
        generalize pairsP (cms P.S) (cms P.S).length = pp
        go_wp2_with fail
        refine (width_G _ (cms P.L) _ (Coms.of P14.out.gr)).mono ?_
        intro e w15 hto
        obtain ⟨S5, V5, hp5, hs5, hV5, rfl, hb15⟩ := hto
        obtain rfl : cms P.S = S5 := sorted_uniq P14.out.perm P14.out.rg.sorted hp5 hs5
        obtain rfl : R.map (·.v) = V5 := LevP.uniq HV.out hV5
        rw [← HN2.out]
        have P15 := Lib.hid (P14.out.below hb15)
        have T15 := Lib.hid (below2 T14.out hb15 T14.out.size)
        clear hp5 hs5 hV5 hb15 P14 T14
        have RB := Lib.hid P15.out.rg
        have g0 := cells_at RB.out.blk
        simp only [rgcells] at g0
        have gz := heap_lt RB.out.blk
        go_wp2_with fail
        refine (commits_G P.pg P.mb P.w0 3 P.b P.L P.va P.vc P.vv _ P15.out.gr).mono ?_
        rintro e w16 ⟨sa, sc, ss, rfl, hp6, hs6, ho6, he6, hb6⟩
        have Hb6 := Lib.hid hb6
        have hss : ss.length = P.S.length := by
          have h1 := hp6.length_eq
          have h2 := P15.out.len
          unfold cms at h1
          rw [List.length_map, List.length_map] at h1
          omega
        have y9 : ((ss.length : Int) == (P.S.length : Int)) = true := by rw [beq_iff_eq, hss]
        have T16 := Lib.hid (below2 T15.out hb6 T15.out.size)
        clear hp6 hs6 ho6 he6 hb6 hss g0 gz RB P15 T15
        go_wp2_with fail
        refine And.intro (Agree.of_below Hb6.out) ?_
        go_wp2_with fail
        refine (known47_any _).mono ?_
        rintro e w17 ⟨rfl, hb⟩
        have T17 := Lib.hid (below2 T16.out hb T16.out.size)
        clear hb
        go_wp2_with fail
        refine And.intro (by kernel_rfl) ?_
        go_wp2_with fail
        go_ret
        exact ⟨rfl, T17.out⟩
      · have hfS : findC (cms P.S) ((r, i), s) = some y := by rw [P4.out.nd]; exact hf
        obtain ⟨kx, hix⟩ : ∃ k : Nat, ixC P.S ((r, i), s) = (k : Int) ∧ k < P.S.length := by
          rcases ixC_cases P.S ((r, i), s) with ⟨_, h2⟩ | ⟨k, v, h1, h3, _, _⟩
          · rw [hfS] at h2; cases h2
          · exact ⟨k, h1, (List.getElem?_eq_some_iff.1 h3).1⟩
        have hkx : kx < 12 := by have := hix.2; omega
        have Hix := Lib.hid hix.1
        have HfS := Lib.hid hfS
        have P5 := Lib.hid (P4.out.below hb5)
        have T5 := Lib.hid (below2 T4.out hb5 T4.out.size)
        have X5 := Lib.hid ((hb5.block _ (heap_lt X4.out)).trans X4.out)
        have Hm := Lib.hid hom.vec
        have HBs := Lib.hid hBs
        have hmvl : mv.length ≤ 12 := by unfold cms at hml; rw [List.length_map] at hml; omega
        clear hf hfS hix hb5 P4 T4 X4 d0 z0 hBs hokm hml hom
        have d0 := cells_at X5.out
        have z0 := heap_lt X5.out
        have y1 : decide ((kx : Int) < 0) = false := decide_eq_false (by omega)
        have y2 : decide ((0 : Int) ≤ (kx : Int)) = true := decide_eq_true (by omega)
        go_wp2_with fail
        refine (find_R P.pw wA P.m P.v P.S P.la P.lc r i s _ P5.out.rg).mono ?_
        rintro e w6 ⟨rfl, hb⟩
        rw [Hix.out]
        have P6 := Lib.hid (P5.out.below hb)
        have T6 := Lib.hid (below2 T5.out hb T5.out.size)
        have X6 := Lib.hid ((hb.block _ (heap_lt X5.out)).trans X5.out)
        have Hm6 := Lib.hid (Hm.out.below hb)
        clear hb d0 z0 P5 T5 X5 Hm
        have d0 := cells_at X6.out
        have z0 := heap_lt X6.out
        go_wp2_with fail
        refine (find_R P.pw wA P.m P.v P.S P.la P.lc r i s _ P6.out.rg).mono ?_
        rintro e w7 ⟨rfl, hb⟩
        rw [Hix.out]
        have P7 := Lib.hid (P6.out.below hb)
        have T7 := Lib.hid (below2 T6.out hb T6.out.size)
        have X7 := Lib.hid ((hb.block _ (heap_lt X6.out)).trans X6.out)
        have Hm7 := Lib.hid (Hm6.out.below hb)
        clear hb d0 z0 P6 T6 X6 Hm6
        have d0 := cells_at X7.out
        have z0 := heap_lt X7.out
        go_wp2_with fail
        refine (beside47_R P.pw wA P.m P.v P.S P.la P.lc P7.out.rg.nodup r i s y _ P7.out.rg HfS.out).mono ?_
        intro e w8 hto
        obtain ⟨na, nc, nv, rfl, hv8, hvl8, hov8, hb8⟩ := hto
        have hnl : nv.length ≤ 12 := by rw [HSc.out] at hvl8; omega
        have heq : mv = nv := BesP.uniq P7.out.perm.symm HBs.out hv8
        have Heq := Lib.hid heq
        have Hn8 := Lib.hid hov8.vec
        have Hm8 := Lib.hid (Hm7.out.below hb8)
        have P8 := Lib.hid (P7.out.below hb8)
        have T8 := Lib.hid (below2 T7.out hb8 T7.out.size)
        clear hv8 hvl8 hov8 hb8 heq P7 T7 X7 Hm7 d0 z0
        go_wp2_with fail
        refine (same47_any ma na mc nc mv nv _ Hm8.out Hn8.out (by omega) (by omega)).mono ?_
        rintro e w9 ⟨rfl, hb⟩
        rw [decide_eq_true Heq.out]
        have P9 := Lib.hid (P8.out.below hb)
        have T9 := Lib.hid (below2 T8.out hb T8.out.size)
        clear hb P8 T8 Hm8 Hn8 Heq HBs
        have PD := Lib.hid (P9.out.below ((Below.refl _ _).drew))
        have TD := Lib.hid (T9.out.drew)
        clear P9 T9
        go_wp2_with fail
        refine region_text [([0, 2, 1, 3, 4, 5, 6, 8, 7, 9, 10, 11, 12, 13, 15, 14, 16, 17, 18, 19, 22, 23, 24, 25, 26], false), ([20], true), ([21, 27, 28, 29, 30, 31, 32], false)] mixed (by kernel_rfl) ?_
        simp only [wpSegs, List.map_cons, List.map_nil, List.getD_cons_succ, List.getD_cons_zero]
        go_wp2_with fail
        refine (chain_G P.pg P.mb P.w0 3 P.b P.L P.va P.vc P.vv _ PD.out.gr Hlv.out).mono ?_
        intro e w10 hto
        obtain ⟨ca, cc, C, S3, V3, rfl, hp3, hs3, hV3, hC3, hoC, hokC, hCl, hb10⟩ := hto
        obtain rfl : cms P.S = S3 := sorted_uniq PD.out.perm PD.out.rg.sorted hp3 hs3
        obtain rfl : R.map (·.v) = V3 := LevP.uniq HV.out hV3
        have HC := Lib.hid hC3
        have HoC := Lib.hid hoC.vec
        have P10 := Lib.hid (PD.out.below hb10)
        have T10 := Lib.hid (below2 TD.out hb10 TD.out.size)
        clear hp3 hs3 hV3 hC3 hoC hokC hb10 PD TD
        go_wp2_with fail
        refine (chain47_R P.pw wA P.m P.v P.S P.la P.lc _ P10.out.rg HlS.out).mono ?_
        intro e w11 hto
        obtain ⟨ea, ec, D, V4, rfl, hV4, hD4, hDl, hoD, hb11⟩ := hto
        obtain rfl : R.map (·.v) = V4 := LevP.uniq HV.out hV4
        have HCD := Lib.hid (ChnP.uniq P10.out.rg.nodup HC.out hD4)
        have HoD := Lib.hid hoD.vec
        have HoC2 := Lib.hid (HoC.out.below hb11)
        have P11 := Lib.hid (P10.out.below hb11)
        have T11 := Lib.hid (below2 T10.out hb11 T10.out.size)
        clear hV4 hD4 hoD hb11 P10 T10 HoC HC
        go_wp2_with fail
        refine (same47_any ca ea cc ec C D _ HoC2.out HoD.out (by omega) (by omega)).mono ?_
        rintro e w12 ⟨rfl, hb⟩
        rw [decide_eq_true HCD.out]
        have P12 := Lib.hid (P11.out.below hb)
        have T12 := Lib.hid (below2 T11.out hb T11.out.size)
        clear hb P11 T11 HoC2 HoD HCD
        go_wp2_with fail
        refine (pairs_any _ (cms P.L) _ (Coms.of P12.out.gr)).mono ?_
        intro e w13 hto
        obtain ⟨S4, hp4, hs4, rfl, hb13⟩ := hto
        obtain rfl : cms P.S = S4 := sorted_uniq P12.out.perm P12.out.rg.sorted hp4 hs4
        have P13 := Lib.hid (P12.out.below hb13)
        have T13 := Lib.hid (below2 T12.out hb13 T12.out.size)
        clear hp4 hs4 hb13 P12 T12
        go_wp2_with fail
        refine (pairs47_R P.pw wA P.m P.v P.S P.la P.lc _ P13.out.rg HlS.out.dag).mono ?_
        rintro e w14 ⟨rfl, hb⟩
        have P14 := Lib.hid (P13.out.below hb)
        have T14 := Lib.hid (below2 T13.out hb T13.out.size)
        clear hb P13 T13
        generalize pairsP (cms P.S) (cms P.S).length = pp
        go_wp2_with fail
        refine (width_G _ (cms P.L) _ (Coms.of P14.out.gr)).mono ?_
        intro e w15 hto
        obtain ⟨S5, V5, hp5, hs5, hV5, rfl, hb15⟩ := hto
        obtain rfl : cms P.S = S5 := sorted_uniq P14.out.perm P14.out.rg.sorted hp5 hs5
        obtain rfl : R.map (·.v) = V5 := LevP.uniq HV.out hV5
        rw [← HN2.out]
        have P15 := Lib.hid (P14.out.below hb15)
        have T15 := Lib.hid (below2 T14.out hb15 T14.out.size)
        clear hp5 hs5 hV5 hb15 P14 T14
        have RB := Lib.hid P15.out.rg
        have g0 := cells_at RB.out.blk
        simp only [rgcells] at g0
        have gz := heap_lt RB.out.blk
        go_wp2_with fail
        refine (commits_G P.pg P.mb P.w0 3 P.b P.L P.va P.vc P.vv _ P15.out.gr).mono ?_
        rintro e w16 ⟨sa, sc, ss, rfl, hp6, hs6, ho6, he6, hb6⟩
        have Hb6 := Lib.hid hb6
        have hss : ss.length = P.S.length := by
          have h1 := hp6.length_eq
          have h2 := P15.out.len
          unfold cms at h1
          rw [List.length_map, List.length_map] at h1
          omega
        have y9 : ((ss.length : Int) == (P.S.length : Int)) = true := by rw [beq_iff_eq, hss]
        have T16 := Lib.hid (below2 T15.out hb6 T15.out.size)
        clear hp6 hs6 ho6 he6 hb6 hss g0 gz RB P15 T15
        go_wp2_with fail
        refine And.intro (Agree.of_below Hb6.out) ?_
        go_wp2_with fail
        refine (known47_any _).mono ?_
        rintro e w17 ⟨rfl, hb⟩
        have T17 := Lib.hid (below2 T16.out hb T16.out.size)
        clear hb
        go_wp2_with fail
        refine And.intro (by kernel_rfl) ?_
        go_wp2_with fail
        go_ret
        exact ⟨rfl, T17.out⟩
end Go.Proofs.YthdmoplclllhjaaGreat
