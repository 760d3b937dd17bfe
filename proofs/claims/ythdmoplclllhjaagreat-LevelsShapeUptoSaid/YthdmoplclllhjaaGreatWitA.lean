/- Ancestors, plainly: by parents, and by vectors. No program in sight. | base.ancestors, plainly. No program in sight. | The plain law of BaseAncestors. No program in sight. | Levels of commits, plainly. No program in sight. | Rows of rows of dots in memory of one's own. | slices.ContainsFunc of commits by any function; base.greatest: contracts. | varvelaw13.reach: the contract. | base.ancestors: the contract. (printed by wip/tools/genanca.py) | base.Of: the contract. (printed by wip/tools/genofa.py) | The page's example of bases, plainly: a fork, and one that shares nothing. No program in sight. | slices.DeleteFunc of commits in a row of their own, by any function: contract. (printed by wip/tools/gendelc.py) | Graph.Base, base.Within: the contracts. -/
import Derived.Test.YthdmoplclllhjaaGreatRgA
import Derived.Test.YthdmoplclllhjaaGreatGraC
import Derived.Test.YthdmoplclllhjaaGreatGraM
import Derived.Test.YthdmoplclllhjaaGreatGraQ
import Derived.Test.YthdmoplclllhjaaGreatWidB
import Derived.Test.YthdmoplclllhjaaGreatBothA
import Derived.Test.YthdmoplclllhjaaGreatGraV
import Derived.Test.YthdmoplclllhjaaGreatBasB
/- DagP -/
/- DagP -/
namespace Go.Proofs.YthdmoplclllhjaaGreat
open Go.RowKit
set_option linter.unusedVariables false
set_option linter.unusedSimpArgs false

/-- what is needed of commits here -/
structure DagP (S : List Cm) : Prop where
  nodup : (S.map (·.d)).Nodup
  pos : ∀ c ∈ S, 1 ≤ c.t
  top : ∀ c ∈ S, c.t ≤ 1099511627776
  self : ∀ c ∈ S, hasV c.vv c.d = true
  up : ∀ c ∈ S, ∀ p ∈ c.ps, ∀ z, findC S p = some z → z.t < c.t ∧ ∀ x, getN z.vv x ≤ getN c.vv x
  deep : ∀ c ∈ S, ∀ y ∈ S, y.d ≠ c.d → hasV c.vv y.d = true → ∃ p ∈ c.ps, ∃ z, findC S p = some z ∧ hasV z.vv y.d = true
  within : ∀ c ∈ S, ∀ y ∈ S, hasV c.vv y.d = true → ∀ x, getN y.vv x ≤ getN c.vv x
  anc : ∀ c ∈ S, ∀ y ∈ S, y.d ≠ c.d → hasV c.vv y.d = true → y.t < c.t
theorem DagP.of {F : List Dt} {L S : List Cm} {vv : List Dt} (hi : HistI F L) (h : HistP F L vv) (hp : S.Perm L) : DagP S := by
  have hn : (S.map (·.d)).Nodup := (hp.map _).nodup_iff.2 h.nodup
  have hf : findC S = findC L := findC_perm hp hn
  refine ⟨hn, fun c hc => (h.may c (hp.mem_iff.1 hc)).t1, fun c hc => (h.may c (hp.mem_iff.1 hc)).t2, fun c hc => h.self (hp.mem_iff.1 hc), fun c hc p hpp z hz => ?_, fun c hc y hy hne hh => ?_, fun c hc y hy hh => (h.within (hp.mem_iff.1 hc) (hp.mem_iff.1 hy) hh).1, fun c hc y hy hne hh => (h.anc c (hp.mem_iff.1 hc) y (hp.mem_iff.1 hy) hne hh).2⟩
  · rw [hf] at hz
    have := hi.up h (hp.mem_iff.1 hc) hpp hz
    exact ⟨this.2.2.1, this.2.2.2⟩
  · rw [hf]
    exact hi.deep h (hp.mem_iff.1 hc) (hp.mem_iff.1 hy) hne hh
end Go.Proofs.YthdmoplclllhjaaGreat

/- AncP -/
namespace Go.Proofs.YthdmoplclllhjaaGreat
open Go.RowKit
set_option linter.unusedVariables false
set_option linter.unusedSimpArgs false

end Go.Proofs.YthdmoplclllhjaaGreat

/- AncQ -/
namespace Go.Proofs.YthdmoplclllhjaaGreat
open Go.RowKit
set_option linter.unusedVariables false
set_option linter.unusedSimpArgs false

end Go.Proofs.YthdmoplclllhjaaGreat

/- GreA -/
/- LevA -/
/- LevP -/
namespace Go.Proofs.YthdmoplclllhjaaGreat
open Go.RowKit
set_option linter.unusedVariables false
set_option linter.unusedSimpArgs false

/-- the greatest level of some dots -/
def lvMax (f : Dt → Option Nat) (ps : List Dt) : Nat := ps.foldl (fun n p => max n ((f p).getD 0)) 0
theorem lvMax_snoc (f : Dt → Option Nat) (ps : List Dt) (p : Dt) : lvMax f (ps ++ [p]) = max (lvMax f ps) ((f p).getD 0) := by simp [lvMax, List.foldl_append]
def lvStep (f : Dt → Option Nat) (c : Cm) : Dt → Option Nat := fun d => if d = c.d then some (lvMax f c.ps + 1) else f d
/-- the levels of commits in their order -/
def lvF (S : List Cm) : Dt → Option Nat := S.foldl lvStep (fun _ => none)
theorem lvF_snoc (S : List Cm) (c : Cm) : lvF (S ++ [c]) = lvStep (lvF S) c := by simp [lvF, List.foldl_append]
theorem lvFold_none (S : List Cm) : ∀ (f : Dt → Option Nat) (d : Dt), S.foldl lvStep f d = none ↔ f d = none ∧ ∀ c ∈ S, c.d ≠ d := by
  induction S with
  | nil => intro f d; simp
  | cons c S ih =>
    intro f d
    rw [List.foldl_cons, ih]
    unfold lvStep
    by_cases e : d = c.d
    · subst e; simp
    · rw [if_neg e]
      simp only [List.mem_cons, forall_eq_or_imp]
      exact ⟨fun h => ⟨h.1, fun h' => e h'.symm, h.2⟩, fun h => ⟨h.1, h.2.2⟩⟩
theorem lvF_none {S : List Cm} {d : Dt} : lvF S d = none ↔ ∀ c ∈ S, c.d ≠ d := by
  unfold lvF; rw [lvFold_none]; simp
theorem lvMax_le {f : Dt → Option Nat} {k : Nat} (h : ∀ d n, f d = some n → 1 ≤ n ∧ n ≤ k) (ps : List Dt) : lvMax f ps ≤ k := by
  have key : ∀ (ps : List Dt) (m : Nat), m ≤ k → ps.foldl (fun n p => max n ((f p).getD 0)) m ≤ k := by
    intro ps
    induction ps with
    | nil => intro m hm; exact hm
    | cons p ps ih =>
      intro m hm
      rw [List.foldl_cons]
      refine ih _ ?_
      cases hp : f p with
      | none => simp; exact hm
      | some n => have := h p n hp; simp; omega
  exact key ps 0 (Nat.zero_le _)
theorem lvFold_le (S : List Cm) : ∀ (f : Dt → Option Nat) (k : Nat), (∀ d n, f d = some n → 1 ≤ n ∧ n ≤ k) → ∀ d n, S.foldl lvStep f d = some n → 1 ≤ n ∧ n ≤ k + S.length := by
  induction S with
  | nil => intro f k h d n hn; exact h d n hn
  | cons c S ih =>
    intro f k h d n hn
    rw [List.foldl_cons] at hn
    have h1 : ∀ d n, lvStep f c d = some n → 1 ≤ n ∧ n ≤ k + 1 := by
      intro d n hd
      unfold lvStep at hd
      split at hd
      · cases hd; have := lvMax_le h c.ps; omega
      · have := h d n hd; omega
    have := ih _ (k + 1) h1 d n hn
    simp only [List.length_cons]; omega
theorem lvF_le {S : List Cm} {d : Dt} {n : Nat} (h : lvF S d = some n) : 1 ≤ n ∧ n ≤ S.length := by
  have := lvFold_le S (fun _ => none) 0 (fun d n h => by cases h) d n h
  omega
/-- what is on a level, of some dots -/
def onLv (g : Dt → Option Nat) (T : List Dt) (i : Nat) : List Dt := T.filter fun d => decide (g d = some (i + 1))
theorem onLv_snoc (g : Dt → Option Nat) (T : List Dt) (d : Dt) (i : Nat) : onLv g (T ++ [d]) i = onLv g T i ++ (if g d = some (i + 1) then [d] else []) := by
  unfold onLv
  rw [List.filter_append]
  by_cases e : g d = some (i + 1)
  · simp [e]
  · simp [e]
theorem onLv_none {g : Dt → Option Nat} {T : List Dt} {i : Nat} (h : lvMax g T ≤ i) : onLv g T i = [] := by
  unfold onLv
  rw [List.filter_eq_nil_iff]
  intro d hd hh
  have hg : g d = some (i + 1) := by simpa using hh
  have key : ∀ (T : List Dt) (m : Nat), (d ∈ T ∨ i + 1 ≤ m) → i + 1 ≤ T.foldl (fun n p => max n ((g p).getD 0)) m := by
    intro T
    induction T with
    | nil => intro m hm; rcases hm with h | h; cases h; exact h
    | cons p T ih =>
      intro m hm
      rw [List.foldl_cons]
      apply ih
      rcases hm with h | h
      · rcases List.mem_cons.1 h with rfl | h
        · right; rw [hg]; simp; omega
        · left; exact h
      · right; omega
  have := key T 0 (.inl hd)
  unfold lvMax at h
  omega
end Go.Proofs.YthdmoplclllhjaaGreat

/- LevA -/
namespace Go.Proofs.YthdmoplclllhjaaGreat
open Go.RowKit
set_option linter.unusedVariables false
set_option linter.unusedSimpArgs false

/-- a row of dots, and where it lies -/
structure Rd where
  a : Option Addr
  c : Nat
  v : List Dt
def rdcell (r : Rd) : List Value := [.slice r.a r.v.length r.c]
def rdcells (R : List Rd) : List Value := R.flatMap rdcell
theorem rdcells_one (R : List Rd) : ∀ u ∈ rdcells R, u.oneCell' = true := by
  intro u hu
  simp only [rdcells, List.mem_flatMap] at hu
  obtain ⟨x, _, hx⟩ := hu
  simp [rdcell] at hx
  subst hx; rfl
theorem rdcells_map (R : List Rd) : rdcells R = R.map fun r => Value.slice r.a r.v.length r.c := by
  unfold rdcells rdcell
  induction R with
  | nil => rfl
  | cons r R ih => rw [List.flatMap_cons, ih]; rfl
theorem Tryz.info_sd : (Tryz.prog.info? 23).map (fun i => (i.zero, i.size, i.bytes)) = some (some (.slice none 0 0), 1, 24) := by kernel_rfl
/-- rows in a row of one's own -/
def OwnL (w : World) (base : Nat) (a : Option Addr) (c : Nat) (R : List Rd) : Prop := w.ownsRow base 23 1 (.slice a R.length c) R.length (rdcells R)
theorem OwnL.nil (w : World) (base : Nat) : OwnL w base none 0 [] := World.ownsRow_nil _ _ _ _
/-- rows of one's own of different types lie apart -/
theorem owns_dif {w : World} {base base' : Nat} {e e' : TypeId} {size size' : Nat} {a b : Option Addr} {n c m n' c' m' : Nat} {xs ys : List Value} (h : w.ownsRow base e size (.slice a n c) m xs) (k : w.ownsRow base' e' size' (.slice b n' c') m' ys) (hne : e ≠ e') : ∀ q ∈ ob a, q ∉ ob b := by
  intro q hq hm
  rcases h.2 with ⟨h2, _⟩ | ⟨g, cap, cur, h2, _, hg, _⟩
  · injection h2 with h2
    subst h2
    simp [ob] at hq
  · rcases k.2 with ⟨k2, _⟩ | ⟨g', cap', cur', k2, _, hg', _⟩
    · injection k2 with k2
      subst k2
      simp [ob] at hm
    · injection h2 with h2
      injection k2 with k2
      subst h2 k2
      simp [ob] at hq hm
      subst hq
      subst hm
      rw [hg] at hg'
      injection hg' with hg'
      injection hg' with _ h3
      exact hne h3
theorem sd_ne : 23 ≠ 41 := by decide
/-- blocks without cells -/
def NoCell (w : World) (F : List Nat) : Prop := ∀ k ∈ F, ∀ C t fr, w.heap[k]? ≠ some (.cells C t fr)
theorem NoCell.far {w : World} {F : List Nat} {base : Nat} {e : TypeId} {size n c m : Nat} {a : Option Addr} {xs : List Value} (hF : NoCell w F) (h : w.ownsRow base e size (.slice a n c) m xs) : ∀ k ∈ ob a, k ∉ F := fun k hk hm => by
  obtain ⟨C, fr, hh⟩ := ob_row h k hk
  exact hF k hm _ _ _ hh
theorem NoCell.nil (w : World) : NoCell w [] := fun k hk => by cases hk
/-- the levels while dots are laid on them -/
structure LvE (w wr : World) (a : Option Addr) (c : Nat) (R : List Rd) (g : Dt → Option Nat) (T : List Dt) : Prop where
  row : OwnL wr w.heap.size a c R
  each : ∀ r ∈ R, OwnD wr w.heap.size r.a r.c r.v
  apart : R.Pairwise (fun x y => ∀ k ∈ ob x.a, k ∉ ob y.a)
  max : lvMax g T ≤ R.length
  on : ∀ i r, R[i]? = some r → r.v = onLv g T i
theorem LvE.start (w wr : World) (g : Dt → Option Nat) : LvE w wr none 0 [] g [] :=
  ⟨OwnL.nil _ _, fun r hr => (by cases hr), .nil, Nat.le_refl _, fun i r h => (by simp at h)⟩
theorem LvE.chg {w wr w2 : World} {a : Option Addr} {c : Nat} {R : List Rd} {g : Dt → Option Nat} {T : List Dt} {F : List Nat} (h : LvE w wr a c R g T) (hc : Chg F wr w2) (hF : NoCell wr F) : LvE w w2 a c R g T :=
  ⟨owns_chg h.row hc (hF.far h.row), fun r hr => owns_chg (h.each r hr) hc (hF.far (h.each r hr)), h.apart, h.max, h.on⟩
theorem LvE.below {w wr w2 : World} {a : Option Addr} {c : Nat} {R : List Rd} {g : Dt → Option Nat} {T : List Dt} (h : LvE w wr a c R g T) (hb : Below wr.heap.size wr w2) : LvE w w2 a c R g T := h.chg (F := []) (Chg.of_below hb) (NoCell.nil _)
theorem LvE.push {w wr w2 : World} {a a' : Option Addr} {c c' : Nat} {R : List Rd} {g : Dt → Option Nat} {T : List Dt} (h : LvE w wr a c R g T) (hc : Chg (ob a) wr w2) (ho : OwnL w2 w.heap.size a' c' (R ++ [⟨none, 0, []⟩])) : LvE w w2 a' c' (R ++ [⟨none, 0, []⟩]) g T := by
  refine ⟨ho, fun r hr => ?_, ?_, ?_, fun i r hr => ?_⟩
  · rcases List.mem_append.1 hr with hr | hr
    · exact owns_chg (h.each r hr) hc (fun k hk hk2 => owns_dif h.row (h.each r hr) sd_ne k hk2 hk)
    · simp at hr; subst hr; exact World.ownsRow_nil _ _ _ _
  · rw [List.pairwise_append]
    exact ⟨h.apart, List.pairwise_singleton _ _, fun x hx y hy k hk => by simp at hy; subst hy; simp [ob]⟩
  · have := h.max; simp; omega
  · by_cases e : i < R.length
    · rw [List.getElem?_append_left e] at hr; exact h.on i r hr
    · rw [List.getElem?_append_right (by omega)] at hr
      obtain ⟨h1, h2⟩ := List.getElem?_eq_some_iff.1 hr
      have : i = R.length := by simp at h1; omega
      subst this
      simp at h2
      subst h2
      exact (onLv_none h.max).symm
theorem pairwise_apart {R : List Rd} (h : R.Pairwise (fun x y => ∀ k ∈ ob x.a, k ∉ ob y.a)) {i j : Nat} {x y : Rd} (hx : R[i]? = some x) (hy : R[j]? = some y) (hne : i ≠ j) : ∀ k ∈ ob x.a, k ∉ ob y.a := by
  obtain ⟨hi, rfl⟩ := List.getElem?_eq_some_iff.1 hx
  obtain ⟨hj, rfl⟩ := List.getElem?_eq_some_iff.1 hy
  rcases Nat.lt_or_gt_of_ne hne with h1 | h1
  · exact List.pairwise_iff_getElem.1 h i j hi hj h1
  · intro k hk hk2
    exact List.pairwise_iff_getElem.1 h j i hj hi h1 k hk2 hk
/-- one row is another one now -/
theorem LvE.put {w wr w2 : World} {b c c' : Nat} {a' : Option Addr} {R : List Rd} {g : Dt → Option Nat} {T : List Dt} {d : Dt} {i : Nat} {r : Rd} (h : LvE w wr (some ⟨b, 0, none⟩) c R g T) (hr : R[i]? = some r) (hg : g d = some (i + 1))
    (hc : Chg (ob r.a) wr w2) (ho : OwnD w2 w.heap.size a' c' (r.v ++ [d])) (hn : ∀ k ∈ ob a', k ∈ ob r.a ∨ wr.heap.size ≤ k) :
    LvE w (w2.setCell ⟨b, i, none⟩ (.slice a' (r.v ++ [d]).length c')) (some ⟨b, 0, none⟩) c (R.set i ⟨a', c', r.v ++ [d]⟩) g (T ++ [d]) := by
  have hi : i < R.length := (List.getElem?_eq_some_iff.1 hr).1
  have hrow : OwnL w2 w.heap.size (some ⟨b, 0, none⟩) c R := owns_chg h.row hc (fun k hk hk2 => owns_dif h.row (h.each r (List.mem_of_getElem? hr)) sd_ne k hk hk2)
  have hs := Chg.setCell w2 ⟨b, i, none⟩ (.slice a' (r.v ++ [d]).length c')
  have hold : ∀ j y, R[j]? = some y → j ≠ i → OwnD (w2.setCell ⟨b, i, none⟩ (.slice a' (r.v ++ [d]).length c')) w.heap.size y.a y.c y.v ∧ ∀ k ∈ ob y.a, k ∉ ob a' := by
    intro j y hy hj
    have hey := h.each y (List.mem_of_getElem? hy)
    have hy2 : OwnD w2 w.heap.size y.a y.c y.v := owns_chg hey hc (pairwise_apart h.apart hy hr hj)
    refine ⟨owns_chg hy2 hs (fun k hk hk2 => ?_), fun k hk hk2 => ?_⟩
    · refine owns_dif hrow hy2 sd_ne k ?_ hk
      simpa [ob] using hk2
    · rcases hn k hk2 with h1 | h1
      · exact pairwise_apart h.apart hy hr hj k hk h1
      · have := (owns_lt hey k hk).2; omega
  have hnew : OwnD (w2.setCell ⟨b, i, none⟩ (.slice a' (r.v ++ [d]).length c')) w.heap.size a' c' (r.v ++ [d]) := owns_chg ho hs (fun k hk hk2 => owns_dif hrow ho sd_ne k (by simpa [ob] using hk2) hk)
  refine ⟨?_, fun y hy => ?_, ?_, ?_, fun j y hy => ?_⟩
  · have h1 := (World.ownsRow.stored hrow i (.slice a' (r.v ++ [d]).length c')).1
    unfold OwnL
    rw [rdcells_map] at h1 ⊢
    rw [List.length_set, List.map_set]
    exact h1
  · obtain ⟨j, hj⟩ := List.getElem?_of_mem hy
    rw [List.getElem?_set] at hj
    split at hj
    · cases hj; exact hnew
    · exact (hold j y hj (fun e => by subst e; contradiction)).1
  · rw [List.pairwise_iff_getElem]
    intro j k hj hk hjk
    simp only [List.length_set] at hj hk
    rw [List.getElem_set, List.getElem_set]
    have hyj : R[j]? = some R[j] := List.getElem?_eq_getElem hj
    have hyk : R[k]? = some R[k] := List.getElem?_eq_getElem hk
    by_cases e1 : i = j
    · rw [if_pos e1, if_neg (by omega)]
      intro q hq hq2
      exact (hold k _ hyk (by omega)).2 q hq2 hq
    · rw [if_neg e1]
      by_cases e2 : i = k
      · rw [if_pos e2]; exact (hold j _ hyj (by omega)).2
      · rw [if_neg e2]; exact pairwise_apart h.apart hyj hyk (by omega)
  · rw [lvMax_snoc, hg, List.length_set]
    have := h.max
    simp; omega
  · rw [List.getElem?_set] at hy
    rw [onLv_snoc]
    split at hy
    · rename_i e
      subst e
      cases hy
      rw [if_pos hg, h.on i r hr]
    · rename_i e
      rw [if_neg (by rw [hg]; simp; exact e), List.append_nil]
      exact h.on j y hy
section
variable {w : World} {ops : Array Oper} {rest : List Oper} {o : Oper} {a : Act} {Q : Exit → Act → World → Prop}
theorem wpList_appL (hgd : o.guard = none) (s x : Operand) (ho : o.op = .call { callee := .builtin .append, args := #[s, x], argTypes := #[93, 93] })
    (base : Nat) (va : Option Addr) (vc : Nat) (v : List Rd) (hs : a.eval s = .slice va v.length vc) (hown : OwnL w base va vc v)
    (sa : Option Addr) (c : Nat) (u : List Rd) (hx : a.eval x = .slice sa u.length c) (hsl : Sl w 1 sa u.length c (rdcells u)) (hn : v.length + u.length ≤ 3000000) (hbase : base ≤ w.heap.size)
    (h : ∀ v' a' c' w', v' = v ++ u → OwnL w' base a' c' v' → Below base w w' → Chg (ob va) w w' → wpList Tryz.prog ops Q rest (a.put o.dst (.slice a' (List.length v') c')) w') : wpList Tryz.prog ops Q (o :: rest) a w := by
  obtain ⟨i0, hi0, hz0, hz1, hz2⟩ := info_parts Tryz.info_sd
  refine wpList_append_sl hgd s x 93 ho base 23 i0 (.slice none 0 0) 1 24 Tryz.underlying93 hi0 hz0 hz1 hz2 rfl (by decide) va v.length vc (rdcells v) hs hown sa u.length c (rdcells u) hx hsl (rdcells_one u) (by unfold maxLen; omega) (by omega) hbase fun a' c' w' h1 h2 h3 => ?_
  have := h (v ++ u) a' c' w' rfl (by unfold OwnL; unfold rdcells at h1 ⊢; rw [List.flatMap_append, List.length_append]; exact h1) (h2.below hbase fun k hk => (owns_lt hown k hk).1) h2
  rwa [List.length_append] at this
theorem wpList_appD3 (hgd : o.guard = none) (s x : Operand) (ho : o.op = .call { callee := .builtin .append, args := #[s, x], argTypes := #[23, 23] })
    (base : Nat) (va : Option Addr) (vc : Nat) (v : List Dt) (hs : a.eval s = .slice va v.length vc) (hown : OwnD w base va vc v)
    (sa : Option Addr) (c : Nat) (u : List Dt) (hx : a.eval x = .slice sa u.length c) (hsl : Vec w sa c u) (hn : v.length + u.length ≤ 3000000) (hbase : base ≤ w.heap.size)
    (h : ∀ v' a' c' w', v' = v ++ u → OwnD w' base a' c' v' → Below base w w' → Chg (ob va) w w' → (∀ k ∈ ob a', k ∈ ob va ∨ w.heap.size ≤ k) → wpList Tryz.prog ops Q rest (a.put o.dst (.slice a' (List.length v') c')) w') : wpList Tryz.prog ops Q (o :: rest) a w := by
  obtain ⟨i0, hi0, hz0, hz1, hz2⟩ := info_parts Tryz.info_dot
  refine wpList_append_sl hgd s x 23 ho base 41 i0 (.agg #[.int .u8 0, .int .u32 0, .int .u64 0]) 3 16 Tryz.underlying23 hi0 hz0 hz1 hz2 rfl (by decide) va v.length vc (dcells v) hs hown sa u.length c (dcells u) hx hsl (dcells_one u) (by unfold maxLen; omega) (by omega) hbase fun a' c' w' h1 h2 h3 => ?_
  have := h (v ++ u) a' c' w' rfl (by unfold OwnD; rw [dcells_append, List.length_append]; exact h1) (h2.below hbase fun k hk => (owns_lt hown k hk).1) h2 h3
  rwa [List.length_append] at this
end
end Go.Proofs.YthdmoplclllhjaaGreat

/- GreA -/
namespace Go.Proofs.YthdmoplclllhjaaGreat
open Go.RowKit
set_option linter.unusedVariables false
set_option linter.unusedSimpArgs false

end Go.Proofs.YthdmoplclllhjaaGreat

/- OfA -/
/- RchA -/
namespace Go.Proofs.YthdmoplclllhjaaGreat
open Go.RowKit
set_option linter.unusedVariables false
set_option linter.unusedSimpArgs false

end Go.Proofs.YthdmoplclllhjaaGreat

/- AncA -/
namespace Go.Proofs.YthdmoplclllhjaaGreat
open Go.RowKit
set_option linter.unusedVariables false
set_option linter.unusedSimpArgs false

end Go.Proofs.YthdmoplclllhjaaGreat

/- OfA -/
namespace Go.Proofs.YthdmoplclllhjaaGreat
open Go.RowKit
set_option linter.unusedVariables false
set_option linter.unusedSimpArgs false

end Go.Proofs.YthdmoplclllhjaaGreat

/- WitA -/
/- KnoP -/
namespace Go.Proofs.YthdmoplclllhjaaGreat
open Go.RowKit
set_option linter.unusedVariables false
set_option linter.unusedSimpArgs false

def kD2 : Dt := ((2, 1), 1)
def kD3 : Dt := ((3, 1), 1)
def kY : Cm := ⟨kD2, [kD], [kD, kD2], 2, kO⟩
def kZ : Cm := ⟨kD3, [], [kD3], 1, kO⟩
def k4 : List Cm := [kC, kL, kY, kZ]
end Go.Proofs.YthdmoplclllhjaaGreat

/- DelC -/
namespace Go.Proofs.YthdmoplclllhjaaGreat
open Go.RowKit
set_option linter.unusedVariables false
set_option linter.unusedSimpArgs false

end Go.Proofs.YthdmoplclllhjaaGreat

/- WitA -/
namespace Go.Proofs.YthdmoplclllhjaaGreat
open Go.RowKit
set_option linter.unusedVariables false
set_option linter.unusedSimpArgs false

@[go_sem] theorem field_bf (a b c d e : Value) (w : World) : (Instr.field 28 (.agg #[a, b, c, d, e]) 1).run Tryz.prog w = .ok b w := by kernel_rfl
end Go.Proofs.YthdmoplclllhjaaGreat
