/- Levels of commits, plainly. No program in sight. | Rows of rows of dots in memory of one's own. | slices.ContainsFunc of commits by any function; base.greatest: contracts. -/
import Derived.Test.YthdmoplclllhjaaGreatGraQ
import Derived.Test.YthdmoplclllhjaaGreatGraM
import Derived.Test.YthdmoplclllhjaaGreatWidB
/- LevA -/
/- LevP -/
namespace Go.Proofs.YthdmoplclllhjaaGreat
open Go.RowKit
set_option linter.unusedVariables false
set_option linter.unusedSimpArgs false

/-- the greatest level of some dots -/
def lvMax (f : Dt → Option Nat) (ps : List Dt) : Nat := ps.foldl (fun n p => max n ((f p).getD 0)) 0
theorem lvMax_snoc (f : Dt → Option Nat) (ps : List Dt) (p : Dt) : lvMax f (ps ++ [p]) = max (lvMax f ps) ((f p).getD 0) := by simp [lvMax, List.foldl_append]
/-- what is on a level, of some dots -/
def onLv (g : Dt → Option Nat) (T : List Dt) (i : Nat) : List Dt := T.filter fun d => decide (g d = some (i + 1))
theorem onLv_snoc (g : Dt → Option Nat) (T : List Dt) (d : Dt) (i : Nat) : onLv g (T ++ [d]) i = onLv g T i ++ (if g d = some (i + 1) then [d] else []) := by
  unfold onLv
  rw [List.filter_append]
  by_cases e : g d = some (i + 1)
  · simp [e]
  · simp [e]
theorem onLv_none {g : Dt → Option Nat} {T : List Dt} {i : Nat} (h : lvMax g T ≤ i) : onLv g T i = [] := by
  unfold onLv
  rw [List.filter_eq_nil_iff]
  intro d hd hh
  have hg : g d = some (i + 1) := by simpa using hh
  have key : ∀ (T : List Dt) (m : Nat), (d ∈ T ∨ i + 1 ≤ m) → i + 1 ≤ T.foldl (fun n p => max n ((g p).getD 0)) m := by
    intro T
    induction T with
    | nil => intro m hm; rcases hm with h | h; cases h; exact h
    | cons p T ih =>
      intro m hm
      rw [List.foldl_cons]
      apply ih
      rcases hm with h | h
      · rcases List.mem_cons.1 h with rfl | h
        · right; rw [hg]; simp; omega
        · left; exact h
      · right; omega
  have := key T 0 (.inl hd)
  unfold lvMax at h
  omega
end Go.Proofs.YthdmoplclllhjaaGreat

/- LevA -/
namespace Go.Proofs.YthdmoplclllhjaaGreat
open Go.RowKit
set_option linter.unusedVariables false
set_option linter.unusedSimpArgs false

/-- a row of dots, and where it lies -/
structure Rd where
  a : Option Addr
  c : Nat
  v : List Dt
def rdcell (r : Rd) : List Value := [.slice r.a r.v.length r.c]
def rdcells (R : List Rd) : List Value := R.flatMap rdcell
theorem rdcells_map (R : List Rd) : rdcells R = R.map fun r => Value.slice r.a r.v.length r.c := by
  unfold rdcells rdcell
  induction R with
  | nil => rfl
  | cons r R ih => rw [List.flatMap_cons, ih]; rfl
/-- rows in a row of one's own -/
def OwnL (w : World) (base : Nat) (a : Option Addr) (c : Nat) (R : List Rd) : Prop := w.ownsRow base 23 1 (.slice a R.length c) R.length (rdcells R)
theorem OwnL.nil (w : World) (base : Nat) : OwnL w base none 0 [] := World.ownsRow_nil _ _ _ _
theorem OwnL.chg {w w' : World} {base : Nat} {a : Option Addr} {c : Nat} {R : List Rd} {F : List Nat} (h : OwnL w base a c R) (hc : Chg F w w') (hF : ∀ k ∈ ob a, k ∉ F) : OwnL w' base a c R := owns_chg h hc hF
/-- rows of one's own of different types lie apart -/
theorem owns_dif {w : World} {base base' : Nat} {e e' : TypeId} {size size' : Nat} {a b : Option Addr} {n c m n' c' m' : Nat} {xs ys : List Value} (h : w.ownsRow base e size (.slice a n c) m xs) (k : w.ownsRow base' e' size' (.slice b n' c') m' ys) (hne : e ≠ e') : ∀ q ∈ ob a, q ∉ ob b := by
  intro q hq hm
  rcases h.2 with ⟨h2, _⟩ | ⟨g, cap, cur, h2, _, hg, _⟩
  · injection h2 with h2
    subst h2
    simp [ob] at hq
  · rcases k.2 with ⟨k2, _⟩ | ⟨g', cap', cur', k2, _, hg', _⟩
    · injection k2 with k2
      subst k2
      simp [ob] at hm
    · injection h2 with h2
      injection k2 with k2
      subst h2 k2
      simp [ob] at hq hm
      subst hq
      subst hm
      rw [hg] at hg'
      injection hg' with hg'
      injection hg' with _ h3
      exact hne h3
theorem sd_ne : 23 ≠ 41 := by decide
/-- blocks without cells -/
def NoCell (w : World) (F : List Nat) : Prop := ∀ k ∈ F, ∀ C t fr, w.heap[k]? ≠ some (.cells C t fr)
theorem NoCell.far {w : World} {F : List Nat} {base : Nat} {e : TypeId} {size n c m : Nat} {a : Option Addr} {xs : List Value} (hF : NoCell w F) (h : w.ownsRow base e size (.slice a n c) m xs) : ∀ k ∈ ob a, k ∉ F := fun k hk hm => by
  obtain ⟨C, fr, hh⟩ := ob_row h k hk
  exact hF k hm _ _ _ hh
theorem NoCell.nil (w : World) : NoCell w [] := fun k hk => by cases hk
/-- the levels while dots are laid on them -/
structure LvE (w wr : World) (a : Option Addr) (c : Nat) (R : List Rd) (g : Dt → Option Nat) (T : List Dt) : Prop where
  row : OwnL wr w.heap.size a c R
  each : ∀ r ∈ R, OwnD wr w.heap.size r.a r.c r.v
  apart : R.Pairwise (fun x y => ∀ k ∈ ob x.a, k ∉ ob y.a)
  max : lvMax g T ≤ R.length
  on : ∀ i r, R[i]? = some r → r.v = onLv g T i
theorem LvE.start (w wr : World) (g : Dt → Option Nat) : LvE w wr none 0 [] g [] :=
  ⟨OwnL.nil _ _, fun r hr => (by cases hr), .nil, Nat.le_refl _, fun i r h => (by simp at h)⟩
theorem LvE.chg {w wr w2 : World} {a : Option Addr} {c : Nat} {R : List Rd} {g : Dt → Option Nat} {T : List Dt} {F : List Nat} (h : LvE w wr a c R g T) (hc : Chg F wr w2) (hF : NoCell wr F) : LvE w w2 a c R g T :=
  ⟨owns_chg h.row hc (hF.far h.row), fun r hr => owns_chg (h.each r hr) hc (hF.far (h.each r hr)), h.apart, h.max, h.on⟩
theorem LvE.below {w wr w2 : World} {a : Option Addr} {c : Nat} {R : List Rd} {g : Dt → Option Nat} {T : List Dt} (h : LvE w wr a c R g T) (hb : Below wr.heap.size wr w2) : LvE w w2 a c R g T := h.chg (F := []) (Chg.of_below hb) (NoCell.nil _)
theorem LvE.push {w wr w2 : World} {a a' : Option Addr} {c c' : Nat} {R : List Rd} {g : Dt → Option Nat} {T : List Dt} (h : LvE w wr a c R g T) (hc : Chg (ob a) wr w2) (ho : OwnL w2 w.heap.size a' c' (R ++ [⟨none, 0, []⟩])) : LvE w w2 a' c' (R ++ [⟨none, 0, []⟩]) g T := by
  refine ⟨ho, fun r hr => ?_, ?_, ?_, fun i r hr => ?_⟩
  · rcases List.mem_append.1 hr with hr | hr
    · exact owns_chg (h.each r hr) hc (fun k hk hk2 => owns_dif h.row (h.each r hr) sd_ne k hk2 hk)
    · simp at hr; subst hr; exact World.ownsRow_nil _ _ _ _
  · rw [List.pairwise_append]
    exact ⟨h.apart, List.pairwise_singleton _ _, fun x hx y hy k hk => by simp at hy; subst hy; simp [ob]⟩
  · have := h.max; simp; omega
  · by_cases e : i < R.length
    · rw [List.getElem?_append_left e] at hr; exact h.on i r hr
    · rw [List.getElem?_append_right (by omega)] at hr
      obtain ⟨h1, h2⟩ := List.getElem?_eq_some_iff.1 hr
      have : i = R.length := by simp at h1; omega
      subst this
      simp at h2
      subst h2
      exact (onLv_none h.max).symm
theorem pairwise_apart {R : List Rd} (h : R.Pairwise (fun x y => ∀ k ∈ ob x.a, k ∉ ob y.a)) {i j : Nat} {x y : Rd} (hx : R[i]? = some x) (hy : R[j]? = some y) (hne : i ≠ j) : ∀ k ∈ ob x.a, k ∉ ob y.a := by
  obtain ⟨hi, rfl⟩ := List.getElem?_eq_some_iff.1 hx
  obtain ⟨hj, rfl⟩ := List.getElem?_eq_some_iff.1 hy
  rcases Nat.lt_or_gt_of_ne hne with h1 | h1
  · exact List.pairwise_iff_getElem.1 h i j hi hj h1
  · intro k hk hk2
    exact List.pairwise_iff_getElem.1 h j i hj hi h1 k hk2 hk
/-- one row is another one now -/
theorem LvE.put {w wr w2 : World} {b c c' : Nat} {a' : Option Addr} {R : List Rd} {g : Dt → Option Nat} {T : List Dt} {d : Dt} {i : Nat} {r : Rd} (h : LvE w wr (some ⟨b, 0, none⟩) c R g T) (hr : R[i]? = some r) (hg : g d = some (i + 1))
    (hc : Chg (ob r.a) wr w2) (ho : OwnD w2 w.heap.size a' c' (r.v ++ [d])) (hn : ∀ k ∈ ob a', k ∈ ob r.a ∨ wr.heap.size ≤ k) :
    LvE w (w2.setCell ⟨b, i, none⟩ (.slice a' (r.v ++ [d]).length c')) (some ⟨b, 0, none⟩) c (R.set i ⟨a', c', r.v ++ [d]⟩) g (T ++ [d]) := by
  have hi : i < R.length := (List.getElem?_eq_some_iff.1 hr).1
  have hrow : OwnL w2 w.heap.size (some ⟨b, 0, none⟩) c R := owns_chg h.row hc (fun k hk hk2 => owns_dif h.row (h.each r (List.mem_of_getElem? hr)) sd_ne k hk hk2)
  have hs := Chg.setCell w2 ⟨b, i, none⟩ (.slice a' (r.v ++ [d]).length c')
  have hold : ∀ j y, R[j]? = some y → j ≠ i → OwnD (w2.setCell ⟨b, i, none⟩ (.slice a' (r.v ++ [d]).length c')) w.heap.size y.a y.c y.v ∧ ∀ k ∈ ob y.a, k ∉ ob a' := by
    intro j y hy hj
    have hey := h.each y (List.mem_of_getElem? hy)
    have hy2 : OwnD w2 w.heap.size y.a y.c y.v := owns_chg hey hc (pairwise_apart h.apart hy hr hj)
    refine ⟨owns_chg hy2 hs (fun k hk hk2 => ?_), fun k hk hk2 => ?_⟩
    · refine owns_dif hrow hy2 sd_ne k ?_ hk
      simpa [ob] using hk2
    · rcases hn k hk2 with h1 | h1
      · exact pairwise_apart h.apart hy hr hj k hk h1
      · have := (owns_lt hey k hk).2; omega
  have hnew : OwnD (w2.setCell ⟨b, i, none⟩ (.slice a' (r.v ++ [d]).length c')) w.heap.size a' c' (r.v ++ [d]) := owns_chg ho hs (fun k hk hk2 => owns_dif hrow ho sd_ne k (by simpa [ob] using hk2) hk)
  refine ⟨?_, fun y hy => ?_, ?_, ?_, fun j y hy => ?_⟩
  · have h1 := (World.ownsRow.stored hrow i (.slice a' (r.v ++ [d]).length c')).1
    unfold OwnL
    rw [rdcells_map] at h1 ⊢
    rw [List.length_set, List.map_set]
    exact h1
  · obtain ⟨j, hj⟩ := List.getElem?_of_mem hy
    rw [List.getElem?_set] at hj
    split at hj
    · cases hj; exact hnew
    · exact (hold j y hj (fun e => by subst e; contradiction)).1
  · rw [List.pairwise_iff_getElem]
    intro j k hj hk hjk
    simp only [List.length_set] at hj hk
    rw [List.getElem_set, List.getElem_set]
    have hyj : R[j]? = some R[j] := List.getElem?_eq_getElem hj
    have hyk : R[k]? = some R[k] := List.getElem?_eq_getElem hk
    by_cases e1 : i = j
    · rw [if_pos e1, if_neg (by omega)]
      intro q hq hq2
      exact (hold k _ hyk (by omega)).2 q hq2 hq
    · rw [if_neg e1]
      by_cases e2 : i = k
      · rw [if_pos e2]; exact (hold j _ hyj (by omega)).2
      · rw [if_neg e2]; exact pairwise_apart h.apart hyj hyk (by omega)
  · rw [lvMax_snoc, hg, List.length_set]
    have := h.max
    simp; omega
  · rw [List.getElem?_set] at hy
    rw [onLv_snoc]
    split at hy
    · rename_i e
      subst e
      cases hy
      rw [if_pos hg, h.on i r hr]
    · rename_i e
      rw [if_neg (by rw [hg]; simp; exact e), List.append_nil]
      exact h.on j y hy
section
variable {w : World} {ops : Array Oper} {rest : List Oper} {o : Oper} {a : Act} {Q : Exit → Act → World → Prop}
theorem wpList_appD3 (hgd : o.guard = none) (s x : Operand) (ho : o.op = .call { callee := .builtin .append, args := #[s, x], argTypes := #[23, 23] })
    (base : Nat) (va : Option Addr) (vc : Nat) (v : List Dt) (hs : a.eval s = .slice va v.length vc) (hown : OwnD w base va vc v)
    (sa : Option Addr) (c : Nat) (u : List Dt) (hx : a.eval x = .slice sa u.length c) (hsl : Vec w sa c u) (hn : v.length + u.length ≤ 3000000) (hbase : base ≤ w.heap.size)
    (h : ∀ v' a' c' w', v' = v ++ u → OwnD w' base a' c' v' → Below base w w' → Chg (ob va) w w' → (∀ k ∈ ob a', k ∈ ob va ∨ w.heap.size ≤ k) → wpList Tryz.prog ops Q rest (a.put o.dst (.slice a' (List.length v') c')) w') : wpList Tryz.prog ops Q (o :: rest) a w := by
  obtain ⟨i0, hi0, hz0, hz1, hz2⟩ := info_parts Tryz.info_dot
  refine wpList_append_sl hgd s x 23 ho base 41 i0 (.agg #[.int .u8 0, .int .u32 0, .int .u64 0]) 3 16 Tryz.underlying23 hi0 hz0 hz1 hz2 rfl (by decide) va v.length vc (dcells v) hs hown sa u.length c (dcells u) hx hsl (dcells_one u) (by unfold maxLen; omega) (by omega) hbase fun a' c' w' h1 h2 h3 => ?_
  have := h (v ++ u) a' c' w' rfl (by unfold OwnD; rw [dcells_append, List.length_append]; exact h1) (h2.below hbase fun k hk => (owns_lt hown k hk).1) h2 h3
  rwa [List.length_append] at this
end
end Go.Proofs.YthdmoplclllhjaaGreat

/- GreA -/
namespace Go.Proofs.YthdmoplclllhjaaGreat
open Go.RowKit
set_option linter.unusedVariables false
set_option linter.unusedSimpArgs false

def IxFstC (w : World) (l : List Cw) (p : Cw → Bool) (e : Ending) (w' : World) : Prop :=
  ∃ k : Int, e = .returned (.int .i64 k) ∧ (0 ≤ k ↔ ∃ x ∈ l, p x = true) ∧ Below w.heap.size w w'
set_option maxRecDepth 100000 in
set_option maxHeartbeats 4000000 in
theorem indexC_fn (fn : FuncId) (cap : Array Value) (p : Cw → Bool) (a : Option Addr) (c : Nat) (l : List Cw) (w : World) (h : Cms w a c l) (hn : l.length ≤ 1100000)
    (he : ∀ args w, (callFunc fn args).run Tryz.prog w = .ok (.enter fn args) w)
    (hp : ∀ x ∈ l, ∀ W, Below w.heap.size w W → Calls Tryz.prog fn (#[.agg (cwcells x)] ++ cap) W (fun e W' => e = .returned (.bool (p x)) ∧ Below W.heap.size W W')) :
    Calls Tryz.prog 164 #[.slice a l.length c, .func (.func fn) #[] cap] w (IxFstC w l p) := by
  have H := Lib.hid h
  have HP := Lib.hid hp
  clear h hp
  go_enter Tryz.func164, Tryz.ntmps164
  go_wp2_with fail
  go_loopw [8] (fun j wr => ∃ q : Nat, q ≤ l.length ∧ j = .int .i64 q ∧ Hid (Below w.heap.size w wr) ∧ Hid (∀ s ∈ l.take q, p s = false)) (fun j _ => l.length - (intOf j).toNat)
  case atStart => exact ⟨0, Nat.zero_le _, rfl, Lib.hid (Below.refl _ _), Lib.hid (fun s hs => by simp at hs)⟩
  case round =>
    obtain ⟨q, hq, rfl, HB, Hall⟩ := hrel
    by_cases hlt : q < l.length
    · obtain ⟨v, hv⟩ : ∃ x, l[q]? = some x := ⟨l[q], by simp [hlt]⟩
      obtain ⟨ad, had, ⟨c0, c1, c2, c3, c4, c5, c6, c7, c8, c9, c10⟩, hlb⟩ := (H.out.below HB.out).at_ hv
      subst had
      have Hx := Lib.hid hv
      have HPx := Lib.hid (HP.out v (List.mem_of_getElem? hv))
      clear hv
      obtain ⟨⟨⟨⟨r, i⟩, s⟩, ps, uu, t1, ⟨k, n, x, p1, ds⟩⟩, qa, qc, ua, uc, pa, pc, da, dc⟩ := v
      dsimp only at c0 c1 c2 c3 c4 c5 c6 c7 c8 c9 c10
      go_wp2_with fail
      refine (HPx.out _ HB.out).mono ?_
      rintro e w1 ⟨rfl, hb⟩
      have HB1 := Lib.hid (below2 HB.out hb HB.out.size)
      clear hb c0 c1 c2 c3 c4 c5 c6 c7 c8 c9 c10 hlb HPx
      cases hz : p ⟨⟨((r, i), s), ps, uu, t1, ⟨k, n, x, p1, ds⟩⟩, qa, qc, ua, uc, pa, pc, da, dc⟩ with
      | true =>
        have Hy := Lib.hid hz
        go_wp2_with fail
        go_ret
        exact ⟨q, rfl, ⟨fun _ => ⟨_, List.mem_of_getElem? Hx.out, Hy.out⟩, fun _ => by omega⟩, HB1.out⟩
      | false =>
        have Hz := Lib.hid hz
        clear hz
        go_wp2_with fail
        go_roundw
        case rel => exact ⟨q + 1, by omega, by go_num, HB1, Lib.hid (all_snoc (p := fun s : Cw => p s = false) Hx.out Hall.out Hz.out)⟩
        case measure => simp [intOf]; omega
    · have ha := Hall.out
      rw [List.take_of_length_le (by omega)] at ha
      have Ha := Lib.hid ha
      clear ha
      go_wp2_with fail
      go_ret
      exact ⟨-1, rfl, ⟨fun h => by omega, fun ⟨x, hx, h2⟩ => by rw [Ha.out x hx] at h2; cases h2⟩, HB.out⟩
theorem containsC_fn (fn : FuncId) (cap : Array Value) (p : Cw → Bool) (a : Option Addr) (c : Nat) (l : List Cw) (w : World) (h : Cms w a c l) (hn : l.length ≤ 1100000)
    (he : ∀ args w, (callFunc fn args).run Tryz.prog w = .ok (.enter fn args) w)
    (hp : ∀ x ∈ l, ∀ W, Below w.heap.size w W → Calls Tryz.prog fn (#[.agg (cwcells x)] ++ cap) W (fun e W' => e = .returned (.bool (p x)) ∧ Below W.heap.size W W')) :
    Calls Tryz.prog 155 #[.slice a l.length c, .func (.func fn) #[] cap] w (IsTo w (∃ x ∈ l, p x = true)) := by
  go_enter Tryz.func155, Tryz.ntmps155
  go_wp2_with fail
  refine (indexC_fn fn cap p a c l _ h hn he hp).mono ?_
  intro e w1 hto
  obtain ⟨k, rfl, hk, hb⟩ := hto
  have Hb := Lib.hid hb
  have Hk := Lib.hid hk
  clear hb hk
  go_wp2_with fail
  go_ret
  exact ⟨_, rfl, by rw [decide_eq_true_iff]; exact Hk.out, Hb.out⟩
set_option maxRecDepth 100000 in
set_option maxHeartbeats 4000000 in
theorem great1_any (v u : Cw) (bx : Nat) (w : World) (h : w.heap[bx]? = some (.cells (cwcells u) 46 (0, 0))) (hv : CwAt w v) (hu : okC u.c) (hn : v.c.vv.length ≤ 1100000) :
    Calls Tryz.prog 156 #[.agg (cwcells v), .pointer (some ⟨bx, 0, none⟩)] w fun e w' => e = .returned (.bool (behind1 v.c u.c.d)) ∧ Below w.heap.size w w' := by
  obtain ⟨⟨⟨⟨r, i⟩, s⟩, ps, uu, t1, ⟨k, n, x, p1, ds⟩⟩, qa, qc, ua, uc, pa, pc, da, dc⟩ := v
  obtain ⟨⟨⟨⟨r2, i2⟩, s2⟩, ps2, uu2, t2, ⟨k2, n2, x2, p2, ds2⟩⟩, qa2, qc2, ua2, uc2, pa2, pc2, da2, dc2⟩ := u
  have HV := Lib.hid hv
  have ok2 : okA (r2, i2) := hu.d.1
  dsimp only at hn
  have b0 := cells_at h
  simp only [cwcells] at b0
  have z0 := heap_lt h
  have B0 : Hid (Below w.heap.size w (w.alloc (.cells (ccells r i s qa ps.length qc ua uu.length uc t1 k pa p1.length pc n x da ds.length dc) 46))) := Lib.hid ((Below.refl _ _).alloc (Nat.le_refl _) _)
  clear h hv hu
  simp only [cwcells]
  go_enter Tryz.func156, Tryz.ntmps156
  cases heq : eqD ((r, i), s) ((r2, i2), s2) with
  | true =>
    have He := Lib.hid heq
    go_wp2_with fail
    go_ret
    exact ⟨by unfold behind1; dsimp only; rw [He.out]; rfl, B0.out⟩
  | false =>
    have He := Lib.hid heq
    go_wp2_with fail
    refine (has_any ua uc uu r2 i2 s2 _ (HV.out.vv.below B0.out) hn HV.out.ok.vv ok2).mono ?_
    rintro e w1 ⟨rfl, hb⟩
    have HB := Lib.hid (below2 B0.out hb B0.out.size)
    clear hb
    go_wp2_with fail
    go_ret
    exact ⟨by unfold behind1; dsimp only; rw [He.out]; rfl, HB.out⟩
/-- the greatest of q commits -/
def glC (l : List Cw) (q : Nat) : List Dt := ((l.take q).filter fun u => !behindB (cms l) u.c.d).map (·.c.d)
theorem glC_yes {l : List Cw} {q : Nat} {u : Cw} (h : l[q]? = some u) (hb : behindB (cms l) u.c.d = false) : glC l (q + 1) = glC l q ++ [u.c.d] := by
  unfold glC
  rw [take_snoc' h, List.filter_append, List.map_append]
  simp [hb]
theorem glC_no {l : List Cw} {q : Nat} {u : Cw} (h : l[q]? = some u) (hb : behindB (cms l) u.c.d = true) : glC l (q + 1) = glC l q := by
  unfold glC
  rw [take_snoc' h, List.filter_append, List.map_append]
  simp [hb]
theorem glC_len (l : List Cw) (q : Nat) : (glC l q).length ≤ l.length := by
  unfold glC
  rw [List.length_map]
  exact Nat.le_trans (List.length_filter_le _ _) (by rw [List.length_take]; omega)
theorem glC_all {l : List Cw} {v : List Dt} (hn : ((cms l).map (·.d)).Nodup) (hp : v.Perm (glC l l.length)) (hs : v.Pairwise fun x y => lessD y x = false) : HeadsP [] (cms l) v := by
  unfold glC at hp
  rw [List.take_length] at hp
  have hnd : ((l.filter fun u => !behindB (cms l) u.c.d).map (·.c.d)).Nodup := by
    have h1 : (l.map (·.c.d)).Nodup := by have := hn; unfold cms at this; rwa [List.map_map] at this
    exact h1.sublist ((List.filter_sublist).map _)
  refine ⟨strict_of hs (hp.nodup_iff.2 hnd), fun d => ?_⟩
  rw [hp.mem_iff, List.mem_map]
  constructor
  · rintro ⟨u, hu, rfl⟩
    rw [List.mem_filter] at hu
    exact ⟨.inr ⟨u.c, List.mem_map.2 ⟨u, hu.1, rfl⟩, rfl⟩, by simpa using hu.2⟩
  · rintro ⟨h1 | ⟨c, hc, rfl⟩, h2⟩
    · cases h1
    · obtain ⟨u, hu, rfl⟩ := List.mem_map.1 hc
      exact ⟨u, List.mem_filter.2 ⟨hu, by simp [h2]⟩, rfl⟩
structure GreE (w wr : World) (l : List Cw) (q : Nat) (va : Option Addr) (vc : Nat) (v : List Dt) : Prop where
  own : OwnD wr w.heap.size va vc v
  val : v = glC l q
  bel : Below w.heap.size w wr
theorem GreE.len {w wr : World} {l : List Cw} {q : Nat} {va : Option Addr} {vc : Nat} {v : List Dt} (h : GreE w wr l q va vc v) : v.length ≤ l.length := by rw [h.val]; exact glC_len l q
def GreTo (w : World) (l : List Cm) (e : Ending) (w' : World) : Prop := ∃ a c v, e = .returned (.slice a (List.length v) c) ∧ HeadsP [] l v ∧ okV v ∧ v.length ≤ l.length ∧ OwnD w' w.heap.size a c v ∧ Below w.heap.size w w'
set_option maxRecDepth 100000 in
set_option maxHeartbeats 8000000 in
theorem greatest_any (a : Option Addr) (c : Nat) (l : List Cw) (w : World) (h : Cms w a c l) (hl : l.length ≤ 1000) (hnd : ((cms l).map (·.d)).Nodup) (hvl : ∀ v ∈ l, v.c.vv.length ≤ 1100000) :
    Calls Tryz.prog 98 #[.slice a l.length c] w (GreTo w (cms l)) := by
  have H := Lib.hid h
  have HN := Lib.hid hnd
  have HL := Lib.hid hvl
  have hem := enters_of Tryz.func156 (by kernel_rfl) rfl
  have E0 : Hid (GreE w w l 0 none 0 []) := Lib.hid ⟨OwnD.nil _ _, rfl, Below.refl _ _⟩
  clear h hnd hvl
  go_enter Tryz.func98, Tryz.ntmps98
  go_wp2_with fail
  go_loopw [2, 7] (fun o j wr => ∃ (q : Nat) (va : Option Addr) (vc : Nat) (v : List Dt), q ≤ l.length ∧ j = .int .i64 q ∧ o = .slice va (List.length v) vc ∧ Hid (GreE w wr l q va vc v)) (fun _ j _ => l.length - (intOf j).toNat)
  case atStart => exact ⟨0, none, 0, [], Nat.zero_le _, rfl, rfl, E0⟩
  case round =>
    obtain ⟨q, va, vc, v, hq, rfl, rfl, E⟩ := hrel
    clear E0
    have hvl := E.out.len
    by_cases hlt : q < l.length
    · obtain ⟨u, hu⟩ : ∃ x, l[q]? = some x := ⟨l[q], by simp [hlt]⟩
      obtain ⟨ad, had, ⟨c0, c1, c2, c3, c4, c5, c6, c7, c8, c9, c10⟩, hlb⟩ := (H.out.below E.out.bel).at_ hu
      subst had
      have Hu := Lib.hid hu
      have HUo := Lib.hid (H.out.each u (List.mem_of_getElem? hu)).ok
      clear hu
      obtain ⟨⟨⟨⟨r, i⟩, s⟩, ps, uu, t1, ⟨k, n, x, p1, ds⟩⟩, qa, qc, ua, uc, pa, pc, da, dc⟩ := u
      dsimp only at c0 c1 c2 c3 c4 c5 c6 c7 c8 c9 c10
      have B0 : Hid (BoxE 46 wr (wr.alloc (.cells (ccells r i s qa ps.length qc ua uu.length uc t1 k pa p1.length pc n x da ds.length dc) 46)) (ccells r i s qa ps.length qc ua uu.length uc t1 k pa p1.length pc n x da ds.length dc)) := Lib.hid ⟨heap_new _ _, (Below.refl _ _).alloc (Nat.le_refl _) _⟩
      have HB0 := Lib.hid (below2 E.out.bel B0.out.bel E.out.bel.size)
      go_wp2_with fail
      refine (containsC_fn 156 #[.pointer (some ⟨wr.heap.size, 0, none⟩)] (fun y => behind1 y.c ((r, i), s)) (some ad) c l _ (H.out.below HB0.out) (by omega) hem (fun y hy W hW => great1_any y ⟨⟨((r, i), s), ps, uu, t1, ⟨k, n, x, p1, ds⟩⟩, qa, qc, ua, uc, pa, pc, da, dc⟩ wr.heap.size W ((hW.block _ (heap_lt B0.out.blk)).trans B0.out.blk) (((H.out.each y hy).below HB0.out).below hW) HUo.out (HL.out y hy))).mono ?_
      intro e w2 hto
      obtain ⟨z, rfl, hz, hb⟩ := hto
      have Hz := Lib.hid (show z = behindB (cms l) ((r, i), s) from by
        rw [Bool.eq_iff_iff, hz]
        unfold behindB cms
        rw [List.any_map, List.any_eq_true]
        rfl)
      have B2 := Lib.hid (B0.out.step hb)
      have HB2 := Lib.hid (below2 E.out.bel B2.out.bel E.out.bel.size)
      have O2 := Lib.hid (OwnD.below E.out.own B2.out.bel)
      clear hb hz c0 c1 c2 c3 c4 c5 c6 c7 c8 c9 c10 hlb B0 HB0
      have d0 := cells_at B2.out.blk
      simp only [ccells] at d0
      have z0 := heap_lt B2.out.blk
      cases z with
      | true =>
        have E2 : Hid (GreE w w2 l (q + 1) va vc v) := Lib.hid ⟨O2.out, by rw [glC_no Hu.out (by rw [← Hz.out])]; exact E.out.val, HB2.out⟩
        go_wp2_with fail
        go_roundw
        case rel => exact ⟨q + 1, va, vc, v, by omega, by go_num, rfl, E2⟩
        case measure => simp [intOf]; omega
      | false =>
        have A2 : Hid (Below w2.heap.size w2 (w2.alloc (.cells #[.int .u8 r, .int .u32 i, .int .u64 s] 41))) := Lib.hid ((Below.refl _ _).alloc (Nat.le_refl _) _)
        go_wp2_with (at_builtin; go_must (refine wpList_appD3 rfl _ _ rfl w.heap.size va vc v rfl (OwnD.below O2.out A2.out) (some ⟨w2.heap.size, 0, none⟩) 1 [((r, i), s)] rfl (vec_one (heap_new _ _)) ?n2 ?b2 ?_))
        case n2 => simp; omega
        case b2 => exact Nat.le_trans HB2.out.size A2.out.size
        intro v3 a3 c3 w3 hv3 ho3 hb3 hch3 hn3
        have E3 : Hid (GreE w w3 l (q + 1) a3 c3 v3) := Lib.hid ⟨ho3, by rw [hv3, glC_yes Hu.out (by rw [← Hz.out]), E.out.val], (below2 HB2.out A2.out HB2.out.size).trans hb3⟩
        clear hv3 ho3 hb3 hch3 hn3 d0 z0
        go_wp2_with fail
        go_roundw
        case rel => exact ⟨q + 1, a3, c3, v3, by omega, by go_num, rfl, E3⟩
        case measure => simp [intOf]; omega
    · have hqq : q = l.length := by omega
      have HV := Lib.hid (show v = glC l l.length by rw [← hqq]; exact E.out.val)
      clear hqq
      go_wp2_with fail
      refine (sortD_any va vc w.heap.size v _ E.out.own (by omega)).mono ?_
      rintro e w6 ⟨rfl, v6, hl6, hp6, hs6, ho6, hc6⟩
      have O6 := Lib.hid ho6
      have HP6 := Lib.hid (glC_all HN.out (by rw [← HV.out]; exact hp6) hs6)
      have HB6 := Lib.hid (E.out.bel.trans (hc6.below E.out.bel.size (fun k hk => (owns_lt E.out.own k hk).1)))
      have Hok6 := Lib.hid (show okV v6 from fun d hd => by
        rcases (HP6.out.2 d).1 hd with ⟨h1 | ⟨c1, hc1, rfl⟩, _⟩
        · cases h1
        · obtain ⟨u, hu, rfl⟩ := List.mem_map.1 hc1
          exact (H.out.each u hu).ok.d)
      have Hl6 := Lib.hid hl6
      clear ho6 hc6 hp6 hs6 hl6
      go_wp2_with fail
      go_ret
      exact ⟨va, vc, v6, by rw [Hl6.out]; rfl, HP6.out, Hok6.out, by rw [Hl6.out]; unfold cms; rw [List.length_map]; exact hvl, O6.out, HB6.out⟩
end Go.Proofs.YthdmoplclllhjaaGreat
