/- slices.Grow of nothing, slices.Concat, Contains, Clone at dots and items: contracts. | slices.Concat of two slices, at dots and at items; slices.Contains at dots; slices.Clone at items: contracts. | Sorting dots, items: slices.SortFunc, by the shelf's contract. | slices.Compact of sorted dots: contract. | slices.Compact of sorted dots: the walk. -/
import Derived.Test.YthdmoplclllhjaaGreatRefLA
import Derived.Test.YthdmoplclllhjaaGreatShelf
import Derived.Laws.OwnMore
import Derived.Deep.CutBlock
/- FuseA -/
namespace Go.Proofs.YthdmoplclllhjaaGreat
open Go.RowKit
set_option linter.unusedVariables false
set_option linter.unusedSimpArgs false

section
variable {P : Program}
end
section
variable {w : World} {ops : Array Oper} {rest : List Oper} {o : Oper} {a : Act} {Q : Exit → Act → World → Prop}
end
theorem slice_hiI (oa : Option Addr) (n oc j : Nat) (hj : j ≤ oc) (W : World) : (Instr.sliceAt 155 (.slice oa n oc) none (some (.int .i64 (j : Int))) none).run Tryz.prog W = .ok (.slice oa j oc) W := by
  simp [go_sem, Instr.sliceAt, Instr.slice, run_underlying Tryz.underlying155]
  omega
theorem slice_hiD (oa : Option Addr) (n oc j : Nat) (hj : j ≤ oc) (W : World) : (Instr.sliceAt 23 (.slice oa n oc) none (some (.int .i64 (j : Int))) none).run Tryz.prog W = .ok (.slice oa j oc) W := by
  simp [go_sem, Instr.sliceAt, Instr.slice, run_underlying Tryz.underlying23]
  omega

end Go.Proofs.YthdmoplclllhjaaGreat

/- FuseB -/
namespace Go.Proofs.YthdmoplclllhjaaGreat
open Go.RowKit
set_option linter.unusedVariables false
set_option linter.unusedSimpArgs false

set_option maxRecDepth 100000 in
set_option maxHeartbeats 1000000 in
theorem cloneI_any (a : Option Addr) (c : Nat) (l : List It) (w : World) (hv : Its w a c l) (hn : l.length ≤ 1100000) :
    Calls Tryz.prog 172 #[.slice a l.length c] w fun e w' => ∃ a' c' v', e = .returned (.slice a' v'.length c') ∧ v' = l ∧ OwnI w' w.heap.size a' c' v' ∧ Below w.heap.size w w' := by
  have Hv := Lib.hid hv
  have heq := fun (w : World) (a : Option Addr) (n c : Nat) => Lib.run_eql_slice_nil (P := Tryz.prog) w 155 197 a n c 0 0 Tryz.underlying155
  cases a with
  | none =>
    obtain ⟨h1, h2, h3, ⟨_, h4, h5⟩ | ⟨b, hb, _⟩⟩ := hv
    · subst h5
      obtain rfl : l = [] := List.eq_nil_of_length_eq_zero h4
      clear h1 h2 h3 h4 Hv
      go_enter Tryz.func172, Tryz.ntmps172
      go_wp2_with fail
      go_ret
      exact ⟨none, 0, [], rfl, rfl, OwnI.nil _ _, Below.refl _ _⟩
    · cases hb
  | some ad =>
    clear hv
    go_enter Tryz.func172, Tryz.ntmps172
    go_wp2_with (at_builtin; go_must (refine wpList_appI rfl _ _ rfl w.heap.size (some ⟨w.heap.size, 0, none⟩) 0 [] rfl (OwnI.made w (Nat.le_refl _)) (some ad) c l rfl (Hv.out.below ((Below.refl _ _).alloc (Nat.le_refl _) _)) ?n1 ?b1 ?_))
    case n1 => simp; omega
    case b1 => simp
    intro v' a' c' w2 hv' ho2 hb2 _
    have Hv' := Lib.hid hv'
    have HB2 : Hid (Below w.heap.size w w2) := Lib.hid (((Below.refl _ _).alloc (Nat.le_refl _) _).trans hb2)
    have Ho2 := Lib.hid ho2
    clear hv' ho2 hb2
    go_wp2_with fail
    go_ret
    exact ⟨a', c', v', rfl, by rw [Hv'.out], Ho2.out, HB2.out⟩
end Go.Proofs.YthdmoplclllhjaaGreat

/- FuseC -/
namespace Go.Proofs.YthdmoplclllhjaaGreat
open Go.RowKit Go.Shelf
set_option linter.unusedVariables false
set_option linter.unusedSimpArgs false

/-! which is ahead, once more: blocks and draws came, nothing else -/
/-! sorting nothing -/
theorem insertionD_none (p : Option Addr) (cap : Nat) (fv : Value) (w : World) :
    Calls Tryz.prog 182 #[.slice p 0 cap, .int .i64 0, .int .i64 0, fv] w fun e w' => e = .returned (.tuple #[]) ∧ w' = w := by
  go_enter Tryz.func182, Tryz.ntmps182
  go_wp2
  refine wp_loop_rounds 1 ?_
  rw [rounds_succ]
  go_wp2
  go_end0
  exact ⟨rfl, rfl⟩
theorem pdqD_none (p : Option Addr) (cap : Nat) (lim : Int) (fv : Value) (w : World) :
    Calls Tryz.prog 153 #[.slice p 0 cap, .int .i64 0, .int .i64 0, .int .i64 lim, fv] w fun e w' => e = .returned (.tuple #[]) ∧ w' = w := by
  go_enter Tryz.func153, Tryz.ntmps153
  go_wp2
  refine wp_loop_rounds 1 ?_
  rw [rounds_succ]
  go_wp2_with (go_at_call 182; refine (insertionD_none _ _ _ _).mono ?_; rintro e w' ⟨rfl, rfl⟩)
  (try simp only [Exit.inBlock, Exit.then]); refine bodyPost_ret (results_none rfl _ _ _) rfl ?_
  exact ⟨rfl, rfl⟩
theorem sortD_none (p : Option Addr) (cap : Nat) (fv : Value) (w : World) :
    Calls Tryz.prog 95 #[.slice p 0 cap, fv] w fun e w' => e = .returned (.tuple #[]) ∧ w' = w := by
  go_enter Tryz.func95, Tryz.ntmps95
  go_wp2_with (first | (go_at_call 154; refine (bitsLen_zero _).mono ?_; rintro e w' ⟨rfl, rfl⟩) | (go_at_call 153; refine (pdqD_none _ _ _ _ _).mono ?_; rintro e w' ⟨rfl, rfl⟩))
  go_end0
  exact ⟨rfl, rfl⟩
/-! sorting dots -/
theorem ltD_of (a b : Dt) : ltOf cmpDD a b = lessD a b := by
  unfold ltOf
  rw [Bool.eq_iff_iff, decide_eq_true_iff, cmpDD_eq, cmpD_neg]
theorem swoD : Sort.SWO (ltOf cmpDD) where
  irrefl x := by rw [ltD_of]; exact lessD_irrefl x
  trans x y z h1 h2 := by rw [ltD_of] at *; exact lessD_trans h1 h2
  ntrans x y z h1 h2 := by
    rw [ltD_of] at *
    rw [← Bool.not_eq_true, lessD_iff] at *
    omega
theorem cmpLaysD (blk off size : Nat) (w : World) : CmpLays Tryz.prog 88 #[] dcell 3 cmpDD blk off size w :=
  fun _ _ _ _ x y => compareD_any x.1.1 x.1.2 x.2 y.1.1 y.1.2 y.2 _
theorem sortD_any (a : Option Addr) (c base : Nat) (l : List Dt) (w : World) (h : OwnD w base a c l) (hl : l.length ≤ 3000000) :
    Calls Tryz.prog 95 #[.slice a l.length c, .func (.func 88) #[] #[]] w fun e w' => e = .returned (.tuple #[]) ∧
      ∃ l', l'.length = l.length ∧ l'.Perm l ∧ l'.Pairwise (fun x y => lessD y x = false) ∧ OwnD w' base a c l' ∧ Chg (ob a) w w' := by
  by_cases h0 : l = []
  · subst h0
    exact (sortD_none a c _ w).mono fun e w' ⟨he, hw⟩ => ⟨he, [], rfl, .refl _, .nil, hw ▸ h, hw ▸ Chg.refl _ _⟩
  obtain ⟨blk, rfl⟩ : ∃ blk, a = some ⟨blk, 0, none⟩ := by
    rcases h.2 with ⟨h1, h2⟩ | ⟨g, cap, cur, h1, _⟩
    · simp at h1; exact absurd h1.2.1 h0
    · simp at h1; exact ⟨g, h1.1⟩
  obtain ⟨hH, hlt⟩ := holdsK_of dcell_len (by omega) h
  have hcon := AnyQ.slices_SortFunc Tryz.sortD 3 Tryz.isAgg41 Tryz.sizeOf41 dcell dcell_len (fun x v hv => by simp [dcell] at hv; rcases hv with rfl | rfl | rfl <;> rfl) cmpDD swoD 88 #[] blk 0 c l.toArray w (enters_of Tryz.func88 (by kernel_rfl) rfl) (cmpLaysD blk 0 _ w) hH hlt (by simp; omega)
  change Calls Tryz.prog 95 _ _ _ at hcon
  have e1 : l.toArray.size = l.length := by simp
  rw [e1] at hcon
  refine hcon.mono ?_
  rintro e w' ⟨rfl, d', n, os, hp, hs, rfl⟩
  have hperm : d'.toList.Perm l := by have := permIn_list (d := l.toArray) (by rw [e1]; exact hp); simpa using this
  have hlen : d'.toList.length = l.length := hperm.length_eq
  obtain ⟨h1, h2⟩ := sorted_owns (n := n) (os := os) dcell_len (by omega) hlen h
  refine ⟨rfl, d'.toList, hlen, hperm, ?_, ?_, by simpa [ob] using h2⟩
  · have := sortedIn_list (lt := ltOf cmpDD) (by rw [← hlen]; simp) hs
    refine this.imp fun {x y} hxy => ?_
    rwa [ltD_of] at hxy
  · unfold OwnD
    rw [hlen]
    simpa [dcells] using h1

/-! sorting items -/
instance : Inhabited It := ⟨⟨0, noDot, ByteArray.empty⟩⟩
end Go.Proofs.YthdmoplclllhjaaGreat

/- FuseD -/
namespace Go.Proofs.YthdmoplclllhjaaGreat
open Go.RowKit
set_option linter.unusedVariables false
set_option linter.unusedSimpArgs false

theorem setCells_block (b : Nat) (t : TypeId) : ∀ (vs : List Value) (o : Nat) (w : World) (cur : Array Value), w.heap[b]? = some (.cells cur t (0, 0)) → o + vs.length ≤ cur.size →
    ∃ cur', (w.setCells b o vs).heap[b]? = some (.cells cur' t (0, 0)) ∧ cur'.size = cur.size ∧ cur'.toList.take o = cur.toList.take o
  | [], o, w, cur, h, _ => ⟨cur, h, rfl, rfl⟩
  | v :: vs, o, w, cur, h, ho => by
    simp only [List.length_cons] at ho
    obtain ⟨cur', h1, h2, h3⟩ := setCells_block b t vs (o + 1) (w.setCell ⟨b, o, none⟩ v) (cur.setIfInBounds o v) (heap_setCell_same w b o cur t v h) (by simp; omega)
    refine ⟨cur', h1, by simpa using h2, ?_⟩
    have h4 := congrArg (List.take o) h3
    rw [List.take_take, List.take_take, Nat.min_eq_left (by omega), Array.toList_setIfInBounds, List.take_set_of_le (by omega)] at h4
    exact h4
theorem Chg.setCells (b : Nat) : ∀ (vs : List Value) (o : Nat) (w : World), Chg [b] w (w.setCells b o vs)
  | [], o, w => Chg.refl _ _
  | v :: vs, o, w => (Chg.setCell w ⟨b, o, none⟩ v).trans (Chg.setCells b vs (o + 1) _) (by simp)
theorem zeroCells_mem {z : Array Value} (hz : 0 < z.size) {n : Nat} {u : Value} (h : u ∈ (Builtin.zeroCells z n).toList) : u ∈ z.toList := by
  simp only [Builtin.zeroCells, Array.toList_map, List.mem_map] at h
  obtain ⟨i, _, rfl⟩ := h
  have hlt : i % z.size < z.size := Nat.mod_lt _ hz
  rw [getElem!_pos z _ hlt]
  exact Array.getElem_mem_toList hlt
/-- 'clear' of the end of a row: what stands ahead stays -/
theorem run_clearD {w : World} {base g n c : Nat} {v : List Dt} (h : OwnD w base (some ⟨g, 0, none⟩) c v) (ty : TypeId) (k : Nat) (hk : k ≤ v.length) :
    ∃ w', (Builtin.clear_ #[23] ty #[.slice (if c = k then some ⟨g, 0, none⟩ else some ⟨g, k * 3, none⟩) (v.length - k) (c - k)]).run Tryz.prog w = .ok (.tuple #[]) w' ∧ OwnD w' base (some ⟨g, 0, none⟩) c (v.take k) ∧ Chg [g] w w' := by
  have hc0 : v ≠ [] → c ≠ 0 := fun hv hc => by
    have h2 := h.2
    rcases h2 with ⟨h3, h4⟩ | ⟨g', cap, cur, h3, hb, hg, hnc, hcm, hcs, ht⟩
    · simp at h3
    · simp only [Value.slice.injEq] at h3
      have := List.length_pos_iff.2 hv
      omega
  by_cases he : v.length - k = 0
  · have hkk : k = v.length := by omega
    refine ⟨w, ?_, ?_, Chg.refl _ _⟩
    · rw [he]
      by_cases hck : c = k
      · rw [if_pos hck]; simp [Builtin.clear_, run_underlying Tryz.underlying23]
      · rw [if_neg hck]; simp [Builtin.clear_, run_underlying Tryz.underlying23]
    · rw [List.take_of_length_le (by omega)]; exact h
  · have hv : v ≠ [] := fun e => by subst e; simp at he
    have hc := hc0 hv
    have hh := h
    rcases h.2 with ⟨h3, h4⟩ | ⟨g', cap, cur, h3, hb, hg, hnc, hcm, hcs, ht⟩
    · simp at h3
    simp only [Value.slice.injEq, Option.some.injEq, Addr.mk.injEq, and_true, true_and] at h3
    obtain ⟨rfl, rfl⟩ := h3
    have hck : c ≠ k := by omega
    obtain ⟨m, hm⟩ : ∃ m, v.length - k = m + 1 := ⟨v.length - k - 1, by omega⟩
    have hzl : ((Builtin.zeroCells #[.int .u8 0, .int .u32 0, .int .u64 0] (m + 1)).toList).length = (m + 1) * 3 := by simp [size_zeroCells]
    have hst := run_storeCells_cells (P := Tryz.prog) g (k * 3) (Builtin.zeroCells #[.int .u8 0, .int .u32 0, .int .u64 0] (m + 1)).toList 0 w
      (fun j hj => by
        rw [hzl] at hj
        rw [hh.cellAt (g := g) (k * 3 + 0 + j) (by omega), List.getElem?_eq_getElem (by rw [dcells_length]; omega)]
        rfl)
      (fun j hj => hh.frozenAt (g := g) _) (fun u hu => by
        have := zeroCells_mem (by decide) hu
        simp at this
        rcases this with rfl | rfl | rfl <;> rfl)
    obtain ⟨cur', q1, q2, q3⟩ := setCells_block g 41 (Builtin.zeroCells #[.int .u8 0, .int .u32 0, .int .u64 0] (m + 1)).toList (k * 3) w cur hg (by rw [hzl, hcs]; omega)
    refine ⟨w.setCells g (k * 3) (Builtin.zeroCells #[.int .u8 0, .int .u32 0, .int .u64 0] (m + 1)).toList, ?_, ?_, Chg.setCells _ _ _ _⟩
    · rw [if_neg hck, hm]
      simp only [Nat.add_zero] at hst
      simp [Builtin.clear_, run_underlying Tryz.underlying23, Tryz.zeroValue41, Value.cells, hst]
    · unfold OwnD
      have hl : (v.take k).length = k := by rw [List.length_take]; omega
      rw [hl]
      refine ⟨by rw [dcells_length, hl], .inr ⟨g, c, cur', rfl, hb, q1, by omega, hcm, by rw [q2, hcs], ?_⟩⟩
      rw [q3]
      have e1 : cur.toList.take (k * 3) = (dcells v).take (k * 3) := by rw [← ht, List.take_take, Nat.min_eq_left (by omega)]
      rw [e1]
      exact flatMap_take dcell_len v k

/-! the plain law -/
end Go.Proofs.YthdmoplclllhjaaGreat

/- FuseE -/
namespace Go.Proofs.YthdmoplclllhjaaGreat
open Go.RowKit
set_option linter.unusedVariables false
set_option linter.unusedSimpArgs false

theorem set_dcells (v : List Dt) (k : Nat) (d : Dt) (hk : k < v.length) : (((dcells v).set (k * 3) (.int .u8 d.1.1)).set (k * 3 + 1) (.int .u32 d.1.2)).set (k * 3 + 2) (.int .u64 d.2) = dcells (v.set k d) := by
  induction v generalizing k with
  | nil => simp at hk
  | cons a v ih =>
    cases k with
    | zero => simp [dcells, dcell]
    | succ k =>
      have := ih k (by simpa using hk)
      simp only [dcells, List.flatMap_cons, List.set_cons_succ] at this ⊢
      rw [← this]
      simp only [dcell, List.cons_append, List.nil_append, show (k + 1) * 3 = k * 3 + 1 + 1 + 1 by omega, show k * 3 + 1 + 1 + 1 + 1 = k * 3 + 1 + 1 + 1 + 1 from rfl, List.set_cons_succ]
theorem OwnD.put {w : World} {base g c k : Nat} {v : List Dt} (h : OwnD w base (some ⟨g, 0, none⟩) c v) (hk : k < v.length) (d : Dt) :
    OwnD (((w.setCell ⟨g, k * 3, none⟩ (.int .u8 d.1.1)).setCell ⟨g, k * 3 + 1, none⟩ (.int .u32 d.1.2)).setCell ⟨g, k * 3 + 2, none⟩ (.int .u64 d.2)) base (some ⟨g, 0, none⟩) c (v.set k d) := by
  have h1 := (((World.ownsRow.stored h (k * 3) (.int .u8 d.1.1)).1.stored (k * 3 + 1) (.int .u32 d.1.2)).1.stored (k * 3 + 2) (.int .u64 d.2)).1
  rw [set_dcells v k d hk] at h1
  unfold OwnD
  rw [List.length_set]
  exact h1
theorem OwnD.at {w : World} {base g c : Nat} {v : List Dt} (h : OwnD w base (some ⟨g, 0, none⟩) c v) {k : Nat} {d : Dt} (hd : v[k]? = some d) :
    w.cell? ⟨g, k * 3, none⟩ = some (.int .u8 d.1.1) ∧ w.cell? ⟨g, k * 3 + 1, none⟩ = some (.int .u32 d.1.2) ∧ w.cell? ⟨g, k * 3 + 2, none⟩ = some (.int .u64 d.2) := by
  have hk := (List.getElem?_eq_some_iff.1 hd).1
  have h0 := World.ownsRow.cellAt (g := g) h (k * 3) (by omega)
  have h1 := World.ownsRow.cellAt (g := g) h (k * 3 + 1) (by omega)
  have h2 := World.ownsRow.cellAt (g := g) h (k * 3 + 2) (by omega)
  have e0 := dcells_at hd 0 (by omega)
  have e1 := dcells_at hd 1 (by omega)
  have e2 := dcells_at hd 2 (by omega)
  exact ⟨h0.trans e0, h1.trans e1, h2.trans e2⟩
theorem chg_set3 {w w' : World} {g : Nat} (h : Chg [g] w w') (i j k : Nat) (x y z : Value) : Chg [g] w (((w'.setCell ⟨g, i, none⟩ x).setCell ⟨g, j, none⟩ y).setCell ⟨g, k, none⟩ z) :=
  ((h.trans (Chg.setCell _ _ _) (by simp)).trans (Chg.setCell _ _ _) (by simp)).trans (Chg.setCell _ _ _) (by simp)
theorem wpList_clear_run {w w' : World} {ops : Array Oper} {rest : List Oper} {o : Oper} {a : Act} {Q : Exit → Act → World → Prop} (hgd : o.guard = none) (x : Operand) (t : TypeId)
    (ho : o.op = .call { callee := .builtin .clear, args := #[x], argTypes := #[t] }) (v : Value)
    (hrun : (Builtin.clear_ #[t] o.type #[a.eval x]).run Tryz.prog w = .ok v w')
    (h : wpList Tryz.prog ops Q rest (a.put o.dst v) w') : wpList Tryz.prog ops Q (o :: rest) a w := by
  refine wpList_plain hgd fun K hK => ?_
  unfold Oper.wp
  simp [execOp, ho, resolve, invoke, builtin, hrun, Result.andThen]
  exact hK _ _ h
theorem OwnD.free {w : World} {base g c : Nat} {v : List Dt} (h : OwnD w base (some ⟨g, 0, none⟩) c v) (j : Nat) : w.frozen? ⟨g, j, none⟩ = false := World.ownsRow.frozenAt h j
theorem OwnD.cap {w : World} {base c : Nat} {a : Option Addr} {v : List Dt} (h : OwnD w base a c v) : v.length ≤ c := h.vec.cap
theorem OwnD.form {w : World} {base c : Nat} {a : Option Addr} {v : List Dt} (h : OwnD w base a c v) (hv : v ≠ []) : ∃ g, a = some ⟨g, 0, none⟩ ∧ base ≤ g ∧ g < w.heap.size := by
  rcases h.2 with ⟨h1, h2⟩ | ⟨g, cap, cur, h1, hb, hg, _⟩
  · simp at h1; exact absurd h1.2.1 hv
  · simp at h1; exact ⟨g, h1.1, hb, heap_lt hg⟩
end Go.Proofs.YthdmoplclllhjaaGreat
