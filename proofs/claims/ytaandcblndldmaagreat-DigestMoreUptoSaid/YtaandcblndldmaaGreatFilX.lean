/- What DigestMore needs besides. -/
import Derived.Test.YtaandcblndldmaaGreatBase
import Derived.Test.YtaandcblndldmaaGreatDotP
import Derived.Test.YtaandcblndldmaaGreatVec1
import Derived.Test.YtaandcblndldmaaGreatSortK
import Derived.Test.YtaandcblndldmaaGreatShelf
import Derived.Test.YtaandcblndldmaaGreatVec3
import Derived.Test.YtaandcblndldmaaGreatVec4
import Derived.Test.YtaandcblndldmaaGreatSeen
import Derived.Test.YtaandcblndldmaaGreatLeafA
import Derived.Test.YtaandcblndldmaaGreatRefLA
import Derived.Test.YtaandcblndldmaaGreatLfOpen
import Derived.Test.YtaandcblndldmaaGreatEvA
import Derived.Test.YtaandcblndldmaaGreatShelfS
import Derived.Test.YtaandcblndldmaaGreatMayB
import Derived.Test.YtaandcblndldmaaGreatBatA
import Derived.Test.YtaandcblndldmaaGreatBatC
import Derived.Test.YtaandcblndldmaaGreatGraA
import Derived.Test.YtaandcblndldmaaGreatGraP
import Derived.Test.YtaandcblndldmaaGreatROpA
import Derived.Test.YtaandcblndldmaaGreatMeanW
import Derived.Test.YtaandcblndldmaaGreatMeanY
import Derived.Test.YtaandcblndldmaaGreatOwtB
import Derived.Test.YtaandcblndldmaaGreatGraC
import Derived.Test.YtaandcblndldmaaGreatGraV
import Derived.Test.YtaandcblndldmaaGreatRMbA
import Derived.Test.YtaandcblndldmaaGreatHistP
import Derived.Test.YtaandcblndldmaaGreatRgE
import Derived.Test.YtaandcblndldmaaGreatWitA
import Derived.Test.YtaandcblndldmaaGreatHeaD
import Derived.Test.YtaandcblndldmaaGreatLwL
import Derived.Test.YtaandcblndldmaaGreatMatB
import Derived.Test.YtaandcblndldmaaGreatAudB
import Derived.Test.YtaandcblndldmaaGreatBo37
import Derived.Test.YtaandcblndldmaaGreatDigB
import Derived.Test.YtaandcblndldmaaGreatBytD
import Derived.Test.YtaandcblndldmaaGreatDigC
import Derived.Test.YtaandcblndldmaaGreatKno37
import Derived.Test.YtaandcblndldmaaGreatDigH
import Derived.Test.YtaandcblndldmaaGreatSnOpen
import Derived.Deep.CutBlock
import Derived.Deep.MidRow
import Derived.Laws.OwnMore
import Derived.Lib.SliceRun
namespace Go.Proofs.YtaandcblndldmaaGreat
open Go.RowKit
set_option linter.unusedVariables false
set_option linter.unusedSimpArgs false


/-! parts of slices -/
theorem dcell_len (d : Dt) : (dcell d).length = 3 := rfl
theorem Vec.cap {w : World} {a : Option Addr} {c : Nat} {v : List Dt} (h : Vec w a c v) : v.length ≤ c := h.2.1
/-! which is ahead, once more: blocks and draws came, nothing else -/
/-! sorting nothing -/
theorem insertionD_none (p : Option Addr) (cap : Nat) (fv : Value) (w : World) :
    Calls Tryz.prog 178 #[.slice p 0 cap, .int .i64 0, .int .i64 0, fv] w fun e w' => e = .returned (.tuple #[]) ∧ w' = w := by
  go_enter Tryz.func178, Tryz.ntmps178
  go_wp2
  refine wp_loop_rounds 1 ?_
  rw [rounds_succ]
  go_wp2
  go_end0
  exact ⟨rfl, rfl⟩
theorem pdqD_none (p : Option Addr) (cap : Nat) (lim : Int) (fv : Value) (w : World) :
    Calls Tryz.prog 133 #[.slice p 0 cap, .int .i64 0, .int .i64 0, .int .i64 lim, fv] w fun e w' => e = .returned (.tuple #[]) ∧ w' = w := by
  go_enter Tryz.func133, Tryz.ntmps133
  go_wp2
  refine wp_loop_rounds 1 ?_
  rw [rounds_succ]
  go_wp2_with (go_at_call 178; refine (insertionD_none _ _ _ _).mono ?_; rintro e w' ⟨rfl, rfl⟩)
  (try simp only [Exit.inBlock, Exit.then]); refine bodyPost_ret (results_none rfl _ _ _) rfl ?_
  exact ⟨rfl, rfl⟩
theorem sortD_none (p : Option Addr) (cap : Nat) (fv : Value) (w : World) :
    Calls Tryz.prog 75 #[.slice p 0 cap, fv] w fun e w' => e = .returned (.tuple #[]) ∧ w' = w := by
  go_enter Tryz.func75, Tryz.ntmps75
  go_wp2_with (first | (go_at_call 121; refine (bitsLen_zero _).mono ?_; rintro e w' ⟨rfl, rfl⟩) | (go_at_call 133; refine (pdqD_none _ _ _ _ _).mono ?_; rintro e w' ⟨rfl, rfl⟩))
  go_end0
  exact ⟨rfl, rfl⟩
/-! sorting dots -/
theorem swoD : Sort.SWO (ltOf cmpDD) where
  irrefl x := by rw [ltD_of]; exact lessD_irrefl x
  trans x y z h1 h2 := by rw [ltD_of] at *; exact lessD_trans h1 h2
  ntrans x y z h1 h2 := by
    rw [ltD_of] at *
    rw [← Bool.not_eq_true, lessD_iff] at *
    omega
theorem cmpLaysD (blk off size : Nat) (w : World) : CmpLays Tryz.prog 58 #[] dcell 3 cmpDD blk off size w :=
  fun _ _ _ _ x y => compareD_any x.1.1 x.1.2 x.2 y.1.1 y.1.2 y.2 _
theorem sortD_any (a : Option Addr) (c base : Nat) (l : List Dt) (w : World) (h : OwnD w base a c l) (hl : l.length ≤ 3000000) :
    Calls Tryz.prog 75 #[.slice a l.length c, .func (.func 58) #[] #[]] w fun e w' => e = .returned (.tuple #[]) ∧
      ∃ l', l'.length = l.length ∧ l'.Perm l ∧ l'.Pairwise (fun x y => lessD y x = false) ∧ OwnD w' base a c l' ∧ Chg (ob a) w w' := by
  by_cases h0 : l = []
  · subst h0
    exact (sortD_none a c _ w).mono fun e w' ⟨he, hw⟩ => ⟨he, [], rfl, .refl _, .nil, hw ▸ h, hw ▸ Chg.refl _ _⟩
  obtain ⟨blk, rfl⟩ : ∃ blk, a = some ⟨blk, 0, none⟩ := by
    rcases h.2 with ⟨h1, h2⟩ | ⟨g, cap, cur, h1, _⟩
    · simp at h1; exact absurd h1.2.1 h0
    · simp at h1; exact ⟨g, h1.1⟩
  obtain ⟨hH, hlt⟩ := holdsK_of dcell_len (by omega) h
  have hcon := AnyQ.slices_SortFunc Tryz.sortD 3 Tryz.isAgg49 Tryz.sizeOf49 dcell dcell_len (fun x v hv => by simp [dcell] at hv; rcases hv with rfl | rfl | rfl <;> rfl) cmpDD swoD 58 #[] blk 0 c l.toArray w (enters_of Tryz.func58 (by kernel_rfl) rfl) (cmpLaysD blk 0 _ w) hH hlt (by simp; omega)
  change Calls Tryz.prog 75 _ _ _ at hcon
  have e1 : l.toArray.size = l.length := by simp
  rw [e1] at hcon
  refine hcon.mono ?_
  rintro e w' ⟨rfl, d', n, os, hp, hs, rfl⟩
  have hperm : d'.toList.Perm l := by have := permIn_list (d := l.toArray) (by rw [e1]; exact hp); simpa using this
  have hlen : d'.toList.length = l.length := hperm.length_eq
  obtain ⟨h1, h2⟩ := sorted_owns (n := n) (os := os) dcell_len (by omega) hlen h
  refine ⟨rfl, d'.toList, hlen, hperm, ?_, ?_, by simpa [ob] using h2⟩
  · have := sortedIn_list (lt := ltOf cmpDD) (by rw [← hlen]; simp) hs
    refine this.imp fun {x y} hxy => ?_
    rwa [ltD_of] at hxy
  · unfold OwnD
    rw [hlen]
    simpa [dcells] using h1

/-! sorting items -/
theorem setCells_block (b : Nat) (t : TypeId) : ∀ (vs : List Value) (o : Nat) (w : World) (cur : Array Value), w.heap[b]? = some (.cells cur t (0, 0)) → o + vs.length ≤ cur.size →
    ∃ cur', (w.setCells b o vs).heap[b]? = some (.cells cur' t (0, 0)) ∧ cur'.size = cur.size ∧ cur'.toList.take o = cur.toList.take o
  | [], o, w, cur, h, _ => ⟨cur, h, rfl, rfl⟩
  | v :: vs, o, w, cur, h, ho => by
    simp only [List.length_cons] at ho
    obtain ⟨cur', h1, h2, h3⟩ := setCells_block b t vs (o + 1) (w.setCell ⟨b, o, none⟩ v) (cur.setIfInBounds o v) (heap_setCell_same w b o cur t v h) (by simp; omega)
    refine ⟨cur', h1, by simpa using h2, ?_⟩
    have h4 := congrArg (List.take o) h3
    rw [List.take_take, List.take_take, Nat.min_eq_left (by omega), Array.toList_setIfInBounds, List.take_set_of_le (by omega)] at h4
    exact h4
theorem Chg.setCells (b : Nat) : ∀ (vs : List Value) (o : Nat) (w : World), Chg [b] w (w.setCells b o vs)
  | [], o, w => Chg.refl _ _
  | v :: vs, o, w => (Chg.setCell w ⟨b, o, none⟩ v).trans (Chg.setCells b vs (o + 1) _) (by simp)
theorem zeroCells_mem {z : Array Value} (hz : 0 < z.size) {n : Nat} {u : Value} (h : u ∈ (Builtin.zeroCells z n).toList) : u ∈ z.toList := by
  simp only [Builtin.zeroCells, Array.toList_map, List.mem_map] at h
  obtain ⟨i, _, rfl⟩ := h
  have hlt : i % z.size < z.size := Nat.mod_lt _ hz
  rw [getElem!_pos z _ hlt]
  exact Array.getElem_mem_toList hlt
/-- 'clear' of the end of a row: what stands ahead stays -/
theorem run_clearD {w : World} {base g n c : Nat} {v : List Dt} (h : OwnD w base (some ⟨g, 0, none⟩) c v) (ty : TypeId) (k : Nat) (hk : k ≤ v.length) :
    ∃ w', (Builtin.clear_ #[27] ty #[.slice (if c = k then some ⟨g, 0, none⟩ else some ⟨g, k * 3, none⟩) (v.length - k) (c - k)]).run Tryz.prog w = .ok (.tuple #[]) w' ∧ OwnD w' base (some ⟨g, 0, none⟩) c (v.take k) ∧ Chg [g] w w' := by
  have hc0 : v ≠ [] → c ≠ 0 := fun hv hc => by
    have h2 := h.2
    rcases h2 with ⟨h3, h4⟩ | ⟨g', cap, cur, h3, hb, hg, hnc, hcm, hcs, ht⟩
    · simp at h3
    · simp only [Value.slice.injEq] at h3
      have := List.length_pos_iff.2 hv
      omega
  by_cases he : v.length - k = 0
  · have hkk : k = v.length := by omega
    refine ⟨w, ?_, ?_, Chg.refl _ _⟩
    · rw [he]
      by_cases hck : c = k
      · rw [if_pos hck]; simp [Builtin.clear_, run_underlying Tryz.underlying27]
      · rw [if_neg hck]; simp [Builtin.clear_, run_underlying Tryz.underlying27]
    · rw [List.take_of_length_le (by omega)]; exact h
  · have hv : v ≠ [] := fun e => by subst e; simp at he
    have hc := hc0 hv
    have hh := h
    rcases h.2 with ⟨h3, h4⟩ | ⟨g', cap, cur, h3, hb, hg, hnc, hcm, hcs, ht⟩
    · simp at h3
    simp only [Value.slice.injEq, Option.some.injEq, Addr.mk.injEq, and_true, true_and] at h3
    obtain ⟨rfl, rfl⟩ := h3
    have hck : c ≠ k := by omega
    obtain ⟨m, hm⟩ : ∃ m, v.length - k = m + 1 := ⟨v.length - k - 1, by omega⟩
    have hzl : ((Builtin.zeroCells #[.int .u8 0, .int .u32 0, .int .u64 0] (m + 1)).toList).length = (m + 1) * 3 := by simp [size_zeroCells]
    have hst := run_storeCells_cells (P := Tryz.prog) g (k * 3) (Builtin.zeroCells #[.int .u8 0, .int .u32 0, .int .u64 0] (m + 1)).toList 0 w
      (fun j hj => by
        rw [hzl] at hj
        rw [hh.cellAt (g := g) (k * 3 + 0 + j) (by omega), List.getElem?_eq_getElem (by rw [dcells_length]; omega)]
        rfl)
      (fun j hj => hh.frozenAt (g := g) _) (fun u hu => by
        have := zeroCells_mem (by decide) hu
        simp at this
        rcases this with rfl | rfl | rfl <;> rfl)
    obtain ⟨cur', q1, q2, q3⟩ := setCells_block g 49 (Builtin.zeroCells #[.int .u8 0, .int .u32 0, .int .u64 0] (m + 1)).toList (k * 3) w cur hg (by rw [hzl, hcs]; omega)
    refine ⟨w.setCells g (k * 3) (Builtin.zeroCells #[.int .u8 0, .int .u32 0, .int .u64 0] (m + 1)).toList, ?_, ?_, Chg.setCells _ _ _ _⟩
    · rw [if_neg hck, hm]
      simp only [Nat.add_zero] at hst
      simp [Builtin.clear_, run_underlying Tryz.underlying27, Tryz.zeroValue49, Value.cells, hst]
    · unfold OwnD
      have hl : (v.take k).length = k := by rw [List.length_take]; omega
      rw [hl]
      refine ⟨by rw [dcells_length, hl], .inr ⟨g, c, cur', rfl, hb, q1, by omega, hcm, by rw [q2, hcs], ?_⟩⟩
      rw [q3]
      have e1 : cur.toList.take (k * 3) = (dcells v).take (k * 3) := by rw [← ht, List.take_take, Nat.min_eq_left (by omega)]
      rw [e1]
      exact flatMap_take dcell_len v k

/-! the plain law -/
theorem set_dcells (v : List Dt) (k : Nat) (d : Dt) (hk : k < v.length) : (((dcells v).set (k * 3) (.int .u8 d.1.1)).set (k * 3 + 1) (.int .u32 d.1.2)).set (k * 3 + 2) (.int .u64 d.2) = dcells (v.set k d) := by
  induction v generalizing k with
  | nil => simp at hk
  | cons a v ih =>
    cases k with
    | zero => simp [dcells, dcell]
    | succ k =>
      have := ih k (by simpa using hk)
      simp only [dcells, List.flatMap_cons, List.set_cons_succ] at this ⊢
      rw [← this]
      simp only [dcell, List.cons_append, List.nil_append, show (k + 1) * 3 = k * 3 + 1 + 1 + 1 by omega, show k * 3 + 1 + 1 + 1 + 1 = k * 3 + 1 + 1 + 1 + 1 from rfl, List.set_cons_succ]
theorem OwnD.put {w : World} {base g c k : Nat} {v : List Dt} (h : OwnD w base (some ⟨g, 0, none⟩) c v) (hk : k < v.length) (d : Dt) :
    OwnD (((w.setCell ⟨g, k * 3, none⟩ (.int .u8 d.1.1)).setCell ⟨g, k * 3 + 1, none⟩ (.int .u32 d.1.2)).setCell ⟨g, k * 3 + 2, none⟩ (.int .u64 d.2)) base (some ⟨g, 0, none⟩) c (v.set k d) := by
  have h1 := (((World.ownsRow.stored h (k * 3) (.int .u8 d.1.1)).1.stored (k * 3 + 1) (.int .u32 d.1.2)).1.stored (k * 3 + 2) (.int .u64 d.2)).1
  rw [set_dcells v k d hk] at h1
  unfold OwnD
  rw [List.length_set]
  exact h1
theorem OwnD.at {w : World} {base g c : Nat} {v : List Dt} (h : OwnD w base (some ⟨g, 0, none⟩) c v) {k : Nat} {d : Dt} (hd : v[k]? = some d) :
    w.cell? ⟨g, k * 3, none⟩ = some (.int .u8 d.1.1) ∧ w.cell? ⟨g, k * 3 + 1, none⟩ = some (.int .u32 d.1.2) ∧ w.cell? ⟨g, k * 3 + 2, none⟩ = some (.int .u64 d.2) := by
  have hk := (List.getElem?_eq_some_iff.1 hd).1
  have h0 := World.ownsRow.cellAt (g := g) h (k * 3) (by omega)
  have h1 := World.ownsRow.cellAt (g := g) h (k * 3 + 1) (by omega)
  have h2 := World.ownsRow.cellAt (g := g) h (k * 3 + 2) (by omega)
  have e0 := dcells_at hd 0 (by omega)
  have e1 := dcells_at hd 1 (by omega)
  have e2 := dcells_at hd 2 (by omega)
  exact ⟨h0.trans e0, h1.trans e1, h2.trans e2⟩
theorem chg_set3 {w w' : World} {g : Nat} (h : Chg [g] w w') (i j k : Nat) (x y z : Value) : Chg [g] w (((w'.setCell ⟨g, i, none⟩ x).setCell ⟨g, j, none⟩ y).setCell ⟨g, k, none⟩ z) :=
  ((h.trans (Chg.setCell _ _ _) (by simp)).trans (Chg.setCell _ _ _) (by simp)).trans (Chg.setCell _ _ _) (by simp)
theorem wpList_clear_run {w w' : World} {ops : Array Oper} {rest : List Oper} {o : Oper} {a : Act} {Q : Exit → Act → World → Prop} (hgd : o.guard = none) (x : Operand) (t : TypeId)
    (ho : o.op = .call { callee := .builtin .clear, args := #[x], argTypes := #[t] }) (v : Value)
    (hrun : (Builtin.clear_ #[t] o.type #[a.eval x]).run Tryz.prog w = .ok v w')
    (h : wpList Tryz.prog ops Q rest (a.put o.dst v) w') : wpList Tryz.prog ops Q (o :: rest) a w := by
  refine wpList_plain hgd fun K hK => ?_
  unfold Oper.wp
  simp [execOp, ho, resolve, invoke, builtin, hrun, Result.andThen]
  exact hK _ _ h
theorem OwnD.free {w : World} {base g c : Nat} {v : List Dt} (h : OwnD w base (some ⟨g, 0, none⟩) c v) (j : Nat) : w.frozen? ⟨g, j, none⟩ = false := World.ownsRow.frozenAt h j
theorem OwnD.cap {w : World} {base c : Nat} {a : Option Addr} {v : List Dt} (h : OwnD w base a c v) : v.length ≤ c := h.vec.cap
theorem OwnD.form {w : World} {base c : Nat} {a : Option Addr} {v : List Dt} (h : OwnD w base a c v) (hv : v ≠ []) : ∃ g, a = some ⟨g, 0, none⟩ ∧ base ≤ g ∧ g < w.heap.size := by
  rcases h.2 with ⟨h1, h2⟩ | ⟨g, cap, cur, h1, hb, hg, _⟩
  · simp at h1; exact absurd h1.2.1 hv
  · simp at h1; exact ⟨g, h1.1, hb, heap_lt hg⟩
attribute [local go_sem] Oper.semAt_some

section
variable {w : World} {ops : Array Oper} {rest : List Oper} {o : Oper} {a : Act} {Q : Exit → Act → World → Prop} {F : Fence} {nf : Nat}
theorem wpList_next_D (hg : o.guard = none) (it : Operand) (hop : o.op = Op.next it false) (b r n : Nat) (f : Dt → Option Value) (left : Dt → Bool) (cnt : Nat)
    (hit : a.eval it = .pointer (some ⟨r, 0, none⟩)) (h : RangeF w Tryz.prog 49 mkD b r n f left cnt)
    (hDone : NoneLeftD left → wpList Tryz.prog ops Q rest (a.put o.dst (.tuple #[.bool false])) w)
    (hMore : ∀ rr ii qq v w' cnt', NextD w b r n f left cnt rr ii qq v w' cnt' → (Instr.entry (.pointer (some ⟨r, 0, none⟩))).run Tryz.prog w' = .ok (.tuple #[.agg #[.int .u8 rr, .int .u32 ii, .int .u64 qq], v]) w' →
      wpList Tryz.prog ops Q rest (a.put o.dst (.tuple #[.bool true, .agg #[.int .u8 rr, .int .u32 ii, .int .u64 qq], v])) w') : wpList Tryz.prog ops Q (o :: rest) a w :=
  wpList_next_F keysD hg it hop b r n f left cnt hit h (fun _ h => hDone fun a ha => by obtain ⟨l, hl⟩ := keyD_ok ha; exact h a l hl)
    (fun x v l w' cnt' h1 h2 h3 h4 h5 h6 h7 h8 => hMore x.1.1 x.1.2 x.2 v w' cnt' ⟨keyD_inv h1, h2, h3, h4, h5, h6, h7⟩ h8)
end

/-- the keys of f, each once -/
def KeysInD (f : Dt → Option Value) (n : Nat) (ss : List Dt) : Prop := ss.length ≤ n ∧ ss.Nodup ∧ (∀ a ∈ ss, okD a) ∧ ∀ a, okD a → (a ∈ ss ↔ (f a).isSome = true)
/-- so far -/
structure CameD (f : Dt → Option Value) (left : Dt → Bool) (ss : List Dt) : Prop where
  nd : ss.Nodup
  ok : ∀ a ∈ ss, okD a
  ne : ∀ a ∈ ss, left a = false
  mem : ∀ a, okD a → (a ∈ ss ↔ (f a).isSome = true ∧ left a = false)
theorem CameD.start (f : Dt → Option Value) : CameD f (fun a => (f a).isSome) [] := ⟨List.nodup_nil, by simp, by simp, fun a _ => by cases h : f a <;> simp [h]⟩
theorem CameD.step {f : Dt → Option Value} {left : Dt → Bool} {ss : List Dt} (h : CameD f left ss) {x : Dt} {v : Value} (hok : okD x) (hl : left x = true) (hf : f x = some v) : CameD f (fun y => left y && !decide (y = x)) (ss ++ [x]) := by
  have hx : x ∉ ss := fun hx => by have := h.ne x hx; rw [hl] at this; cases this
  refine ⟨List.nodup_append.2 ⟨h.nd, by simp, fun a ha b hb => by simp at hb; subst hb; intro e; subst e; exact hx ha⟩, fun a ha => ?_, fun a ha => ?_, fun a hoka => ?_⟩
  · rcases List.mem_append.1 ha with ha | ha
    · exact h.ok a ha
    · simp at ha; subst ha; exact hok
  · rcases List.mem_append.1 ha with ha | ha
    · simp [h.ne a ha]
    · simp at ha; subst ha; simp
  · rw [List.mem_append, List.mem_singleton, h.mem a hoka]
    by_cases e : a = x
    · subst e; simp [hf, hl]
    · simp [e]
theorem CameD.done {f : Dt → Option Value} {left : Dt → Bool} {ss : List Dt} (h : CameD f left ss) (hl : NoneLeftD left) {n : Nat} (hn : ss.length ≤ n) : KeysInD f n ss :=
  ⟨hn, h.nd, h.ok, fun a ha => by rw [h.mem a ha, hl a ha]; simp⟩

set_option maxRecDepth 100000 in
set_option maxHeartbeats 1000000 in
theorem keysD1_in (F : Fence) (n : Nat) (h10 : F.fn 132) (hro : F.round = none) (hn : 1 ≤ n) (l Bm b nn : Nat) (f : Dt → Option Value) (J Jx : List Dt → World → Prop)
    (hY : ∀ pre x W, J pre W → pre.length < nn → YieldAt F (n - 1) Tryz.prog l #[mkD x] W fun e W' => (e = .returned (.bool true) ∧ J (pre ++ [x]) W' ∧ KeepsWalks W W') ∨ (e = .returned (.bool false) ∧ Jx (pre ++ [x]) W'))
    (W : World) (hJ : AbidesFrom W.heap.size J) (hm : W.cell? ⟨Bm, 0, none⟩ = some (.map (some b))) (hown : MapF W Tryz.prog 49 mkD b nn f) (h0 : J [] W) :
    CallsIn F n Tryz.prog 132 #[.func (.yield l) #[] #[], .pointer (some ⟨Bm, 0, none⟩)] W fun e W' => (∃ v, e = .returned v) ∧ ((∃ ss, KeysInD f nn ss ∧ J ss W') ∨ ∃ pre, Jx pre W') := by
  refine callsIn_of_wp Tryz.func132 rfl h10 ?_ hro
  simp only [Tryz.ntmps132, List.size_toArray, List.length_cons, List.length_nil, Nat.reduceAdd, Nat.reduceSub, Array.replicate_succ, Array.replicate_zero, List.push_toArray, List.append_toArray, List.nil_append, List.cons_append]
  gi_wp2_with (gi_at_range; refine wpListIn_range_F keysD rfl _ _ rfl _ Tryz.underlying116 b nn f rfl hown ?_; intro w0 cnt0 hrg0 hcn0 hg0 hs0)
  go_frame
  gi_loopw [3] (fun _ wr => ∃ (left : Dt → Bool) (cnt : Nat) (ss : List Dt), RangeF wr Tryz.prog 49 mkD b W.heap.size nn f left cnt ∧ ss.length + cnt ≤ nn ∧ CameD f left ss ∧ J ss wr)
    (fun _ wr => wr.rangeLeft b W.heap.size)
  case atStart =>
    exact ⟨_, _, [], hrg0, by simpa using hcn0, CameD.start f, hJ [] W w0 none h0 hg0 (fun r e => by cases e)⟩
  case round =>
    obtain ⟨left, cnt, ss, hrg, hcs, hC, hJs⟩ := hrel
    gi_wp2_with (gi_at_next; refine wpListIn_next_D rfl _ rfl b W.heap.size nn f left cnt rfl hrg ?_ ?_)
    · intro hl0
      gi_wp2
      go_end0
      exact ⟨⟨_, rfl⟩, .inl ⟨ss, hC.done hl0 (by omega), hJs⟩⟩
    · intro rr ii qq v w2 cnt2 hN hen
      have hJ2 : J ss w2 := hJ ss wr w2 (some W.heap.size) hJs hN.grown (fun r e => by cases e; exact ⟨Nat.le_refl _, hrg.iter_walk⟩)
      have hJ3 : J ss (w2.alloc (.cells #[.int .u8 rr, .int .u32 ii, .int .u64 qq] 49)) := hJ ss w2 _ none hJ2 (World.grownBy_alloc _ _ _) (fun r e => by cases e)
      have hlt := hN.lt
      obtain ⟨fn, tmps, assign, body, hy, hR⟩ := hY ss ((rr, ii), qq) _ hJ3 (by omega)
      have hrg3 := hN.rng.alloc (.cells #[.int .u8 rr, .int .u32 ii, .int .u64 qq] 49)
      simp only [mkD] at hy
      gi_wp2
      refine hR.mono ?_
      rintro e W3 (⟨rfl, hJ4, hk3⟩ | ⟨rfl, hJx3⟩)
      · gi_wp2
        have hrg4 := hrg3.of_walks hk3
        go_roundw
        case rel => exact ⟨_, cnt2, ss ++ [((rr, ii), qq)], hrg4, by simp; omega, hC.step hN.ok hN.was hN.val, hJ4⟩
        case measure => rw [hrg4.left_eq, hrg.left_eq]; exact hlt
      · gi_wp2
        refine bodyPost_ret (results_none rfl _ _ _) rfl ?_
        exact ⟨⟨_, rfl⟩, .inr ⟨ss ++ [((rr, ii), qq)], hJx3⟩⟩

/-- maps.Keys(m) hands back an iterator over m's keys -/
theorem keysD_stops (F : Fence) (n : Nat) (h10 : F.fn 132) (hro : F.round = none) (hn : 1 ≤ n) (Bm b nn : Nat) (f : Dt → Option Value) (w : World)
    (hm : w.heap[Bm]? = some (.cells #[.map (some b)] 116 (0, 0))) (hown : MapF w Tryz.prog 49 mkD b nn f) :
    SeqStopsK F n Tryz.prog 132 #[.pointer (some ⟨Bm, 0, none⟩)] (fun x : Dt => #[mkD x]) KeepsWalks (KeysInD f nn) (fun _ => True) nn w := fun l J Jx W hW hJ _ hY h0 => by
  have hc : W.cell? ⟨Bm, 0, none⟩ = some (.map (some b)) := by rw [cells_at ((hW.block Bm (heap_lt hm)).trans hm)]; rfl
  refine (keysD1_in F n h10 hro hn l Bm b nn f J Jx hY W hJ hc (hown.below hW) h0).mono ?_
  rintro e W' ⟨hv, h | ⟨pre, h⟩⟩
  · exact ⟨hv, .inl h⟩
  · exact ⟨hv, .inr ⟨pre, trivial, h⟩⟩

/-- block B holds an actor -/
def BoxD (W : World) (B : Nat) (x : Dt) : Prop := W.heap[B]? = some (.cells #[.int .u8 x.1.1, .int .u32 x.1.2, .int .u64 x.2] 49 (0, 0))
theorem boxD_own {β : Type} (B : Nat) (x : Dt) : Own (fun (_ : β) W => BoxD W B x) := fun s X Y row hs hg hrow =>
  (hg.block B (heap_lt hs) (fun e' => by obtain ⟨o, ho, hc⟩ := hrow B e'.symm; rw [show X.heap[B]? = _ from hs] at ho; cases ho; cases hc)).trans hs

set_option maxRecDepth 100000 in
set_option maxHeartbeats 2000000 in
/-- slices.AppendSeq(nil, seq) -/
theorem appendSeqD_in (F : Fence) (n : Nat) (h11 : F.fn 131) (hro : F.round = none) (hn : 2 ≤ n) (g : Nat) (lb : Array Value) (hFg : F.fn g) (eg : ∀ args w, (callFunc g args).run Tryz.prog w = .ok (.enter g args) w)
    (S : List Dt → Prop) (N : Nat) (hN : N ≤ 1100000) (w : World) (hseq : SeqStopsK F (n - 1) Tryz.prog g lb (fun x : Dt => #[mkD x]) KeepsWalks S (fun _ => True) N w) :
    CallsIn F n Tryz.prog 131 #[.slice none 0 0, .func (.func g) #[] lb] w fun e w' => ∃ a c ss, e = .returned (.slice a (List.length ss) c) ∧ S ss ∧ w'.ownsRow w.heap.size 49 3 (.slice a ss.length c) ss.length (dcells ss) ∧ Below w.heap.size w w' := by
  have h1 : 1 ≤ n := by omega
  obtain ⟨i0, hi, hz0, hz1, hz2⟩ := info_parts Tryz.info_dot
  refine callsIn_of_wp_marks Tryz.func131 rfl h11 ?_ hro
  simp only [Tryz.ntmps131, List.size_toArray, List.length_cons, List.length_nil, Nat.reduceAdd, Nat.reduceSub, Array.replicate_succ, Array.replicate_zero, List.push_toArray, List.append_toArray, List.nil_append, List.cons_append]
  gi_wp2
  have bO := Boxed.new w 27 (.slice none 0 0)
  have hB0 : Below w.heap.size w (w.alloc (.cells #[.slice none 0 0] 27)) := (Below.refl _ w).alloc (Nat.le_refl _) _
  refine wpIn_rangeFunc_ownH hro h1 (gf := g) (lb := lb) rfl hFg eg hseq walksK_t walksK_b hB0 (fun _ => rfl)
    (fun pre W => (∃ v, Boxed W w.heap.size 27 v ∧ W.ownsRow w.heap.size 49 3 v pre.length (dcells pre) ∧ True) ∧ Below w.heap.size w W)
    (fun _ _ _ => False)
    (OwnFrom.and (Own.from (holdsRow_own w.heap.size w.heap.size 27 49 3 (fun pre => pre.length) (fun pre => dcells pre) (fun _ _ => True)) _) (ownFrom_below (Nat.le_refl _) (by simp)))
    (fun _ _ _ _ _ hs _ _ => hs)
    ⟨⟨_, bO, World.ownsRow_nil _ _ _ _, trivial⟩, hB0⟩
    (fun x a' W => ∃ Bx, BoxD W Bx x ∧ a' = { tmps := #[.slice none 0 0, .func (.func g) #[] lb, .pointer (some ⟨w.heap.size, 0, none⟩), undef, .slice none 0 0, .pointer (some ⟨Bx, 0, none⟩), .func (.func g) #[] lb, mkD x, undef, undef, undef, undef, undef], defers := [] })
    (fun x a' => fun s X Y row hs hg hr => by
      obtain ⟨Bx, hx, ha⟩ := hs
      exact ⟨Bx, Own.from (boxD_own Bx x) _ s X Y row hx hg hr, ha⟩) ?assign ?body ?done ?stop
  case assign =>
    rintro l pre x W K ⟨⟨v, hv, hrow, _⟩, hB⟩ hK
    obtain ⟨⟨r, i⟩, sq⟩ := x
    simp only [mkD]
    gi_wp2
    exact hK _ _ ((KeepsOthers.alloc _ _).from _) (KeepsWalks.alloc _ _) ⟨⟨v, hv.alloc _, hrow.alloc _, trivial⟩, hB.alloc hB.size _⟩ ⟨W.heap.size, heap_new _ _, rfl⟩
  case body =>
    rintro l pre x a' W hl hr ⟨⟨v, hv, hrow, _⟩, hB⟩ ⟨Bx, hbx, rfl⟩ hlt
    have hc := hv.cell
    have cx := cells_at hbx
    obtain ⟨⟨r, i⟩, sq⟩ := x
    dsimp only at cx
    gi_wp2_with (gi_at_builtin; refine wpListIn_append_own _ rfl _ _ 27 rfl w.heap.size 49 i0 (.agg #[.int .u8 0, .int .u32 0, .int .u64 0]  ) 3 16 Tryz.underlying27 hi hz0 hz1 hz2 rfl (by decide) _ _ _ rfl (hrow.alloc _) ⟨W.heap.size, 0, none⟩ 1 1 [.int .u8 r, .int .u32 i, .int .u64 sq] rfl rfl (World.news_of_block (cs := #[.int .u8 r, .int .u32 i, .int .u64 sq]) (t := 49) (fr := (0, 0)) (heap_alloc_new W _)) (by simp [Value.oneCell']) (by unfold maxLen; omega) (by omega) (by have := hB.size; simp; omega) ?_; intro v' w1 hown' hgrow _; obtain ⟨g', cap', rfl⟩ := ownsRow_succ hown'; obtain ⟨hv1, hv2, hr2, hk2, hb2⟩ := hv.appended (by decide) hrow hB.size (Nat.le_refl _) hown' hgrow; have hc1 := hv1.cell; have hf1 := hv1.frozen)
    refine ⟨hk2.from _, ?_, ⟨_, hv2, ?_, trivial⟩, hB.trans hb2⟩
    · exact ⟨hk2.size, fun k o hk ho => hk2.same k o hk (Obj.not_cells_of_walk ho)⟩
    · rw [dcells_snoc]; simpa [dcell] using hr2
  case done =>
    rintro D ys W hD hS ⟨⟨v, hv, hrow, _⟩, hB⟩ hK
    have hc := hv.cell
    obtain ⟨a, c, rfl⟩ := owns_slice hrow
    gi_wp2
    refine ⟨by simp, .inl ⟨_, _, rfl, run_takeDeferred hK, ?_⟩⟩
    exact ⟨_, results_tmp rfl _ _ _, a, c, ys, rfl, hS, ownsRow_putObj hrow _ hK rfl, hB.trans (belowK_b (w := w) (Nat.le_refl _) W D _ _ (by simp at hD; omega) hK rfl rfl)⟩
  case stop =>
    rintro D c pre W _ _ h _
    exact h.elim
/-- slices.Collect(maps.Keys(m)) -/
theorem collectD_keys (Bm b nn : Nat) (f : Dt → Option Value) (w : World) (hm : w.heap[Bm]? = some (.cells #[.map (some b)] 116 (0, 0))) (hown : MapF w Tryz.prog 49 mkD b nn f) (hN : nn ≤ 1100000) :
    Calls Tryz.prog 73 #[.func (.func 132) #[] #[.pointer (some ⟨Bm, 0, none⟩)]] w fun e w' =>
      ∃ a c ss, e = .returned (.slice a (List.length ss) c) ∧ KeysInD f nn ss ∧ w'.ownsRow w.heap.size 49 3 (.slice a ss.length c) ss.length (dcells ss) ∧ Below w.heap.size w w' := by
  have hc := (callsIn_wide (n := 5)).1 (appendSeqD_in Fence.wide 5 trivial rfl (by omega) _ _ trivial (enters_of Tryz.func132 (by kernel_rfl) rfl) (KeysInD f nn) nn hN w
    (keysD_stops Fence.wide 4 trivial rfl (by omega) Bm b nn f w hm hown))
  have Hc := Lib.hid hc
  clear hc hm hown
  go_enter Tryz.func73, Tryz.ntmps73
  go_wp2_with fail
  refine Hc.out.mono ?_
  rintro e w' ⟨a, c, ss, rfl, h⟩
  go_wp2_with fail
  go_ret
  exact ⟨a, c, ss, rfl, h⟩

def keepP (p : Dt → Bool) (l : List Dt) : List Dt := l.filter fun d => !p d
theorem keepP_none {p : Dt → Bool} {l : List Dt} (h : ∀ d ∈ l, p d = false) : keepP p l = l := List.filter_eq_self.2 fun d hd => by rw [h d hd]; rfl
theorem keepP_snoc {p : Dt → Bool} {l : List Dt} {q : Nat} {d : Dt} (hd : l[q]? = some d) : keepP p (l.take (q + 1)) = if p d = true then keepP p (l.take q) else keepP p (l.take q) ++ [d] := by
  unfold keepP
  rw [take_snoc' hd, List.filter_append]
  cases hp : p d <;> simp [hp]
/-- the first jj of l are gone through, kk are kept at the start of cur -/
structure DelI (p : Dt → Bool) (l cur : List Dt) (kk jj : Nat) : Prop where
  len : cur.length = l.length
  lt : kk < jj ∧ jj ≤ l.length
  kept : cur.take kk = keepP p (l.take jj)
  rest : ∀ i, jj ≤ i → cur[i]? = l[i]?
theorem DelI.start {p : Dt → Bool} {l : List Dt} {q : Nat} {d : Dt} (hd : l[q]? = some d) (hp : p d = true) (h : ∀ s ∈ l.take q, p s = false) : DelI p l l q (q + 1) :=
  ⟨rfl, ⟨Nat.lt_succ_self _, (List.getElem?_eq_some_iff.1 hd).1⟩, by rw [keepP_snoc hd, if_pos hp, keepP_none h], fun _ _ => rfl⟩
theorem DelI.skip {p : Dt → Bool} {l cur : List Dt} {kk jj : Nat} {d : Dt} (h : DelI p l cur kk jj) (hd : l[jj]? = some d) (hp : p d = true) : DelI p l cur kk (jj + 1) :=
  ⟨h.len, ⟨by have := h.lt; omega, (List.getElem?_eq_some_iff.1 hd).1⟩, by rw [keepP_snoc hd, if_pos hp, h.kept], fun i hi => h.rest i (by omega)⟩
theorem DelI.keep {p : Dt → Bool} {l cur : List Dt} {kk jj : Nat} {d : Dt} (h : DelI p l cur kk jj) (hd : l[jj]? = some d) (hp : p d = false) : DelI p l (cur.set kk d) (kk + 1) (jj + 1) := by
  have hjl := (List.getElem?_eq_some_iff.1 hd).1
  have hkl : kk < cur.length := by have := h.lt; have := h.len; omega
  refine ⟨by rw [List.length_set, h.len], ⟨by have := h.lt; omega, hjl⟩, ?_, fun i hi => ?_⟩
  · rw [keepP_snoc hd, if_neg (by rw [hp]; simp), ← h.kept]
    have hs : (cur.set kk d)[kk]? = some d := by rw [List.getElem?_set_self hkl]
    rw [take_snoc' hs, List.take_set_of_le (Nat.le_refl _)]
  · rw [List.getElem?_set_ne (by have := h.lt; omega)]
    exact h.rest i (by omega)
theorem DelI.done {p : Dt → Bool} {l cur : List Dt} {kk : Nat} (h : DelI p l cur kk l.length) : cur.take kk = keepP p l := by have := h.kept; rwa [List.take_length] at this
set_option maxRecDepth 100000 in
set_option maxHeartbeats 8000000 in
theorem deleteD_fn (fn : FuncId) (cap : Array Value) (p : Dt → Bool) (a : Option Addr) (c base : Nat) (l : List Dt) (w : World) (h : OwnD w base a c l) (hn : l.length ≤ 1100000)
    (he : ∀ args w, (callFunc fn args).run Tryz.prog w = .ok (.enter fn args) w)
    (hp : ∀ r i s, ((r, i), s) ∈ l → ∀ W, Chg (ob a) w W → Calls Tryz.prog fn (#[.agg #[.int .u8 r, .int .u32 i, .int .u64 s]] ++ cap) W (fun e W' => e = .returned (.bool (p ((r, i), s))) ∧ Below W.heap.size W W')) :
    Calls Tryz.prog 72 #[.slice a l.length c, .func (.func fn) #[] cap] w fun e w' => ∃ v', e = .returned (.slice a (List.length v') c) ∧ v' = keepP p l ∧ OwnD w' base a c v' ∧ Chg (ob a) w w' := by
  have H := Lib.hid h
  have HP := Lib.hid hp
  clear h hp
  go_enter Tryz.func72, Tryz.ntmps72
  go_wp2_with fail
  refine (indexD_fn fn cap p a c l _ H.out.vec hn he (fun r i s hd W hW => HP.out r i s hd W (Chg.of_below hW))).mono ?_
  intro e w1 hto
  obtain ⟨k, rfl, hk, hb⟩ := hto
  have HB := Lib.hid hb
  clear hb
  obtain ⟨rfl, hnone⟩ | ⟨q, d, rfl, hqd, hpd, hall⟩ := hk
  · have Hn := Lib.hid hnone
    clear hnone
    go_wp2_with fail
    go_ret
    exact ⟨l, rfl, (keepP_none Hn.out).symm, H.out.below HB.out, Chg.of_below HB.out⟩
  · obtain ⟨g, rfl, hbg, hgl⟩ := H.out.form (fun e => by subst e; simp at hqd)
    have hcap := H.out.cap
    have Hst := Lib.hid (DelI.start hqd hpd hall)
    have hql : q < l.length := (List.getElem?_eq_some_iff.1 hqd).1
    clear hqd hpd hall
    have e1 : ((q : Int) == -1) = false := by rw [beq_eq_false_iff_ne]; omega
    go_wp2_with fail
    go_loopw [5, 6] (fun kv jv wx => ∃ (kk jj : Nat) (cur : List Dt), kv = .int .i64 kk ∧ jv = .int .i64 jj ∧ Hid (DelI p l cur kk jj) ∧ Hid (OwnD wx base (some ⟨g, 0, none⟩) c cur) ∧ Hid (Chg [g] w wx)) (fun _ jv _ => l.length - (intOf jv).toNat)
    case atStart => exact ⟨q, q + 1, l, rfl, by go_num, Hst, Lib.hid (H.out.below HB.out), Lib.hid (Chg.of_below HB.out)⟩
    case round =>
      rename_i wx _
      clear e1
      obtain ⟨kk, jj, cur, rfl, rfl, hD, hO, hC⟩ := hrel
      have hcap2 := hO.out.cap
      have Hcl := Lib.hid hD.out.len
      have hkj : kk < jj := hD.out.lt.1
      have hjl : jj ≤ l.length := hD.out.lt.2
      by_cases hlt : jj < l.length
      · obtain ⟨⟨⟨r, i⟩, s⟩, hx⟩ : ∃ x, l[jj]? = some x := ⟨l[jj], by simp [hlt]⟩
        have hx' := (hD.out.rest jj (Nat.le_refl _)).trans hx
        obtain ⟨c0, c1, c2⟩ := hO.out.at hx'
        dsimp only at c0 c1 c2
        have Hx := Lib.hid hx
        have hA : Below wr.heap.size wr (wr.alloc (.cells #[.int .u8 r, .int .u32 i, .int .u64 s] 49)) := (Below.refl _ _).alloc (Nat.le_refl _) _
        have HA := Lib.hid hA
        have HPx := Lib.hid (HP.out r i s (List.mem_of_getElem? hx))
        clear hx hx' hA
        go_wp2_with fail
        refine (HPx.out _ ((hC.out.trans (Chg.of_below (F := []) HA.out) (by simp)))).mono ?_
        rintro e w3 ⟨rfl, hb3⟩
        have X3 := Lib.hid (new1 hb3).1
        have O3 := Lib.hid ((hO.out.below HA.out).below hb3)
        have C3 := Lib.hid ((hC.out.trans (Chg.of_below (F := []) HA.out) (by simp)).trans (Chg.of_below (F := []) hb3) (by simp))
        have x3 := cells_at X3.out
        clear hb3 c0 c1 c2
        cases hz : p ((r, i), s) with
        | true =>
          have Hz := Lib.hid hz
          go_wp2_with fail
          go_roundw
          case rel => exact ⟨kk, jj + 1, cur, rfl, by go_num, Lib.hid (hD.out.skip Hx.out Hz.out), O3, C3⟩
          case measure => simp [intOf]; omega
        | false =>
          have Hz := Lib.hid hz
          have hkl : kk < cur.length := by have := Hcl.out; omega
          obtain ⟨⟨⟨vr, vi⟩, vs⟩, hv⟩ : ∃ x, cur[kk]? = some x := ⟨cur[kk], by simp [hkl]⟩
          obtain ⟨p0, p1, p2⟩ := O3.out.at hv
          have hf := O3.out.free
          dsimp only at p0 p1 p2
          clear hv
          go_wp2_with fail
          have q1 := O3.out.put hkl ((r, i), s)
          have q2 := chg_set3 C3.out (kk * 3) (kk * 3 + 1) (kk * 3 + 2) (.int .u8 r) (.int .u32 i) (.int .u64 s)
          exact ⟨⟨kk + 1, jj + 1, cur.set kk ((r, i), s), by go_num, by go_num, Lib.hid (hD.out.keep Hx.out Hz.out), Lib.hid q1, Lib.hid q2⟩, by simp [intOf]; omega⟩
      · have hjj : jj = l.length := by omega
        have Hd := Lib.hid (show cur.take kk = keepP p l from by have := hD.out; rw [hjj] at this; exact this.done)
        have hkl : kk ≤ cur.length := by have := Hcl.out; omega
        have hck : c ≠ kk := by have := Hcl.out; omega
        have hadd : (⟨g, 0, none⟩ : Addr).add (kk * 3) = ⟨g, kk * 3, none⟩ := by unfold Addr.add; split <;> simp_all
        have hs3 := fun W => slice_loD (some ⟨g, 0, none⟩) cur.length c kk hkl hcap2 W
        have hs4 := fun W => slice_hiD (some ⟨g, 0, none⟩) cur.length c kk (by omega) W
        obtain ⟨w5, hr5, ho5, hC5⟩ := run_clearD (n := 0) hO.out 0 kk hkl
        rw [if_neg hck] at hs3 hr5
        simp only [Option.map_some, hadd] at hs3
        rw [Hcl.out] at hs3 hs4 hr5
        have Ho5 := Lib.hid ho5
        have HC5 := Lib.hid (hC.out.trans hC5 (by simp))
        have hl5 : (cur.take kk).length = kk := by rw [List.length_take]; omega
        have Hl5 := Lib.hid hl5
        clear ho5 hC5 hl5 hadd hjj
        go_wp2_with (at_builtin; go_must (refine wpList_clear_run rfl _ _ rfl _ hr5 ?_))
        go_wp2_with fail
        go_ret
        exact ⟨cur.take kk, by rw [Hl5.out]; rfl, Hd.out, Ho5.out, HC5.out⟩
/-- within another commit's history -/
def behind1 (c : Cm) (d : Dt) : Bool := !eqD c.d d && hasV c.vv d
def behindB (L : List Cm) (d : Dt) : Bool := L.any fun c => behind1 c d
theorem behind_no {L : List Cw} {d : Dt} (h : ∀ v ∈ L, behind1 v.c d = false) : behindB (cms L) d = false := by
  unfold behindB cms
  rw [List.any_map, List.any_eq_false]
  intro v hv
  show ¬ behind1 v.c d = true
  rw [h v hv]; simp
theorem behind_yes {L : List Cw} {d : Dt} {v : Cw} (hv : v ∈ L) (h : behind1 v.c d = true) : behindB (cms L) d = true := by
  unfold behindB cms
  rw [List.any_map, List.any_eq_true]
  exact ⟨v, hv, h⟩
theorem next_left {L : List Cw} (hn : ((cms L).map (·.d)).Nodup) {left : Dt → Bool} {P : Cw → Prop} (h : ∀ v ∈ L, left v.c.d = false → P v) {v : Cw} (hv : v ∈ L) {d : Dt} (hd : v.c.d = d) (hp : P v) : ∀ u ∈ L, (left u.c.d && !decide (u.c.d = d)) = false → P u := fun u hu hl => by
  by_cases e : u.c.d = d
  · rw [same_of_d hn hu hv (e.trans hd.symm)]; exact hp
  · rw [decide_eq_false e] at hl; exact h u hu (by simpa using hl)
set_option maxRecDepth 100000 in
set_option maxHeartbeats 8000000 in
theorem behind_any (pg mb : Nat) (w0 : World) (m : Nat) (b : Bw) (L : List Cw) (va : Option Addr) (vc : Nat) (vv : List Dt) (gb : Nat) (r i s : Int) (w : World) (h : GrAt w pg mb w0 m b L va vc vv) (hg : w.cell? ⟨gb, 0, none⟩ = some (.pointer (some ⟨pg, 0, none⟩))) (hd : okD ((r, i), s)) :
    Calls Tryz.prog 70 #[.agg #[.int .u8 r, .int .u32 i, .int .u64 s], .pointer (some ⟨gb, 0, none⟩)] w fun e w' => e = .returned (.bool (behindB (cms L) ((r, i), s))) ∧ Below w.heap.size w w' := by
  have H := Lib.hid h
  have g0 := cells_at h.blk
  simp only [gcells] at g0
  have hpg := heap_lt h.blk
  clear h
  have z0 : gb < w.heap.size := World.block_lt_of_cell? w _ hg
  have hB : Below w.heap.size w (w.alloc (.cells #[.int .u8 r, .int .u32 i, .int .u64 s] 49)) := (Below.refl _ _).alloc (Nat.le_refl _) _
  have HB := Lib.hid hB
  have HM := Lib.hid ((H.out.below hB).map.mapF)
  clear hB
  go_enter Tryz.func70, Tryz.ntmps70
  go_wp2_with (at_range; go_must (refine wpList_range_F keysD rfl _ _ rfl _ Tryz.underlying116 mb L.length (fvW L) rfl HM.out ?_))
  intro wa cnt0 hrg0 hcn0 hg0 hs0
  have hb0 : Below (w.alloc (.cells #[.int .u8 r, .int .u32 i, .int .u64 s] 49)).heap.size (w.alloc (.cells #[.int .u8 r, .int .u32 i, .int .u64 s] 49)) wa := (Below.refl _ _).grown hg0 (Nat.le_refl _) (by simp)
  have E0 := Lib.hid (BoxE.of hb0)
  have Hrg0 : Hid (RangeF wa Tryz.prog 49 mkD mb (w.heap.size + 1) L.length (fvW L) (fun a => (fvW L a).isSome) cnt0) := Lib.hid (by simpa using hrg0)
  clear hg0 hs0 hb0 hrg0 g0 hpg z0 hg HB
  go_wp2_with fail
  go_loopw [5] (fun _ wr => ∃ (left : Dt → Bool) (cnt : Nat), RangeF wr Tryz.prog 49 mkD mb (w.heap.size + 1) L.length (fvW L) left cnt ∧ (∀ v ∈ L, left v.c.d = false → behind1 v.c ((r, i), s) = false) ∧ BoxE 49 w wr #[.int .u8 r, .int .u32 i, .int .u64 s]) (fun _ wr => wr.rangeLeft mb (w.heap.size + 1))
  case atStart =>
    refine ⟨_, cnt0, Hrg0.out, fun v hv hl => ?_, E0.out⟩
    have : fvW L v.c.d = some (cwv v) := by unfold fvW; rw [fvW_mem H.out.nodup hv]; rfl
    rw [this] at hl; cases hl
  case round =>
    obtain ⟨left, cnt, hrg, hle, hb⟩ := hrel
    have Hrg := Lib.hid hrg
    have Hle := Lib.hid hle
    have E := Lib.hid hb
    have hsz := hb.bel.size
    clear hle hb E0 Hrg0 hcn0
    go_wp2_with (at_next; go_must (refine wpList_next_D rfl _ rfl _ _ _ _ _ _ rfl hrg ?_ ?_))
    · intro hl
      clear hrg
      have Hw := Lib.hid (show behindB (cms L) ((r, i), s) = false from behind_no fun v hv => Hle.out v hv (hl _ (H.out.each v hv).ok.d))
      clear hl
      go_wp2_with fail
      go_ret
      exact ⟨by rw [Hw.out]; rfl, E.out.bel⟩
    · intro rr ii qq xv w3 cnt1 hX hen
      clear hrg
      have hlt1 := hX.lt
      obtain ⟨v, hvL, hvd, rfl⟩ := fvW_some hX.val
      have hc1 := Chg.grown hX.grown
      simp only [Option.toList_some] at hc1
      have hb1 : Below w.heap.size w w3 := E.out.bel.trans (hc1.below hsz (by simp))
      have x3 := heap_chg E.out.blk hc1 (by simp)
      have Hv := Lib.hid (((H.out.each v hvL).at_).below hb1)
      have Hrg1 := Lib.hid hX.rng
      have Hb1 := Lib.hid hb1
      have HvL := Lib.hid hvL
      have hlen := canon_few (H.out.may v hvL).canon
      have Hvd := Lib.hid hvd
      have z3 := heap_lt x3
      clear hX hc1 hb1 hvL hvd
      have X3 := Lib.hid x3
      have d3 := cells_at x3
      clear x3
      obtain ⟨⟨⟨⟨r1, i1⟩, s1⟩, ps1, uu1, t1, ⟨k1, n1, x1, p1, ds1⟩⟩, qa1, qc1, ua1, uc1, pa1, pc1, da1, dc1⟩ := v
      simp only [cwv, cwcells] at hen ⊢
      have hA : Below w3.heap.size w3 (w3.alloc (.cells (ccells r1 i1 s1 qa1 ps1.length qc1 ua1 uu1.length uc1 t1 k1 pa1 p1.length pc1 n1 x1 da1 ds1.length dc1) 54)) := (Below.refl _ _).alloc (Nat.le_refl _) _
      have HA := Lib.hid hA
      have EA := Lib.hid (show BoxE 49 w (w3.alloc (.cells (ccells r1 i1 s1 qa1 ps1.length qc1 ua1 uu1.length uc1 t1 k1 pa1 p1.length pc1 n1 x1 da1 ds1.length dc1) 54)) #[.int .u8 r, .int .u32 i, .int .u64 s] from BoxE.step ⟨X3.out, Hb1.out⟩ hA)
      dsimp only at hlen
      clear hA
      cases hq : eqD ((r1, i1), s1) ((r, i), s) with
      | true =>
        have Hno := Lib.hid (show behind1 ⟨((r1, i1), s1), ps1, uu1, t1, ⟨k1, n1, x1, p1, ds1⟩⟩ ((r, i), s) = false by simp [behind1, hq])
        have Hrg2 := Lib.hid (Hrg1.out.alloc (.cells (ccells r1 i1 s1 qa1 ps1.length qc1 ua1 uu1.length uc1 t1 k1 pa1 p1.length pc1 n1 x1 da1 ds1.length dc1) 54))
        go_wp2_with fail
        go_roundw
        case rel => exact ⟨_, cnt1, Hrg2.out, next_left H.out.nodup Hle.out HvL.out Hvd.out Hno.out, EA.out⟩
        case measure => rw [Hrg2.out.left_eq, Hrg.out.left_eq]; exact hlt1
      | false =>
        have He := Lib.hid (show behind1 ⟨((r1, i1), s1), ps1, uu1, t1, ⟨k1, n1, x1, p1, ds1⟩⟩ ((r, i), s) = hasV uu1 ((r, i), s) by simp [behind1, hq])
        go_wp2_with fail
        refine (has_any ua1 uc1 uu1 r i s _ (Hv.out.vv.below HA.out) (by omega) Hv.out.ok.vv hd.1).mono ?_
        rintro e w4 ⟨rfl, hb4⟩
        have E4 := Lib.hid (EA.out.step hb4)
        have Hrg2 := Lib.hid ((Hrg1.out.alloc (.cells (ccells r1 i1 s1 qa1 ps1.length qc1 ua1 uu1.length uc1 t1 k1 pa1 p1.length pc1 n1 x1 da1 ds1.length dc1) 54)).chg (F := []) (Chg.of_below hb4) (by simp) (by simp))
        clear hb4 d3
        cases hh : hasV uu1 ((r, i), s) with
        | true =>
          have Hy := Lib.hid (show behindB (cms L) ((r, i), s) = true from behind_yes HvL.out (by rw [He.out, hh]))
          go_wp2_with fail
          go_ret
          exact ⟨by rw [Hy.out]; rfl, E4.out.bel⟩
        | false =>
          have Hno := Lib.hid (show behind1 ⟨((r1, i1), s1), ps1, uu1, t1, ⟨k1, n1, x1, p1, ds1⟩⟩ ((r, i), s) = false by rw [He.out, hh])
          go_wp2_with fail
          go_roundw
          case rel => exact ⟨_, cnt1, Hrg2.out, next_left H.out.nodup Hle.out HvL.out Hvd.out Hno.out, E4.out⟩
          case measure => rw [Hrg2.out.left_eq, Hrg.out.left_eq]; exact hlt1
theorem keysD_any (mb : Nat) (w : World) : Calls Tryz.prog 74 #[.map (some mb)] w fun e w' =>
    e = .returned (.func (.func 132) #[] #[.pointer (some ⟨w.heap.size, 0, none⟩)]) ∧ w' = w.alloc (.cells #[.map (some mb)] 116) := by
  go_enter Tryz.func74, Tryz.ntmps74
  go_wp2_with fail
  go_ret
  exact ⟨rfl, rfl⟩
/-- the heads of commits above some tips -/
def HeadsP (tips : List Dt) (L : List Cm) (Hl : List Dt) : Prop := Hl.Pairwise ltD ∧ ∀ d, d ∈ Hl ↔ (d ∈ tips ∨ ∃ c ∈ L, c.d = d) ∧ behindB L d = false
def HeadsTo (w : World) (tips : List Dt) (L : List Cm) (e : Ending) (w' : World) : Prop :=
  ∃ a c Hl, e = .returned (.slice a (List.length Hl) c) ∧ HeadsP tips L Hl ∧ okV Hl ∧ Hl.length ≤ 100200 ∧ OwnD w' w.heap.size a c Hl ∧ Below w.heap.size w w'
theorem strict_of {l : List Dt} (h : l.Pairwise fun x y => lessD y x = false) (hn : l.Nodup) : l.Pairwise ltD := by
  refine (h.and hn).imp ?_
  rintro a b ⟨h1, h2⟩
  rcases lessD_total h2 with h3 | h3
  · exact h3
  · rw [h3] at h1; cases h1
theorem heads_of {tips : List Dt} {L : List Cw} {F : List Dt} {ss l : List Dt} (hk : KeysInD (fvW L) L.length ss) (ht : tips.Pairwise ltD) (hw : ∀ d ∈ tips, hasV F d = true) (ho : ∀ v ∈ L, hasV F v.c.d = false) (hd : ∀ v ∈ L, okD v.c.d)
    (hp : l.Perm (keepP (behindB (cms L)) (ss ++ tips))) (hs : l.Pairwise fun x y => lessD y x = false) (hn : ((cms L).map (·.d)).Nodup) : HeadsP tips (cms L) l := by
  obtain ⟨k1, k2, k3, k4⟩ := hk
  have hmem : ∀ d, d ∈ ss ↔ ∃ c ∈ cms L, c.d = d := fun d => by
    constructor
    · intro h
      have h2 := (k4 d (k3 d h)).1 h
      cases hf : fvW L d with
      | none => rw [hf] at h2; cases h2
      | some x =>
        obtain ⟨v, hv, hvd, _⟩ := fvW_some hf
        exact ⟨v.c, List.mem_map.2 ⟨v, hv, rfl⟩, hvd⟩
    · rintro ⟨c, hc, rfl⟩
      obtain ⟨v, hv, rfl⟩ := List.mem_map.1 hc
      refine (k4 _ (hd v hv)).2 ?_
      unfold fvW
      rw [fvW_mem hn hv]; rfl
  have hnd : (ss ++ tips).Nodup := by
    refine List.nodup_append.2 ⟨k2, ht.imp (fun {a b} h e => by subst e; exact ltD_irrefl _ h), fun a ha b hb e => ?_⟩
    subst e
    obtain ⟨c, hc, hcd⟩ := (hmem a).1 ha
    obtain ⟨v, hv, rfl⟩ := List.mem_map.1 hc
    have h1 := ho v hv
    rw [hcd, hw a hb] at h1
    cases h1
  refine ⟨strict_of hs (hp.nodup_iff.2 (hnd.filter _)), fun d => ?_⟩
  rw [hp.mem_iff]
  unfold keepP
  rw [List.mem_filter, List.mem_append, hmem]
  simp only [Bool.not_eq_true', or_comm]
set_option maxRecDepth 100000 in
set_option maxHeartbeats 8000000 in
theorem heads_G (pg mb : Nat) (w0 : World) (m : Nat) (b : Bw) (L : List Cw) (va : Option Addr) (vc : Nat) (vv : List Dt) (w : World) (h : GrAt w pg mb w0 m b L va vc vv) :
    Calls Tryz.prog 25 #[.pointer (some ⟨pg, 0, none⟩)] w (HeadsTo w b.b.tips (cms L)) := by
  have H := Lib.hid h
  have hpg := heap_lt h.blk
  have g0 := cells_at h.blk
  simp only [gcells] at g0
  have hB : Below w.heap.size w (w.alloc (.cells #[.pointer (some ⟨pg, 0, none⟩)] 56)) := (Below.refl _ _).alloc (Nat.le_refl _) _
  have HB := Lib.hid hB
  have hemb := enters_of Tryz.func70 (by kernel_rfl) rfl
  clear h hB
  go_enter Tryz.func25, Tryz.ntmps25
  go_wp2_with fail
  refine (none_some pg mb _ (H.out.below HB.out).c5).mono ?_
  rintro e w1 ⟨rfl, rfl⟩
  go_wp2_with fail
  refine region_text [([0, 1, 2, 3, 6, 7, 8, 9, 10, 12], false), ([4], true), ([5], true), ([11, 13, 14], false)] mixed (by kernel_rfl) ?_
  simp only [wpSegs, List.map_cons, List.map_nil, List.getD_cons_succ, List.getD_cons_zero]
  go_wp2_with fail
  refine (keysD_any mb _).mono ?_
  rintro e w2 ⟨rfl, hw2⟩
  have hX2 : Below (w.alloc (.cells #[.pointer (some ⟨pg, 0, none⟩)] 56)).drew.heap.size (w.alloc (.cells #[.pointer (some ⟨pg, 0, none⟩)] 56)).drew w2 := by rw [hw2]; exact (Below.refl _ _).alloc (Nat.le_refl _) _
  have hm2 : w2.heap[w.heap.size + 1]? = some (.cells #[.map (some mb)] 116 (0, 0)) := by rw [hw2]; exact heap_new2 _ _ _
  have b2 := (new1 (((Below.refl _ _).drew).trans hX2))
  have HX2 := Lib.hid hX2
  have HM2 := Lib.hid hm2
  have HG2 := Lib.hid b2.1
  have HB2 := Lib.hid b2.2.2
  have hz2 := b2.2.1
  clear hX2 hm2 b2 hw2
  go_wp2_with fail
  refine And.intro (Agree.of_below HX2.out) ?_
  go_wp2_with fail
  refine (collectD_keys (w.heap.size + 1) mb L.length (fvW L) w2 HM2.out ((H.out.below HB2.out).map.mapF) (by have := H.out.max; omega)).mono ?_
  rintro e w3 ⟨a3, c3, ss, rfl, hks, hown3, hb3⟩
  have HK := Lib.hid hks
  have hk1 := hks.1
  have O3 := Lib.hid (show OwnD w3 (w.heap.size + 1) a3 c3 ss from owns_base hown3 hz2)
  have Hb3 := Lib.hid hb3
  have HB3 := Lib.hid (below2 HB2.out hb3 HB2.out.size)
  have hz3 : w.heap.size + 1 ≤ w3.heap.size := by have := hb3.size; omega
  have HG3 := Lib.hid ((hb3.block _ (heap_lt HG2.out)).trans HG2.out)
  have hmax := H.out.max
  have htm := H.out.tmax
  clear hks hown3 hb3 HX2 HM2 HG2
  go_wp2_with fail
  refine And.intro (Agree.of_below Hb3.out) ?_
  go_wp2_with (at_builtin; go_must (refine wpList_appD rfl _ _ rfl (w.heap.size + 1) a3 c3 ss rfl O3.out b.ta b.tc b.b.tips rfl (((H.out.base.tips).below H.out.bel).below HB3.out) ?n1 ?b1 ?_))
  case n1 => omega
  case b1 => exact hz3
  intro v4 a4 c4 w4 hv4 ho4 hb4 hch4
  have HB4 := Lib.hid (HB3.out.trans (hb4.mono (Nat.le_succ _)))
  have HG4 := Lib.hid ((hb4.block w.heap.size (Nat.lt_succ_self _)).trans HG3.out)
  have O4 := Lib.hid ho4
  have Hv4 := Lib.hid hv4
  have hl4 : v4.length ≤ 100200 := by rw [hv4, List.length_append]; omega
  have hok4 : ∀ d ∈ v4, okD d := by
    intro d hd
    rw [hv4] at hd
    rcases List.mem_append.1 hd with hd | hd
    · exact HK.out.2.2.1 d hd
    · exact H.out.base.okt d hd
  have Hok4 := Lib.hid hok4
  clear hv4 ho4 hb4 hch4 hok4 Hb3 HG3
  have key : ∀ r i s, ((r, i), s) ∈ v4 → ∀ W, Chg (ob a4) w4 W → Calls Tryz.prog 70 (#[.agg #[.int .u8 r, .int .u32 i, .int .u64 s]] ++ #[.pointer (some ⟨w.heap.size, 0, none⟩)]) W (fun e W' => e = .returned (.bool (behindB (cms L) ((r, i), s))) ∧ Below W.heap.size W W') := by
    intro r i s hd W hW
    have hge := fun k hk => (owns_lt O4.out k hk).1
    have hW1 : Below (w.heap.size + 1) w4 W := hW.below (heap_lt HG4.out |> fun h => by omega) hge
    exact behind_any pg mb w0 m b L va vc vv w.heap.size r i s W (H.out.below (HB4.out.trans (hW1.mono (Nat.le_succ _)))) (by rw [cells_at ((hW1.block _ (Nat.lt_succ_self _)).trans HG4.out)]; rfl) (Hok4.out _ hd)
  have Key := Lib.hid key
  clear key
  go_wp2_with fail
  refine (deleteD_fn 70 #[.pointer (some ⟨w.heap.size, 0, none⟩)] (behindB (cms L)) a4 c4 (w.heap.size + 1) v4 _ O4.out (by omega) hemb Key.out).mono ?_
  rintro e w5 ⟨v5, rfl, hv5, ho5, hc5⟩
  have O5 := Lib.hid ho5
  have Hv5 := Lib.hid hv5
  have hl5 : v5.length ≤ 100200 := by rw [hv5]; exact Nat.le_trans (List.length_filter_le _ _) hl4
  have HB5 := Lib.hid (HB4.out.trans ((hc5.below (by have := heap_lt HG4.out; omega) (fun k hk => (owns_lt O4.out k hk).1)).mono (Nat.le_succ _)))
  have hz5 : w.heap.size + 1 ≤ w5.heap.size := by have := heap_lt HG4.out; have := hc5.size; omega
  clear hv5 ho5 hc5 Key
  go_wp2_with fail
  refine And.intro (by kernel_rfl) ?_
  go_wp2_with fail
  refine (sortD_any a4 c4 (w.heap.size + 1) v5 _ O5.out (by omega)).mono ?_
  rintro e w6 ⟨rfl, v6, hl6, hp6, hs6, ho6, hc6⟩
  have O6 := Lib.hid ho6
  have HP6 := Lib.hid (show HeadsP b.b.tips (cms L) v6 from heads_of HK.out H.out.bp.rise H.out.bp.within H.out.out (fun v hv => (H.out.each v hv).ok.d) (by rw [← Hv4.out, ← Hv5.out]; exact hp6) hs6 H.out.nodup)
  have HB6 := Lib.hid (HB5.out.trans ((hc6.below (hz5) (fun k hk => (owns_lt O5.out k hk).1)).mono (Nat.le_succ _)))
  have Hok6 := Lib.hid (show okV v6 from fun d hd => Hok4.out d (by have h1 := hp6.mem_iff.1 hd; rw [Hv5.out] at h1; exact (List.mem_filter.1 h1).1))
  have Hl6 := Lib.hid hl6
  clear ho6 hc6 hp6 hs6
  go_wp2_with fail
  go_ret
  exact ⟨a4, c4, v6, by rw [Hl6.out]; rfl, HP6.out, Hok6.out, by rw [Hl6.out]; exact hl5, O6.out.base (Nat.le_succ _), HB6.out⟩
/-- the greatest time -/
def TimeP (t0 : Int) (L : List Cm) (n : Int) : Prop := t0 ≤ n ∧ (∀ c ∈ L, c.t ≤ n) ∧ (n = t0 ∨ ∃ c ∈ L, c.t = n)
set_option maxRecDepth 100000 in
set_option maxHeartbeats 8000000 in
theorem time_G (pg mb : Nat) (w0 : World) (m : Nat) (b : Bw) (L : List Cw) (va : Option Addr) (vc : Nat) (vv : List Dt) (w : World) (h : GrAt w pg mb w0 m b L va vc vv) :
    Calls Tryz.prog 27 #[.pointer (some ⟨pg, 0, none⟩)] w fun e w' => ∃ n, e = .returned (.int .u64 n) ∧ TimeP b.b.t (cms L) n ∧ Below w.heap.size w w' := by
  have H := Lib.hid h
  have g0 := cells_at h.blk
  simp only [gcells] at g0
  have HM := Lib.hid (h.map.mapF)
  have hc5 := h.c5
  clear h
  go_enter Tryz.func27, Tryz.ntmps27
  go_wp2_with fail
  refine (none_some pg mb _ hc5).mono ?_
  rintro e w1 ⟨rfl, rfl⟩
  go_wp2_with (at_range; go_must (refine wpList_range_F keysD rfl _ _ rfl _ Tryz.underlying116 mb L.length (fvW L) rfl HM.out ?_))
  intro wa cnt0 hrg0 hcn0 hg0 hs0
  have hb0 : Below w1.heap.size w1 wa := (Below.refl _ _).grown hg0 (Nat.le_refl _) (by simp)
  have B0 := Lib.hid hb0
  have Hrg0 := Lib.hid hrg0
  clear hg0 hs0 hb0 hrg0 g0 hc5
  go_wp2_with fail
  go_loopw [3, 5] (fun tv _ wr => ∃ (n : Int) (left : Dt → Bool) (cnt : Nat), tv = .int .u64 n ∧ RangeF wr Tryz.prog 49 mkD mb w1.heap.size L.length (fvW L) left cnt ∧ (∀ v ∈ L, left v.c.d = false → v.c.t ≤ n) ∧ b.b.t ≤ n ∧ (n = b.b.t ∨ ∃ c ∈ cms L, c.t = n) ∧ Below w1.heap.size w1 wr) (fun _ _ wr => wr.rangeLeft mb w1.heap.size)
  case atStart =>
    refine ⟨_, _, cnt0, rfl, Hrg0.out, fun v hv hl => ?_, Int.le_refl _, .inl rfl, B0.out⟩
    have : fvW L v.c.d = some (cwv v) := by unfold fvW; rw [fvW_mem H.out.nodup hv]; rfl
    rw [this] at hl; cases hl
  case round =>
    obtain ⟨n, left, cnt, rfl, hrg, hle, hn1, hn2, hb⟩ := hrel
    have Hrg := Lib.hid hrg
    have Hle := Lib.hid hle
    have B := Lib.hid hb
    have hsz := hb.size
    have Hn2 := Lib.hid hn2
    have Hn1 := Lib.hid hn1
    clear hle hb B0 Hrg0 hcn0 hn2 hn1
    go_wp2_with (at_next; go_must (refine wpList_next_D rfl _ rfl _ _ _ _ _ _ rfl hrg ?_ ?_))
    · intro hl
      clear hrg
      have HT := Lib.hid (show TimeP b.b.t (cms L) n from ⟨Hn1.out, fun c hc => by obtain ⟨v, hv, rfl⟩ := List.mem_map.1 hc; exact Hle.out v hv (hl _ (H.out.each v hv).ok.d), Hn2.out⟩)
      clear hl
      go_wp2_with fail
      go_ret
      exact ⟨n, rfl, HT.out, B.out⟩
    · intro rr ii qq xv w3 cnt1 hX hen
      clear hrg
      have hlt1 := hX.lt
      obtain ⟨v, hvL, hvd, rfl⟩ := fvW_some hX.val
      have hc1 := Chg.grown hX.grown
      simp only [Option.toList_some] at hc1
      have hb1 : Below w1.heap.size w1 w3 := B.out.trans (hc1.below hsz (by simp))
      have Hrg1 := Lib.hid hX.rng
      have Hb1 := Lib.hid hb1
      have HvL := Lib.hid hvL
      have Hvd := Lib.hid hvd
      clear hX hc1 hb1 hvL hvd
      obtain ⟨⟨⟨⟨r1, i1⟩, s1⟩, ps1, uu1, t1, ⟨k1, n1, x1, p1, ds1⟩⟩, qa1, qc1, ua1, uc1, pa1, pc1, da1, dc1⟩ := v
      simp only [cwv, cwcells] at hen ⊢
      have Hrg2 := Lib.hid (Hrg1.out.alloc (.cells (ccells r1 i1 s1 qa1 ps1.length qc1 ua1 uu1.length uc1 t1 k1 pa1 p1.length pc1 n1 x1 da1 ds1.length dc1) 54))
      have B2 := Lib.hid (Hb1.out.alloc Hb1.out.size (.cells (ccells r1 i1 s1 qa1 ps1.length qc1 ua1 uu1.length uc1 t1 k1 pa1 p1.length pc1 n1 x1 da1 ds1.length dc1) 54))
      have hT1 := next_left H.out.nodup (P := fun u => u.c.t ≤ max n t1) (fun u hu hl => by have := Hle.out u hu hl; omega) HvL.out Hvd.out (by dsimp only; omega)
      have HT1 := Lib.hid hT1
      have HT2 := Lib.hid (show max n t1 = b.b.t ∨ ∃ c ∈ cms L, c.t = max n t1 from by
        rcases Int.le_total n t1 with h | h
        · right; exact ⟨_, List.mem_map.2 ⟨_, HvL.out, rfl⟩, by dsimp only; omega⟩
        · rcases Hn2.out with h2 | ⟨c, hc, h2⟩
          · left; omega
          · right; exact ⟨c, hc, by omega⟩)
      clear hT1
      go_wp2_with fail
      exact ⟨⟨max n t1, _, cnt1, rfl, Hrg2.out, HT1.out, by have := Hn1.out; omega, HT2.out, B2.out⟩, by rw [Hrg2.out.left_eq, Hrg.out.left_eq]; exact hlt1⟩
theorem held_new {w w' : World} {q : Nat} {C : Array Value} {t : TypeId} {fr : Nat × Nat} (h : w.heap[q]? = some (.cells C t fr)) (h' : w'.heap[q]? = some (.cells C t fr)) : Held (fun k => k = q) w w' := by
  refine .inr fun k o hk ho => ?_
  have hk : k = q := hk
  subst hk
  rw [h] at ho
  have ho := Option.some.inj ho
  subst ho
  exact ⟨fun at_ u e => (by cases e), h'⟩
attribute [local go_sem] Oper.semAt_some

/-! sorting nothing -/
/-! sorting commits -/
theorem wpList_store_cw {ops : Array Oper} {rest : List Oper} {op : Oper} {a : Act} {w : World} {Q : Exit → Act → World → Prop} (hgd : op.guard = none) (x y : Operand) (ho : op.op = .store 54 x y)
    (g o : Nat) (v : Cw) (hx : a.eval x = .pointer (some ⟨g, o, none⟩)) (hy : a.eval y = .agg (cwcells v)) (ht : w.there g o 11) (h : wpList Tryz.prog ops Q rest (a.put op.dst undef) (w.setCells g o (ccel v))) : wpList Tryz.prog ops Q (op :: rest) a w :=
  wpList_store_mid hgd _ x y ho g o (cwcells v) hx hy ht (by kernel_rfl) (Array.all_eq_true_iff_forall_mem.2 fun u hu => ccel_one v u (by simpa [ccel] using hu)) h
/-- a vector's copy -/
def VVTo (w : World) (vv : List Dt) (e : Ending) (w' : World) : Prop := ∃ a c, e = .returned (.slice a vv.length c) ∧ OwnD w' w.heap.size a c vv ∧ Below w.heap.size w w'
set_option maxRecDepth 100000 in
set_option maxHeartbeats 4000000 in
theorem vv_G (pg mb : Nat) (w0 : World) (m : Nat) (b : Bw) (L : List Cw) (va : Option Addr) (vc : Nat) (vv : List Dt) (w : World) (h : GrAt w pg mb w0 m b L va vc vv) :
    Calls Tryz.prog 24 #[.pointer (some ⟨pg, 0, none⟩)] w (VVTo w vv) := by
  have H := Lib.hid h
  have hpg := heap_lt h.blk
  have g0 := cells_at h.blk
  simp only [gcells] at g0
  clear h
  go_enter Tryz.func24, Tryz.ntmps24
  go_wp2_with fail
  refine (none_some pg mb _ H.out.c5).mono ?_
  rintro e w1 ⟨rfl, rfl⟩
  go_wp2_with fail
  refine (cloneV_any va vc vv _ (OwnD.vec H.out.own) (by have := H.out.vmax; omega)).mono ?_
  rintro e w2 ⟨a, c, v2, rfl, hv2, ho, hb⟩
  subst hv2
  have HO := Lib.hid ho
  have HB := Lib.hid hb
  clear ho hb
  go_wp2_with fail
  go_ret
  exact ⟨a, c, rfl, HO.out, HB.out⟩

/-- a block with a commit is a row of one -/
theorem own1_of {w : World} {g : Nat} {v : Cw} (h : w.heap[g]? = some (.cells (cwcells v) 54 (0, 0))) : OwnC w 0 (some ⟨g, 0, none⟩) 1 [v] :=
  ⟨by rw [ccs_length], .inr ⟨g, 1, cwcells v, rfl, Nat.zero_le _, h, Nat.le_refl _, by decide, rfl, by simp [ccs, ccel]⟩⟩
theorem own1_blk {w : World} {g : Nat} {v : Cw} (h : OwnC w 0 (some ⟨g, 0, none⟩) 1 [v]) : w.heap[g]? = some (.cells (cwcells v) 54 (0, 0)) := by
  rcases h.2 with ⟨h1, _⟩ | ⟨g', cap, cur, h1, _, hg, _, _, hs, ht⟩
  · simp at h1
  · simp only [Value.slice.injEq, Option.some.injEq, Addr.mk.injEq, and_true, true_and] at h1
    obtain ⟨rfl, _, rfl⟩ := h1
    rw [hg]
    have : cur.toList = (cwcells v).toList := by
      rw [← List.take_of_length_le (l := cur.toList) (i := [v].length * 11) (by rw [Array.length_toList, hs]; exact Nat.le_refl _), ht]
      simp [ccs, ccel]
    rw [Array.toList_inj.1 this]
theorem put1 {w : World} {g : Nat} {v : Cw} (u : Cw) (h : w.heap[g]? = some (.cells (cwcells v) 54 (0, 0))) :
    (w.setCells g 0 (ccel u)).heap[g]? = some (.cells (cwcells u) 54 (0, 0)) ∧ Chg [g] w (w.setCells g 0 (ccel u)) := by
  have h1 := OwnC.put (q := 0) u (own1_of h) (by simp)
  simp only [Nat.zero_mul, List.set_cons_zero] at h1
  exact ⟨own1_blk h1.1, h1.2⟩
theorem there1 {w : World} {g : Nat} {v : Cw} (h : w.heap[g]? = some (.cells (cwcells v) 54 (0, 0))) : w.there g 0 11 := by
  have := OwnC.there (q := 0) (own1_of h) (v := v) rfl
  simpa using this
/-- one commit more: its block alone is apart -/
theorem SubC.one {T S : List Cm} (h : SubC T S) (mo : Int → Cm → Int) {c : Cm} (hc : c ∈ S) (hn : c ∉ T) (ho : ∀ x ∈ S, x = c ∨ x ∈ T) : ∃ g, apartL (digs mo S) (digs mo T) = [g] ∧ g.a = c.d.1 ∧ g.up = c.d.2 := by
  have I := digs_inv mo h.ss
  obtain ⟨g, hg, hk⟩ := I.cover c hc
  obtain ⟨g1, g2⟩ := I.each g hg
  have hB := blk_sorted h.ss (keyG g)
  obtain ⟨b, l, b1, b2, b3, b4⟩ := head_last g1
  rw [digB_of b1 b2] at g2
  have hcB : c ∈ blkC S (keyG g) := mem_blk.2 ⟨hc, hk.symm⟩
  have hlc : c = l := by
    rcases high_last hB b2 hcB with h1 | h1
    · exact h1
    · have ha : c.d.1 = l.d.1 := by
        have h3 := congrArg Prod.fst ((mem_blk.1 hcB).2.trans (mem_blk.1 b4).2.symm)
        exact h3
      have h2 := ltD_seq h1 ha
      rcases ho l (mem_blk.1 b4).1 with h3 | h3
      · exact h3.symm
      · have := h.late c hc hn l h3 ha.symm
        omega
  refine ⟨g, ?_, ?_, by rw [g2, hlc]⟩
  · rw [h.apart1]
    refine rising_ext (lt := fun g h : Dg => ltD (keyG g) (keyG h)) (fun a => ltD_irrefl _) (fun h k => ltD_trans h k) (I.rise.sublist List.filter_sublist) (List.pairwise_singleton _ _) fun x => ?_
    rw [List.mem_filter, List.mem_singleton]
    constructor
    · rintro ⟨hx, hs⟩
      have hs2 : ¬ sameIn (digs mo T) x = true := by simpa using hs
      rw [h.same_iff mo hx] at hs2
      have : ∃ y ∈ S, keyC y = keyG x ∧ y ∉ T := by
        refine Classical.byContradiction fun hh => hs2 fun y hy hyk => Classical.byContradiction fun hyt => hh ⟨y, hy, hyk, hyt⟩
      obtain ⟨y, hy, hyk, hyt⟩ := this
      rcases ho y hy with rfl | h1
      · exact rise_inj I.rise hx hg (hyk.symm.trans hk.symm)
      · exact absurd h1 hyt
    · rintro rfl
      refine ⟨hg, ?_⟩
      have : ¬ sameIn (digs mo T) x = true := by
        rw [h.same_iff mo hg]
        exact fun hall => hn (hall c hc hk.symm)
      simpa using this
  · have h3 := congrArg Prod.fst hk
    exact h3
/-! digests, blocks held against each other -/
/-! sorting digests -/
/-! sorting commits by their dots -/
theorem listN2a {cs : List Value} (h : cs.length = 2) : ∃ a b, cs = [a, b] := by
  match cs, h with
  | [a, b], _ => exact ⟨a, b, rfl⟩
section
variable {H : Type} {enc : TypeId × Value → H} {w : World} {base : Nat} {spare : Nat → Bool} {held : Bool}
theorem rd_act {n : Nat} {cs : List Value} {x : DataW H × List MemPlace} (h : DataW.trod enc Tryz.prog w base spare held n 24 cs = some x) : ∃ a : Ac, cs = [.int .u8 a.1, .int .u32 a.2] ∧ okA a := by
  obtain ⟨xs, m, _, _, hl, hxl, hf⟩ := DataW.trod_struct Tryz.underlying24 h
  have hc : Tryz.prog.cellsOf 24 = 2 := by kernel_rfl
  obtain ⟨c0, c1, rfl⟩ := listN2a (hl.trans hc)
  have hxs : xs.length = 2 := hxl
  have e1 : Tryz.prog.cellsOf 5 = 1 := by kernel_rfl
  have e2 : Tryz.prog.cellsOf 22 = 1 := by kernel_rfl
  have h0 : DataW.trod enc Tryz.prog w base spare held m 5 ((List.drop 0 [c0, c1]).take (Tryz.prog.cellsOf 5)) = xs[0]? := hf 0 _ rfl
  have h1 : DataW.trod enc Tryz.prog w base spare held m 22 ((List.drop 1 [c0, c1]).take (Tryz.prog.cellsOf 22)) = xs[1]? := hf 1 _ rfl
  rw [List.getElem?_eq_getElem (by omega)] at h0 h1
  simp only [e1, e2, List.drop_zero, List.drop_succ_cons, List.take_succ_cons, List.take_zero] at h0 h1
  obtain ⟨k0, hk0, _, w0⟩ := DataW.trod_int Tryz.underlying5 h0
  obtain ⟨k1, hk1, _, w1⟩ := DataW.trod_int Tryz.underlying22 h1
  simp only [List.cons.injEq, and_true] at hk0 hk1
  subst hk0 hk1
  exact ⟨(k0, k1), rfl, (wf8 k0).1 w0, (wf32 k1).1 w1⟩
end
end Go.Proofs.YtaandcblndldmaaGreat
