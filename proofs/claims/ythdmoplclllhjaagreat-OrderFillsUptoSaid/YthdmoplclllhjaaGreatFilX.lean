/- What OrderFills needs besides: rows of dots sorted, a graph filled in order, the walk. -/
import Derived.Test.YthdmoplclllhjaaGreatBase
import Derived.Test.YthdmoplclllhjaaGreatDotP
import Derived.Test.YthdmoplclllhjaaGreatVec1
import Derived.Test.YthdmoplclllhjaaGreatSortK
import Derived.Test.YthdmoplclllhjaaGreatShelf
import Derived.Test.YthdmoplclllhjaaGreatVec2
import Derived.Test.YthdmoplclllhjaaGreatVec3
import Derived.Test.YthdmoplclllhjaaGreatVec4
import Derived.Test.YthdmoplclllhjaaGreatLeafP
import Derived.Test.YthdmoplclllhjaaGreatSeen
import Derived.Test.YthdmoplclllhjaaGreatLeafA
import Derived.Test.YthdmoplclllhjaaGreatLfOpen
import Derived.Test.YthdmoplclllhjaaGreatThreeP
import Derived.Test.YthdmoplclllhjaaGreatEvA
import Derived.Test.YthdmoplclllhjaaGreatRefLA
import Derived.Test.YthdmoplclllhjaaGreatMayB
import Derived.Test.YthdmoplclllhjaaGreatShelfS
import Derived.Test.YthdmoplclllhjaaGreatMayC
import Derived.Test.YthdmoplclllhjaaGreatMayE
import Derived.Test.YthdmoplclllhjaaGreatBatA
import Derived.Test.YthdmoplclllhjaaGreatComP
import Derived.Test.YthdmoplclllhjaaGreatMeanT
import Derived.Test.YthdmoplclllhjaaGreatFuseA
import Derived.Test.YthdmoplclllhjaaGreatROpA
import Derived.Test.YthdmoplclllhjaaGreatMeanW
import Derived.Test.YthdmoplclllhjaaGreatFuseG
import Derived.Test.YthdmoplclllhjaaGreatAqA
import Derived.Test.YthdmoplclllhjaaGreatBatC
import Derived.Test.YthdmoplclllhjaaGreatMeanY
import Derived.Test.YthdmoplclllhjaaGreatOwtB
import Derived.Test.YthdmoplclllhjaaGreatGraA
import Derived.Test.YthdmoplclllhjaaGreatTreM
import Derived.Test.YthdmoplclllhjaaGreatGraP
import Derived.Test.YthdmoplclllhjaaGreatGraC
import Derived.Test.YthdmoplclllhjaaGreatGraM
import Derived.Test.YthdmoplclllhjaaGreatBasA
import Derived.Test.YthdmoplclllhjaaGreatGraQ
import Derived.Test.YthdmoplclllhjaaGreatGraV
import Derived.Test.YthdmoplclllhjaaGreatWidB
import Derived.Test.YthdmoplclllhjaaGreatHistP
import Derived.Test.YthdmoplclllhjaaGreatRMbA
import Derived.Test.YthdmoplclllhjaaGreatRgA
import Derived.Test.YthdmoplclllhjaaGreatRgE
import Derived.Test.YthdmoplclllhjaaGreatRegO
import Derived.Test.YthdmoplclllhjaaGreatBasB
import Derived.Test.YthdmoplclllhjaaGreatBothA
import Derived.Test.YthdmoplclllhjaaGreatWitA
import Derived.Test.YthdmoplclllhjaaGreatHeaD
import Derived.Test.YthdmoplclllhjaaGreatLevC
import Derived.Test.YthdmoplclllhjaaGreatChnD
import Derived.Test.YthdmoplclllhjaaGreatHeaF
import Derived.Test.YthdmoplclllhjaaGreatKno15
import Derived.Test.YthdmoplclllhjaaGreatLwA
import Derived.Test.YthdmoplclllhjaaGreatLwL
import Derived.BigQuiet
import Derived.ChangeSame
import Derived.Deep.AppendLies
import Derived.Deep.CutBlock
import Derived.Deep.DeepCutAuto
import Derived.Deep.DeepFit
import Derived.Deep.LoopGhost
import Derived.Deep.MidRow
import Derived.Deep.QuietTactic
import Derived.Deep.RegionHeld3
import Derived.Deep.RegionWith
import Derived.Deep.Slices
import Derived.Laws.AppendOwnNone
import Derived.Laws.BytesString
import Derived.Laws.IdiomStrings
import Derived.Laws.OwnMore
import Derived.Lib.Hide
import Derived.Lib.SliceRun
import Derived.OpenShut
import Derived.OrdersHeld
import Derived.Outline
import Derived.OwnWalk
import Derived.ProofKit
import Derived.StillTailTactics
import Derived.WalkKit
import Derived.WalkLawsBesides
import Derived.WalkSpells
namespace Go.Proofs.YthdmoplclllhjaaGreat
open Go.RowKit
set_option linter.unusedVariables false
set_option linter.unusedSimpArgs false


theorem u8_of_wf {n : Int} (h : (Lit.int .u8 n).wf = true) : ∃ b : UInt8, n = (b.toNat : Int) := by
  have hh : 0 ≤ n ∧ n ≤ 255 := by simpa [Lit.wf, IntKind.min, IntKind.max, IntKind.signed, IntKind.bits] using h
  refine ⟨UInt8.ofNat n.toNat, ?_⟩
  rw [UInt8.toNat_ofNat']
  omega

/-! parts of slices -/
theorem dcell_len (d : Dt) : (dcell d).length = 3 := rfl
theorem Vec.cap {w : World} {a : Option Addr} {c : Nat} {v : List Dt} (h : Vec w a c v) : v.length ≤ c := h.2.1
section
open Go.Shelf
/-! which is ahead, once more: blocks and draws came, nothing else -/
/-! sorting nothing -/
theorem insertionD_none (p : Option Addr) (cap : Nat) (fv : Value) (w : World) :
    Calls Tryz.prog 182 #[.slice p 0 cap, .int .i64 0, .int .i64 0, fv] w fun e w' => e = .returned (.tuple #[]) ∧ w' = w := by
  go_enter Tryz.func182, Tryz.ntmps182
  go_wp2
  refine wp_loop_rounds 1 ?_
  rw [rounds_succ]
  go_wp2
  go_end0
  exact ⟨rfl, rfl⟩
theorem pdqD_none (p : Option Addr) (cap : Nat) (lim : Int) (fv : Value) (w : World) :
    Calls Tryz.prog 153 #[.slice p 0 cap, .int .i64 0, .int .i64 0, .int .i64 lim, fv] w fun e w' => e = .returned (.tuple #[]) ∧ w' = w := by
  go_enter Tryz.func153, Tryz.ntmps153
  go_wp2
  refine wp_loop_rounds 1 ?_
  rw [rounds_succ]
  go_wp2_with (go_at_call 182; refine (insertionD_none _ _ _ _).mono ?_; rintro e w' ⟨rfl, rfl⟩)
  (try simp only [Exit.inBlock, Exit.then]); refine bodyPost_ret (results_none rfl _ _ _) rfl ?_
  exact ⟨rfl, rfl⟩
theorem sortD_none (p : Option Addr) (cap : Nat) (fv : Value) (w : World) :
    Calls Tryz.prog 95 #[.slice p 0 cap, fv] w fun e w' => e = .returned (.tuple #[]) ∧ w' = w := by
  go_enter Tryz.func95, Tryz.ntmps95
  go_wp2_with (first | (go_at_call 154; refine (bitsLen_zero _).mono ?_; rintro e w' ⟨rfl, rfl⟩) | (go_at_call 153; refine (pdqD_none _ _ _ _ _).mono ?_; rintro e w' ⟨rfl, rfl⟩))
  go_end0
  exact ⟨rfl, rfl⟩
/-! sorting dots -/
theorem swoD : Sort.SWO (ltOf cmpDD) where
  irrefl x := by rw [ltD_of]; exact lessD_irrefl x
  trans x y z h1 h2 := by rw [ltD_of] at *; exact lessD_trans h1 h2
  ntrans x y z h1 h2 := by
    rw [ltD_of] at *
    rw [← Bool.not_eq_true, lessD_iff] at *
    omega
theorem cmpLaysD (blk off size : Nat) (w : World) : CmpLays Tryz.prog 88 #[] dcell 3 cmpDD blk off size w :=
  fun _ _ _ _ x y => compareD_any x.1.1 x.1.2 x.2 y.1.1 y.1.2 y.2 _
theorem sortD_any (a : Option Addr) (c base : Nat) (l : List Dt) (w : World) (h : OwnD w base a c l) (hl : l.length ≤ 3000000) :
    Calls Tryz.prog 95 #[.slice a l.length c, .func (.func 88) #[] #[]] w fun e w' => e = .returned (.tuple #[]) ∧
      ∃ l', l'.length = l.length ∧ l'.Perm l ∧ l'.Pairwise (fun x y => lessD y x = false) ∧ OwnD w' base a c l' ∧ Chg (ob a) w w' := by
  by_cases h0 : l = []
  · subst h0
    exact (sortD_none a c _ w).mono fun e w' ⟨he, hw⟩ => ⟨he, [], rfl, .refl _, .nil, hw ▸ h, hw ▸ Chg.refl _ _⟩
  obtain ⟨blk, rfl⟩ : ∃ blk, a = some ⟨blk, 0, none⟩ := by
    rcases h.2 with ⟨h1, h2⟩ | ⟨g, cap, cur, h1, _⟩
    · simp at h1; exact absurd h1.2.1 h0
    · simp at h1; exact ⟨g, h1.1⟩
  obtain ⟨hH, hlt⟩ := holdsK_of dcell_len (by omega) h
  have hcon := AnyQ.slices_SortFunc Tryz.sortD 3 Tryz.isAgg41 Tryz.sizeOf41 dcell dcell_len (fun x v hv => by simp [dcell] at hv; rcases hv with rfl | rfl | rfl <;> rfl) cmpDD swoD 88 #[] blk 0 c l.toArray w (enters_of Tryz.func88 (by kernel_rfl) rfl) (cmpLaysD blk 0 _ w) hH hlt (by simp; omega)
  change Calls Tryz.prog 95 _ _ _ at hcon
  have e1 : l.toArray.size = l.length := by simp
  rw [e1] at hcon
  refine hcon.mono ?_
  rintro e w' ⟨rfl, d', n, os, hp, hs, rfl⟩
  have hperm : d'.toList.Perm l := by have := permIn_list (d := l.toArray) (by rw [e1]; exact hp); simpa using this
  have hlen : d'.toList.length = l.length := hperm.length_eq
  obtain ⟨h1, h2⟩ := sorted_owns (n := n) (os := os) dcell_len (by omega) hlen h
  refine ⟨rfl, d'.toList, hlen, hperm, ?_, ?_, by simpa [ob] using h2⟩
  · have := sortedIn_list (lt := ltOf cmpDD) (by rw [← hlen]; simp) hs
    refine this.imp fun {x y} hxy => ?_
    rwa [ltD_of] at hxy
  · unfold OwnD
    rw [hlen]
    simpa [dcells] using h1

/-! sorting items -/
/-- 'clear' of the end of a row: what stands ahead stays -/
theorem run_clearD {w : World} {base g n c : Nat} {v : List Dt} (h : OwnD w base (some ⟨g, 0, none⟩) c v) (ty : TypeId) (k : Nat) (hk : k ≤ v.length) :
    ∃ w', (Builtin.clear_ #[23] ty #[.slice (if c = k then some ⟨g, 0, none⟩ else some ⟨g, k * 3, none⟩) (v.length - k) (c - k)]).run Tryz.prog w = .ok (.tuple #[]) w' ∧ OwnD w' base (some ⟨g, 0, none⟩) c (v.take k) ∧ Chg [g] w w' := by
  have hc0 : v ≠ [] → c ≠ 0 := fun hv hc => by
    have h2 := h.2
    rcases h2 with ⟨h3, h4⟩ | ⟨g', cap, cur, h3, hb, hg, hnc, hcm, hcs, ht⟩
    · simp at h3
    · simp only [Value.slice.injEq] at h3
      have := List.length_pos_iff.2 hv
      omega
  by_cases he : v.length - k = 0
  · have hkk : k = v.length := by omega
    refine ⟨w, ?_, ?_, Chg.refl _ _⟩
    · rw [he]
      by_cases hck : c = k
      · rw [if_pos hck]; simp [Builtin.clear_, run_underlying Tryz.underlying23]
      · rw [if_neg hck]; simp [Builtin.clear_, run_underlying Tryz.underlying23]
    · rw [List.take_of_length_le (by omega)]; exact h
  · have hv : v ≠ [] := fun e => by subst e; simp at he
    have hc := hc0 hv
    have hh := h
    rcases h.2 with ⟨h3, h4⟩ | ⟨g', cap, cur, h3, hb, hg, hnc, hcm, hcs, ht⟩
    · simp at h3
    simp only [Value.slice.injEq, Option.some.injEq, Addr.mk.injEq, and_true, true_and] at h3
    obtain ⟨rfl, rfl⟩ := h3
    have hck : c ≠ k := by omega
    obtain ⟨m, hm⟩ : ∃ m, v.length - k = m + 1 := ⟨v.length - k - 1, by omega⟩
    have hzl : ((Builtin.zeroCells #[.int .u8 0, .int .u32 0, .int .u64 0] (m + 1)).toList).length = (m + 1) * 3 := by simp [size_zeroCells]
    have hst := run_storeCells_cells (P := Tryz.prog) g (k * 3) (Builtin.zeroCells #[.int .u8 0, .int .u32 0, .int .u64 0] (m + 1)).toList 0 w
      (fun j hj => by
        rw [hzl] at hj
        rw [hh.cellAt (g := g) (k * 3 + 0 + j) (by omega), List.getElem?_eq_getElem (by rw [dcells_length]; omega)]
        rfl)
      (fun j hj => hh.frozenAt (g := g) _) (fun u hu => by
        have := zeroCells_mem (by decide) hu
        simp at this
        rcases this with rfl | rfl | rfl <;> rfl)
    obtain ⟨cur', q1, q2, q3⟩ := setCells_block g 41 (Builtin.zeroCells #[.int .u8 0, .int .u32 0, .int .u64 0] (m + 1)).toList (k * 3) w cur hg (by rw [hzl, hcs]; omega)
    refine ⟨w.setCells g (k * 3) (Builtin.zeroCells #[.int .u8 0, .int .u32 0, .int .u64 0] (m + 1)).toList, ?_, ?_, Chg.setCells _ _ _ _⟩
    · rw [if_neg hck, hm]
      simp only [Nat.add_zero] at hst
      simp [Builtin.clear_, run_underlying Tryz.underlying23, Tryz.zeroValue41, Value.cells, hst]
    · unfold OwnD
      have hl : (v.take k).length = k := by rw [List.length_take]; omega
      rw [hl]
      refine ⟨by rw [dcells_length, hl], .inr ⟨g, c, cur', rfl, hb, q1, by omega, hcm, by rw [q2, hcs], ?_⟩⟩
      rw [q3]
      have e1 : cur.toList.take (k * 3) = (dcells v).take (k * 3) := by rw [← ht, List.take_take, Nat.min_eq_left (by omega)]
      rw [e1]
      exact flatMap_take dcell_len v k

/-! the plain law -/
theorem set_dcells (v : List Dt) (k : Nat) (d : Dt) (hk : k < v.length) : (((dcells v).set (k * 3) (.int .u8 d.1.1)).set (k * 3 + 1) (.int .u32 d.1.2)).set (k * 3 + 2) (.int .u64 d.2) = dcells (v.set k d) := by
  induction v generalizing k with
  | nil => simp at hk
  | cons a v ih =>
    cases k with
    | zero => simp [dcells, dcell]
    | succ k =>
      have := ih k (by simpa using hk)
      simp only [dcells, List.flatMap_cons, List.set_cons_succ] at this ⊢
      rw [← this]
      simp only [dcell, List.cons_append, List.nil_append, show (k + 1) * 3 = k * 3 + 1 + 1 + 1 by omega, show k * 3 + 1 + 1 + 1 + 1 = k * 3 + 1 + 1 + 1 + 1 from rfl, List.set_cons_succ]
theorem OwnD.put {w : World} {base g c k : Nat} {v : List Dt} (h : OwnD w base (some ⟨g, 0, none⟩) c v) (hk : k < v.length) (d : Dt) :
    OwnD (((w.setCell ⟨g, k * 3, none⟩ (.int .u8 d.1.1)).setCell ⟨g, k * 3 + 1, none⟩ (.int .u32 d.1.2)).setCell ⟨g, k * 3 + 2, none⟩ (.int .u64 d.2)) base (some ⟨g, 0, none⟩) c (v.set k d) := by
  have h1 := (((World.ownsRow.stored h (k * 3) (.int .u8 d.1.1)).1.stored (k * 3 + 1) (.int .u32 d.1.2)).1.stored (k * 3 + 2) (.int .u64 d.2)).1
  rw [set_dcells v k d hk] at h1
  unfold OwnD
  rw [List.length_set]
  exact h1
theorem OwnD.at {w : World} {base g c : Nat} {v : List Dt} (h : OwnD w base (some ⟨g, 0, none⟩) c v) {k : Nat} {d : Dt} (hd : v[k]? = some d) :
    w.cell? ⟨g, k * 3, none⟩ = some (.int .u8 d.1.1) ∧ w.cell? ⟨g, k * 3 + 1, none⟩ = some (.int .u32 d.1.2) ∧ w.cell? ⟨g, k * 3 + 2, none⟩ = some (.int .u64 d.2) := by
  have hk := (List.getElem?_eq_some_iff.1 hd).1
  have h0 := World.ownsRow.cellAt (g := g) h (k * 3) (by omega)
  have h1 := World.ownsRow.cellAt (g := g) h (k * 3 + 1) (by omega)
  have h2 := World.ownsRow.cellAt (g := g) h (k * 3 + 2) (by omega)
  have e0 := dcells_at hd 0 (by omega)
  have e1 := dcells_at hd 1 (by omega)
  have e2 := dcells_at hd 2 (by omega)
  exact ⟨h0.trans e0, h1.trans e1, h2.trans e2⟩
theorem chg_set3 {w w' : World} {g : Nat} (h : Chg [g] w w') (i j k : Nat) (x y z : Value) : Chg [g] w (((w'.setCell ⟨g, i, none⟩ x).setCell ⟨g, j, none⟩ y).setCell ⟨g, k, none⟩ z) :=
  ((h.trans (Chg.setCell _ _ _) (by simp)).trans (Chg.setCell _ _ _) (by simp)).trans (Chg.setCell _ _ _) (by simp)
theorem OwnD.free {w : World} {base g c : Nat} {v : List Dt} (h : OwnD w base (some ⟨g, 0, none⟩) c v) (j : Nat) : w.frozen? ⟨g, j, none⟩ = false := World.ownsRow.frozenAt h j
theorem OwnD.cap {w : World} {base c : Nat} {a : Option Addr} {v : List Dt} (h : OwnD w base a c v) : v.length ≤ c := h.vec.cap
end
section
open Go.Shelf
attribute [local go_sem] Oper.semAt_some

section
variable {w : World} {ops : Array Oper} {rest : List Oper} {o : Oper} {a : Act} {Q : Exit → Act → World → Prop} {F : Fence} {nf : Nat}
theorem wpList_next_D (hg : o.guard = none) (it : Operand) (hop : o.op = Op.next it false) (b r n : Nat) (f : Dt → Option Value) (left : Dt → Bool) (cnt : Nat)
    (hit : a.eval it = .pointer (some ⟨r, 0, none⟩)) (h : RangeF w Tryz.prog 41 mkD b r n f left cnt)
    (hDone : NoneLeftD left → wpList Tryz.prog ops Q rest (a.put o.dst (.tuple #[.bool false])) w)
    (hMore : ∀ rr ii qq v w' cnt', NextD w b r n f left cnt rr ii qq v w' cnt' → (Instr.entry (.pointer (some ⟨r, 0, none⟩))).run Tryz.prog w' = .ok (.tuple #[.agg #[.int .u8 rr, .int .u32 ii, .int .u64 qq], v]) w' →
      wpList Tryz.prog ops Q rest (a.put o.dst (.tuple #[.bool true, .agg #[.int .u8 rr, .int .u32 ii, .int .u64 qq], v])) w') : wpList Tryz.prog ops Q (o :: rest) a w :=
  wpList_next_F keysD hg it hop b r n f left cnt hit h (fun _ h => hDone fun a ha => by obtain ⟨l, hl⟩ := keyD_ok ha; exact h a l hl)
    (fun x v l w' cnt' h1 h2 h3 h4 h5 h6 h7 h8 => hMore x.1.1 x.1.2 x.2 v w' cnt' ⟨keyD_inv h1, h2, h3, h4, h5, h6, h7⟩ h8)
end

/-- the keys of f, each once -/
def KeysInD (f : Dt → Option Value) (n : Nat) (ss : List Dt) : Prop := ss.length ≤ n ∧ ss.Nodup ∧ (∀ a ∈ ss, okD a) ∧ ∀ a, okD a → (a ∈ ss ↔ (f a).isSome = true)
/-- so far -/
structure CameD (f : Dt → Option Value) (left : Dt → Bool) (ss : List Dt) : Prop where
  nd : ss.Nodup
  ok : ∀ a ∈ ss, okD a
  ne : ∀ a ∈ ss, left a = false
  mem : ∀ a, okD a → (a ∈ ss ↔ (f a).isSome = true ∧ left a = false)
theorem CameD.start (f : Dt → Option Value) : CameD f (fun a => (f a).isSome) [] := ⟨List.nodup_nil, by simp, by simp, fun a _ => by cases h : f a <;> simp [h]⟩
theorem CameD.step {f : Dt → Option Value} {left : Dt → Bool} {ss : List Dt} (h : CameD f left ss) {x : Dt} {v : Value} (hok : okD x) (hl : left x = true) (hf : f x = some v) : CameD f (fun y => left y && !decide (y = x)) (ss ++ [x]) := by
  have hx : x ∉ ss := fun hx => by have := h.ne x hx; rw [hl] at this; cases this
  refine ⟨List.nodup_append.2 ⟨h.nd, by simp, fun a ha b hb => by simp at hb; subst hb; intro e; subst e; exact hx ha⟩, fun a ha => ?_, fun a ha => ?_, fun a hoka => ?_⟩
  · rcases List.mem_append.1 ha with ha | ha
    · exact h.ok a ha
    · simp at ha; subst ha; exact hok
  · rcases List.mem_append.1 ha with ha | ha
    · simp [h.ne a ha]
    · simp at ha; subst ha; simp
  · rw [List.mem_append, List.mem_singleton, h.mem a hoka]
    by_cases e : a = x
    · subst e; simp [hf, hl]
    · simp [e]
theorem CameD.done {f : Dt → Option Value} {left : Dt → Bool} {ss : List Dt} (h : CameD f left ss) (hl : NoneLeftD left) {n : Nat} (hn : ss.length ≤ n) : KeysInD f n ss :=
  ⟨hn, h.nd, h.ok, fun a ha => by rw [h.mem a ha, hl a ha]; simp⟩

set_option maxRecDepth 100000 in
set_option maxHeartbeats 1000000 in
theorem keysD1_in (F : Fence) (n : Nat) (h10 : F.fn 152) (hro : F.round = none) (hn : 1 ≤ n) (l Bm b nn : Nat) (f : Dt → Option Value) (J Jx : List Dt → World → Prop)
    (hY : ∀ pre x W, J pre W → pre.length < nn → YieldAt F (n - 1) Tryz.prog l #[mkD x] W fun e W' => (e = .returned (.bool true) ∧ J (pre ++ [x]) W' ∧ KeepsWalks W W') ∨ (e = .returned (.bool false) ∧ Jx (pre ++ [x]) W'))
    (W : World) (hJ : AbidesFrom W.heap.size J) (hm : W.cell? ⟨Bm, 0, none⟩ = some (.map (some b))) (hown : MapF W Tryz.prog 41 mkD b nn f) (h0 : J [] W) :
    CallsIn F n Tryz.prog 152 #[.func (.yield l) #[] #[], .pointer (some ⟨Bm, 0, none⟩)] W fun e W' => (∃ v, e = .returned v) ∧ ((∃ ss, KeysInD f nn ss ∧ J ss W') ∨ ∃ pre, Jx pre W') := by
  refine callsIn_of_wp Tryz.func152 rfl h10 ?_ hro
  simp only [Tryz.ntmps152, List.size_toArray, List.length_cons, List.length_nil, Nat.reduceAdd, Nat.reduceSub, Array.replicate_succ, Array.replicate_zero, List.push_toArray, List.append_toArray, List.nil_append, List.cons_append]
  gi_wp2_with (gi_at_range; refine wpListIn_range_F keysD rfl _ _ rfl _ Tryz.underlying77 b nn f rfl hown ?_; intro w0 cnt0 hrg0 hcn0 hg0 hs0)
  go_frame
  gi_loopw [3] (fun _ wr => ∃ (left : Dt → Bool) (cnt : Nat) (ss : List Dt), RangeF wr Tryz.prog 41 mkD b W.heap.size nn f left cnt ∧ ss.length + cnt ≤ nn ∧ CameD f left ss ∧ J ss wr)
    (fun _ wr => wr.rangeLeft b W.heap.size)
  case atStart =>
    exact ⟨_, _, [], hrg0, by simpa using hcn0, CameD.start f, hJ [] W w0 none h0 hg0 (fun r e => by cases e)⟩
  case round =>
    obtain ⟨left, cnt, ss, hrg, hcs, hC, hJs⟩ := hrel
    gi_wp2_with (gi_at_next; refine wpListIn_next_D rfl _ rfl b W.heap.size nn f left cnt rfl hrg ?_ ?_)
    · intro hl0
      gi_wp2
      go_end0
      exact ⟨⟨_, rfl⟩, .inl ⟨ss, hC.done hl0 (by omega), hJs⟩⟩
    · intro rr ii qq v w2 cnt2 hN hen
      have hJ2 : J ss w2 := hJ ss wr w2 (some W.heap.size) hJs hN.grown (fun r e => by cases e; exact ⟨Nat.le_refl _, hrg.iter_walk⟩)
      have hJ3 : J ss (w2.alloc (.cells #[.int .u8 rr, .int .u32 ii, .int .u64 qq] 41)) := hJ ss w2 _ none hJ2 (World.grownBy_alloc _ _ _) (fun r e => by cases e)
      have hlt := hN.lt
      obtain ⟨fn, tmps, assign, body, hy, hR⟩ := hY ss ((rr, ii), qq) _ hJ3 (by omega)
      have hrg3 := hN.rng.alloc (.cells #[.int .u8 rr, .int .u32 ii, .int .u64 qq] 41)
      simp only [mkD] at hy
      gi_wp2
      refine hR.mono ?_
      rintro e W3 (⟨rfl, hJ4, hk3⟩ | ⟨rfl, hJx3⟩)
      · gi_wp2
        have hrg4 := hrg3.of_walks hk3
        go_roundw
        case rel => exact ⟨_, cnt2, ss ++ [((rr, ii), qq)], hrg4, by simp; omega, hC.step hN.ok hN.was hN.val, hJ4⟩
        case measure => rw [hrg4.left_eq, hrg.left_eq]; exact hlt
      · gi_wp2
        refine bodyPost_ret (results_none rfl _ _ _) rfl ?_
        exact ⟨⟨_, rfl⟩, .inr ⟨ss ++ [((rr, ii), qq)], hJx3⟩⟩

/-- maps.Keys(m) hands back an iterator over m's keys -/
theorem keysD_stops (F : Fence) (n : Nat) (h10 : F.fn 152) (hro : F.round = none) (hn : 1 ≤ n) (Bm b nn : Nat) (f : Dt → Option Value) (w : World)
    (hm : w.heap[Bm]? = some (.cells #[.map (some b)] 77 (0, 0))) (hown : MapF w Tryz.prog 41 mkD b nn f) :
    SeqStopsK F n Tryz.prog 152 #[.pointer (some ⟨Bm, 0, none⟩)] (fun x : Dt => #[mkD x]) KeepsWalks (KeysInD f nn) (fun _ => True) nn w := fun l J Jx W hW hJ _ hY h0 => by
  have hc : W.cell? ⟨Bm, 0, none⟩ = some (.map (some b)) := by rw [cells_at ((hW.block Bm (heap_lt hm)).trans hm)]; rfl
  refine (keysD1_in F n h10 hro hn l Bm b nn f J Jx hY W hJ hc (hown.below hW) h0).mono ?_
  rintro e W' ⟨hv, h | ⟨pre, h⟩⟩
  · exact ⟨hv, .inl h⟩
  · exact ⟨hv, .inr ⟨pre, trivial, h⟩⟩

/-- block B holds an actor -/
def BoxD (W : World) (B : Nat) (x : Dt) : Prop := W.heap[B]? = some (.cells #[.int .u8 x.1.1, .int .u32 x.1.2, .int .u64 x.2] 41 (0, 0))
theorem boxD_own {β : Type} (B : Nat) (x : Dt) : Own (fun (_ : β) W => BoxD W B x) := fun s X Y row hs hg hrow =>
  (hg.block B (heap_lt hs) (fun e' => by obtain ⟨o, ho, hc⟩ := hrow B e'.symm; rw [show X.heap[B]? = _ from hs] at ho; cases ho; cases hc)).trans hs

set_option maxRecDepth 100000 in
set_option maxHeartbeats 2000000 in
/-- slices.AppendSeq(nil, seq) -/
theorem appendSeqD_in (F : Fence) (n : Nat) (h11 : F.fn 151) (hro : F.round = none) (hn : 2 ≤ n) (g : Nat) (lb : Array Value) (hFg : F.fn g) (eg : ∀ args w, (callFunc g args).run Tryz.prog w = .ok (.enter g args) w)
    (S : List Dt → Prop) (N : Nat) (hN : N ≤ 1100000) (w : World) (hseq : SeqStopsK F (n - 1) Tryz.prog g lb (fun x : Dt => #[mkD x]) KeepsWalks S (fun _ => True) N w) :
    CallsIn F n Tryz.prog 151 #[.slice none 0 0, .func (.func g) #[] lb] w fun e w' => ∃ a c ss, e = .returned (.slice a (List.length ss) c) ∧ S ss ∧ w'.ownsRow w.heap.size 41 3 (.slice a ss.length c) ss.length (dcells ss) ∧ Below w.heap.size w w' := by
  have h1 : 1 ≤ n := by omega
  obtain ⟨i0, hi, hz0, hz1, hz2⟩ := info_parts Tryz.info_dot
  refine callsIn_of_wp_marks Tryz.func151 rfl h11 ?_ hro
  simp only [Tryz.ntmps151, List.size_toArray, List.length_cons, List.length_nil, Nat.reduceAdd, Nat.reduceSub, Array.replicate_succ, Array.replicate_zero, List.push_toArray, List.append_toArray, List.nil_append, List.cons_append]
  gi_wp2
  have bO := Boxed.new w 23 (.slice none 0 0)
  have hB0 : Below w.heap.size w (w.alloc (.cells #[.slice none 0 0] 23)) := (Below.refl _ w).alloc (Nat.le_refl _) _
  refine wpIn_rangeFunc_ownH hro h1 (gf := g) (lb := lb) rfl hFg eg hseq walksK_t walksK_b hB0 (fun _ => rfl)
    (fun pre W => (∃ v, Boxed W w.heap.size 23 v ∧ W.ownsRow w.heap.size 41 3 v pre.length (dcells pre) ∧ True) ∧ Below w.heap.size w W)
    (fun _ _ _ => False)
    (OwnFrom.and (Own.from (holdsRow_own w.heap.size w.heap.size 23 41 3 (fun pre => pre.length) (fun pre => dcells pre) (fun _ _ => True)) _) (ownFrom_below (Nat.le_refl _) (by simp)))
    (fun _ _ _ _ _ hs _ _ => hs)
    ⟨⟨_, bO, World.ownsRow_nil _ _ _ _, trivial⟩, hB0⟩
    (fun x a' W => ∃ Bx, BoxD W Bx x ∧ a' = { tmps := #[.slice none 0 0, .func (.func g) #[] lb, .pointer (some ⟨w.heap.size, 0, none⟩), undef, .slice none 0 0, .pointer (some ⟨Bx, 0, none⟩), .func (.func g) #[] lb, mkD x, undef, undef, undef, undef, undef], defers := [] })
    (fun x a' => fun s X Y row hs hg hr => by
      obtain ⟨Bx, hx, ha⟩ := hs
      exact ⟨Bx, Own.from (boxD_own Bx x) _ s X Y row hx hg hr, ha⟩) ?assign ?body ?done ?stop
  case assign =>
    rintro l pre x W K ⟨⟨v, hv, hrow, _⟩, hB⟩ hK
    obtain ⟨⟨r, i⟩, sq⟩ := x
    simp only [mkD]
    gi_wp2
    exact hK _ _ ((KeepsOthers.alloc _ _).from _) (KeepsWalks.alloc _ _) ⟨⟨v, hv.alloc _, hrow.alloc _, trivial⟩, hB.alloc hB.size _⟩ ⟨W.heap.size, heap_new _ _, rfl⟩
  case body =>
    rintro l pre x a' W hl hr ⟨⟨v, hv, hrow, _⟩, hB⟩ ⟨Bx, hbx, rfl⟩ hlt
    have hc := hv.cell
    have cx := cells_at hbx
    obtain ⟨⟨r, i⟩, sq⟩ := x
    dsimp only at cx
    gi_wp2_with (gi_at_builtin; refine wpListIn_append_own _ rfl _ _ 23 rfl w.heap.size 41 i0 (.agg #[.int .u8 0, .int .u32 0, .int .u64 0]  ) 3 16 Tryz.underlying23 hi hz0 hz1 hz2 rfl (by decide) _ _ _ rfl (hrow.alloc _) ⟨W.heap.size, 0, none⟩ 1 1 [.int .u8 r, .int .u32 i, .int .u64 sq] rfl rfl (World.news_of_block (cs := #[.int .u8 r, .int .u32 i, .int .u64 sq]) (t := 41) (fr := (0, 0)) (heap_alloc_new W _)) (by simp [Value.oneCell']) (by unfold maxLen; omega) (by omega) (by have := hB.size; simp; omega) ?_; intro v' w1 hown' hgrow _; obtain ⟨g', cap', rfl⟩ := ownsRow_succ hown'; obtain ⟨hv1, hv2, hr2, hk2, hb2⟩ := hv.appended (by decide) hrow hB.size (Nat.le_refl _) hown' hgrow; have hc1 := hv1.cell; have hf1 := hv1.frozen)
    refine ⟨hk2.from _, ?_, ⟨_, hv2, ?_, trivial⟩, hB.trans hb2⟩
    · exact ⟨hk2.size, fun k o hk ho => hk2.same k o hk (Obj.not_cells_of_walk ho)⟩
    · rw [dcells_snoc]; simpa [dcell] using hr2
  case done =>
    rintro D ys W hD hS ⟨⟨v, hv, hrow, _⟩, hB⟩ hK
    have hc := hv.cell
    obtain ⟨a, c, rfl⟩ := owns_slice hrow
    gi_wp2
    refine ⟨by simp, .inl ⟨_, _, rfl, run_takeDeferred hK, ?_⟩⟩
    exact ⟨_, results_tmp rfl _ _ _, a, c, ys, rfl, hS, ownsRow_putObj hrow _ hK rfl, hB.trans (belowK_b (w := w) (Nat.le_refl _) W D _ _ (by simp at hD; omega) hK rfl rfl)⟩
  case stop =>
    rintro D c pre W _ _ h _
    exact h.elim
/-- slices.Collect(maps.Keys(m)) -/
theorem collectD_keys (Bm b nn : Nat) (f : Dt → Option Value) (w : World) (hm : w.heap[Bm]? = some (.cells #[.map (some b)] 77 (0, 0))) (hown : MapF w Tryz.prog 41 mkD b nn f) (hN : nn ≤ 1100000) :
    Calls Tryz.prog 93 #[.func (.func 152) #[] #[.pointer (some ⟨Bm, 0, none⟩)]] w fun e w' =>
      ∃ a c ss, e = .returned (.slice a (List.length ss) c) ∧ KeysInD f nn ss ∧ w'.ownsRow w.heap.size 41 3 (.slice a ss.length c) ss.length (dcells ss) ∧ Below w.heap.size w w' := by
  have hc := (callsIn_wide (n := 5)).1 (appendSeqD_in Fence.wide 5 trivial rfl (by omega) _ _ trivial (enters_of Tryz.func152 (by kernel_rfl) rfl) (KeysInD f nn) nn hN w
    (keysD_stops Fence.wide 4 trivial rfl (by omega) Bm b nn f w hm hown))
  have Hc := Lib.hid hc
  clear hc hm hown
  go_enter Tryz.func93, Tryz.ntmps93
  go_wp2_with fail
  refine Hc.out.mono ?_
  rintro e w' ⟨a, c, ss, rfl, h⟩
  go_wp2_with fail
  go_ret
  exact ⟨a, c, ss, rfl, h⟩

def keepP (p : Dt → Bool) (l : List Dt) : List Dt := l.filter fun d => !p d
theorem keepP_none {p : Dt → Bool} {l : List Dt} (h : ∀ d ∈ l, p d = false) : keepP p l = l := List.filter_eq_self.2 fun d hd => by rw [h d hd]; rfl
theorem keepP_snoc {p : Dt → Bool} {l : List Dt} {q : Nat} {d : Dt} (hd : l[q]? = some d) : keepP p (l.take (q + 1)) = if p d = true then keepP p (l.take q) else keepP p (l.take q) ++ [d] := by
  unfold keepP
  rw [take_snoc' hd, List.filter_append]
  cases hp : p d <;> simp [hp]
/-- the first jj of l are gone through, kk are kept at the start of cur -/
structure DelI (p : Dt → Bool) (l cur : List Dt) (kk jj : Nat) : Prop where
  len : cur.length = l.length
  lt : kk < jj ∧ jj ≤ l.length
  kept : cur.take kk = keepP p (l.take jj)
  rest : ∀ i, jj ≤ i → cur[i]? = l[i]?
theorem DelI.start {p : Dt → Bool} {l : List Dt} {q : Nat} {d : Dt} (hd : l[q]? = some d) (hp : p d = true) (h : ∀ s ∈ l.take q, p s = false) : DelI p l l q (q + 1) :=
  ⟨rfl, ⟨Nat.lt_succ_self _, (List.getElem?_eq_some_iff.1 hd).1⟩, by rw [keepP_snoc hd, if_pos hp, keepP_none h], fun _ _ => rfl⟩
theorem DelI.skip {p : Dt → Bool} {l cur : List Dt} {kk jj : Nat} {d : Dt} (h : DelI p l cur kk jj) (hd : l[jj]? = some d) (hp : p d = true) : DelI p l cur kk (jj + 1) :=
  ⟨h.len, ⟨by have := h.lt; omega, (List.getElem?_eq_some_iff.1 hd).1⟩, by rw [keepP_snoc hd, if_pos hp, h.kept], fun i hi => h.rest i (by omega)⟩
theorem DelI.keep {p : Dt → Bool} {l cur : List Dt} {kk jj : Nat} {d : Dt} (h : DelI p l cur kk jj) (hd : l[jj]? = some d) (hp : p d = false) : DelI p l (cur.set kk d) (kk + 1) (jj + 1) := by
  have hjl := (List.getElem?_eq_some_iff.1 hd).1
  have hkl : kk < cur.length := by have := h.lt; have := h.len; omega
  refine ⟨by rw [List.length_set, h.len], ⟨by have := h.lt; omega, hjl⟩, ?_, fun i hi => ?_⟩
  · rw [keepP_snoc hd, if_neg (by rw [hp]; simp), ← h.kept]
    have hs : (cur.set kk d)[kk]? = some d := by rw [List.getElem?_set_self hkl]
    rw [take_snoc' hs, List.take_set_of_le (Nat.le_refl _)]
  · rw [List.getElem?_set_ne (by have := h.lt; omega)]
    exact h.rest i (by omega)
theorem DelI.done {p : Dt → Bool} {l cur : List Dt} {kk : Nat} (h : DelI p l cur kk l.length) : cur.take kk = keepP p l := by have := h.kept; rwa [List.take_length] at this
set_option maxRecDepth 100000 in
set_option maxHeartbeats 8000000 in
theorem deleteD_fn (fn : FuncId) (cap : Array Value) (p : Dt → Bool) (a : Option Addr) (c base : Nat) (l : List Dt) (w : World) (h : OwnD w base a c l) (hn : l.length ≤ 1100000)
    (he : ∀ args w, (callFunc fn args).run Tryz.prog w = .ok (.enter fn args) w)
    (hp : ∀ r i s, ((r, i), s) ∈ l → ∀ W, Chg (ob a) w W → Calls Tryz.prog fn (#[.agg #[.int .u8 r, .int .u32 i, .int .u64 s]] ++ cap) W (fun e W' => e = .returned (.bool (p ((r, i), s))) ∧ Below W.heap.size W W')) :
    Calls Tryz.prog 92 #[.slice a l.length c, .func (.func fn) #[] cap] w fun e w' => ∃ v', e = .returned (.slice a (List.length v') c) ∧ v' = keepP p l ∧ OwnD w' base a c v' ∧ Chg (ob a) w w' := by
  have H := Lib.hid h
  have HP := Lib.hid hp
  clear h hp
  go_enter Tryz.func92, Tryz.ntmps92
  go_wp2_with fail
  refine (indexD_fn fn cap p a c l _ H.out.vec hn he (fun r i s hd W hW => HP.out r i s hd W (Chg.of_below hW))).mono ?_
  intro e w1 hto
  obtain ⟨k, rfl, hk, hb⟩ := hto
  have HB := Lib.hid hb
  clear hb
  obtain ⟨rfl, hnone⟩ | ⟨q, d, rfl, hqd, hpd, hall⟩ := hk
  · have Hn := Lib.hid hnone
    clear hnone
    go_wp2_with fail
    go_ret
    exact ⟨l, rfl, (keepP_none Hn.out).symm, H.out.below HB.out, Chg.of_below HB.out⟩
  · obtain ⟨g, rfl, hbg, hgl⟩ := H.out.form (fun e => by subst e; simp at hqd)
    have hcap := H.out.cap
    have Hst := Lib.hid (DelI.start hqd hpd hall)
    have hql : q < l.length := (List.getElem?_eq_some_iff.1 hqd).1
    clear hqd hpd hall
    have e1 : ((q : Int) == -1) = false := by rw [beq_eq_false_iff_ne]; omega
    go_wp2_with fail
    go_loopw [5, 6] (fun kv jv wx => ∃ (kk jj : Nat) (cur : List Dt), kv = .int .i64 kk ∧ jv = .int .i64 jj ∧ Hid (DelI p l cur kk jj) ∧ Hid (OwnD wx base (some ⟨g, 0, none⟩) c cur) ∧ Hid (Chg [g] w wx)) (fun _ jv _ => l.length - (intOf jv).toNat)
    case atStart => exact ⟨q, q + 1, l, rfl, by go_num, Hst, Lib.hid (H.out.below HB.out), Lib.hid (Chg.of_below HB.out)⟩
    case round =>
      rename_i wx _
      clear e1
      obtain ⟨kk, jj, cur, rfl, rfl, hD, hO, hC⟩ := hrel
      have hcap2 := hO.out.cap
      have Hcl := Lib.hid hD.out.len
      have hkj : kk < jj := hD.out.lt.1
      have hjl : jj ≤ l.length := hD.out.lt.2
      by_cases hlt : jj < l.length
      · obtain ⟨⟨⟨r, i⟩, s⟩, hx⟩ : ∃ x, l[jj]? = some x := ⟨l[jj], by simp [hlt]⟩
        have hx' := (hD.out.rest jj (Nat.le_refl _)).trans hx
        obtain ⟨c0, c1, c2⟩ := hO.out.at hx'
        dsimp only at c0 c1 c2
        have Hx := Lib.hid hx
        have hA : Below wr.heap.size wr (wr.alloc (.cells #[.int .u8 r, .int .u32 i, .int .u64 s] 41)) := (Below.refl _ _).alloc (Nat.le_refl _) _
        have HA := Lib.hid hA
        have HPx := Lib.hid (HP.out r i s (List.mem_of_getElem? hx))
        clear hx hx' hA
        go_wp2_with fail
        refine (HPx.out _ ((hC.out.trans (Chg.of_below (F := []) HA.out) (by simp)))).mono ?_
        rintro e w3 ⟨rfl, hb3⟩
        have X3 := Lib.hid (new1 hb3).1
        have O3 := Lib.hid ((hO.out.below HA.out).below hb3)
        have C3 := Lib.hid ((hC.out.trans (Chg.of_below (F := []) HA.out) (by simp)).trans (Chg.of_below (F := []) hb3) (by simp))
        have x3 := cells_at X3.out
        clear hb3 c0 c1 c2
        cases hz : p ((r, i), s) with
        | true =>
          have Hz := Lib.hid hz
          go_wp2_with fail
          go_roundw
          case rel => exact ⟨kk, jj + 1, cur, rfl, by go_num, Lib.hid (hD.out.skip Hx.out Hz.out), O3, C3⟩
          case measure => simp [intOf]; omega
        | false =>
          have Hz := Lib.hid hz
          have hkl : kk < cur.length := by have := Hcl.out; omega
          obtain ⟨⟨⟨vr, vi⟩, vs⟩, hv⟩ : ∃ x, cur[kk]? = some x := ⟨cur[kk], by simp [hkl]⟩
          obtain ⟨p0, p1, p2⟩ := O3.out.at hv
          have hf := O3.out.free
          dsimp only at p0 p1 p2
          clear hv
          go_wp2_with fail
          have q1 := O3.out.put hkl ((r, i), s)
          have q2 := chg_set3 C3.out (kk * 3) (kk * 3 + 1) (kk * 3 + 2) (.int .u8 r) (.int .u32 i) (.int .u64 s)
          exact ⟨⟨kk + 1, jj + 1, cur.set kk ((r, i), s), by go_num, by go_num, Lib.hid (hD.out.keep Hx.out Hz.out), Lib.hid q1, Lib.hid q2⟩, by simp [intOf]; omega⟩
      · have hjj : jj = l.length := by omega
        have Hd := Lib.hid (show cur.take kk = keepP p l from by have := hD.out; rw [hjj] at this; exact this.done)
        have hkl : kk ≤ cur.length := by have := Hcl.out; omega
        have hck : c ≠ kk := by have := Hcl.out; omega
        have hadd : (⟨g, 0, none⟩ : Addr).add (kk * 3) = ⟨g, kk * 3, none⟩ := by unfold Addr.add; split <;> simp_all
        have hs3 := fun W => slice_loD (some ⟨g, 0, none⟩) cur.length c kk hkl hcap2 W
        have hs4 := fun W => slice_hiD (some ⟨g, 0, none⟩) cur.length c kk (by omega) W
        obtain ⟨w5, hr5, ho5, hC5⟩ := run_clearD (n := 0) hO.out 0 kk hkl
        rw [if_neg hck] at hs3 hr5
        simp only [Option.map_some, hadd] at hs3
        rw [Hcl.out] at hs3 hs4 hr5
        have Ho5 := Lib.hid ho5
        have HC5 := Lib.hid (hC.out.trans hC5 (by simp))
        have hl5 : (cur.take kk).length = kk := by rw [List.length_take]; omega
        have Hl5 := Lib.hid hl5
        clear ho5 hC5 hl5 hadd hjj
        go_wp2_with (at_builtin; go_must (refine wpList_clear_run rfl _ _ rfl _ hr5 ?_))
        go_wp2_with fail
        go_ret
        exact ⟨cur.take kk, by rw [Hl5.out]; rfl, Hd.out, Ho5.out, HC5.out⟩
/-- within another commit's history -/
def behind1 (c : Cm) (d : Dt) : Bool := !eqD c.d d && hasV c.vv d
def behindB (L : List Cm) (d : Dt) : Bool := L.any fun c => behind1 c d
theorem behind_no {L : List Cw} {d : Dt} (h : ∀ v ∈ L, behind1 v.c d = false) : behindB (cms L) d = false := by
  unfold behindB cms
  rw [List.any_map, List.any_eq_false]
  intro v hv
  show ¬ behind1 v.c d = true
  rw [h v hv]; simp
theorem behind_yes {L : List Cw} {d : Dt} {v : Cw} (hv : v ∈ L) (h : behind1 v.c d = true) : behindB (cms L) d = true := by
  unfold behindB cms
  rw [List.any_map, List.any_eq_true]
  exact ⟨v, hv, h⟩
theorem next_left {L : List Cw} (hn : ((cms L).map (·.d)).Nodup) {left : Dt → Bool} {P : Cw → Prop} (h : ∀ v ∈ L, left v.c.d = false → P v) {v : Cw} (hv : v ∈ L) {d : Dt} (hd : v.c.d = d) (hp : P v) : ∀ u ∈ L, (left u.c.d && !decide (u.c.d = d)) = false → P u := fun u hu hl => by
  by_cases e : u.c.d = d
  · rw [same_of_d hn hu hv (e.trans hd.symm)]; exact hp
  · rw [decide_eq_false e] at hl; exact h u hu (by simpa using hl)
set_option maxRecDepth 100000 in
set_option maxHeartbeats 8000000 in
theorem behind_any (pg mb : Nat) (w0 : World) (m : Nat) (b : Bw) (L : List Cw) (va : Option Addr) (vc : Nat) (vv : List Dt) (gb : Nat) (r i s : Int) (w : World) (h : GrAt w pg mb w0 m b L va vc vv) (hg : w.cell? ⟨gb, 0, none⟩ = some (.pointer (some ⟨pg, 0, none⟩))) (hd : okD ((r, i), s)) :
    Calls Tryz.prog 91 #[.agg #[.int .u8 r, .int .u32 i, .int .u64 s], .pointer (some ⟨gb, 0, none⟩)] w fun e w' => e = .returned (.bool (behindB (cms L) ((r, i), s))) ∧ Below w.heap.size w w' := by
  have H := Lib.hid h
  have g0 := cells_at h.blk
  simp only [gcells] at g0
  have hpg := heap_lt h.blk
  clear h
  have z0 : gb < w.heap.size := World.block_lt_of_cell? w _ hg
  have hB : Below w.heap.size w (w.alloc (.cells #[.int .u8 r, .int .u32 i, .int .u64 s] 41)) := (Below.refl _ _).alloc (Nat.le_refl _) _
  have HB := Lib.hid hB
  have HM := Lib.hid ((H.out.below hB).map.mapF)
  clear hB
  go_enter Tryz.func91, Tryz.ntmps91
  go_wp2_with (at_range; go_must (refine wpList_range_F keysD rfl _ _ rfl _ Tryz.underlying77 mb L.length (fvW L) rfl HM.out ?_))
  intro wa cnt0 hrg0 hcn0 hg0 hs0
  have hb0 : Below (w.alloc (.cells #[.int .u8 r, .int .u32 i, .int .u64 s] 41)).heap.size (w.alloc (.cells #[.int .u8 r, .int .u32 i, .int .u64 s] 41)) wa := (Below.refl _ _).grown hg0 (Nat.le_refl _) (by simp)
  have E0 := Lib.hid (BoxE.of hb0)
  have Hrg0 : Hid (RangeF wa Tryz.prog 41 mkD mb (w.heap.size + 1) L.length (fvW L) (fun a => (fvW L a).isSome) cnt0) := Lib.hid (by simpa using hrg0)
  clear hg0 hs0 hb0 hrg0 g0 hpg z0 hg HB
  go_wp2_with fail
  go_loopw [5] (fun _ wr => ∃ (left : Dt → Bool) (cnt : Nat), RangeF wr Tryz.prog 41 mkD mb (w.heap.size + 1) L.length (fvW L) left cnt ∧ (∀ v ∈ L, left v.c.d = false → behind1 v.c ((r, i), s) = false) ∧ BoxE 41 w wr #[.int .u8 r, .int .u32 i, .int .u64 s]) (fun _ wr => wr.rangeLeft mb (w.heap.size + 1))
  case atStart =>
    refine ⟨_, cnt0, Hrg0.out, fun v hv hl => ?_, E0.out⟩
    have : fvW L v.c.d = some (cwv v) := by unfold fvW; rw [fvW_mem H.out.nodup hv]; rfl
    rw [this] at hl; cases hl
  case round =>
    obtain ⟨left, cnt, hrg, hle, hb⟩ := hrel
    have Hrg := Lib.hid hrg
    have Hle := Lib.hid hle
    have E := Lib.hid hb
    have hsz := hb.bel.size
    clear hle hb E0 Hrg0 hcn0
    go_wp2_with (at_next; go_must (refine wpList_next_D rfl _ rfl _ _ _ _ _ _ rfl hrg ?_ ?_))
    · intro hl
      clear hrg
      have Hw := Lib.hid (show behindB (cms L) ((r, i), s) = false from behind_no fun v hv => Hle.out v hv (hl _ (H.out.each v hv).ok.d))
      clear hl
      go_wp2_with fail
      go_ret
      exact ⟨by rw [Hw.out]; rfl, E.out.bel⟩
    · intro rr ii qq xv w3 cnt1 hX hen
      clear hrg
      have hlt1 := hX.lt
      obtain ⟨v, hvL, hvd, rfl⟩ := fvW_some hX.val
      have hc1 := Chg.grown hX.grown
      simp only [Option.toList_some] at hc1
      have hb1 : Below w.heap.size w w3 := E.out.bel.trans (hc1.below hsz (by simp))
      have x3 := heap_chg E.out.blk hc1 (by simp)
      have Hv := Lib.hid (((H.out.each v hvL).at_).below hb1)
      have Hrg1 := Lib.hid hX.rng
      have Hb1 := Lib.hid hb1
      have HvL := Lib.hid hvL
      have hlen := canon_few (H.out.may v hvL).canon
      have Hvd := Lib.hid hvd
      have z3 := heap_lt x3
      clear hX hc1 hb1 hvL hvd
      have X3 := Lib.hid x3
      have d3 := cells_at x3
      clear x3
      obtain ⟨⟨⟨⟨r1, i1⟩, s1⟩, ps1, uu1, t1, ⟨k1, n1, x1, p1, ds1⟩⟩, qa1, qc1, ua1, uc1, pa1, pc1, da1, dc1⟩ := v
      simp only [cwv, cwcells] at hen ⊢
      have hA : Below w3.heap.size w3 (w3.alloc (.cells (ccells r1 i1 s1 qa1 ps1.length qc1 ua1 uu1.length uc1 t1 k1 pa1 p1.length pc1 n1 x1 da1 ds1.length dc1) 46)) := (Below.refl _ _).alloc (Nat.le_refl _) _
      have HA := Lib.hid hA
      have EA := Lib.hid (show BoxE 41 w (w3.alloc (.cells (ccells r1 i1 s1 qa1 ps1.length qc1 ua1 uu1.length uc1 t1 k1 pa1 p1.length pc1 n1 x1 da1 ds1.length dc1) 46)) #[.int .u8 r, .int .u32 i, .int .u64 s] from BoxE.step ⟨X3.out, Hb1.out⟩ hA)
      dsimp only at hlen
      clear hA
      cases hq : eqD ((r1, i1), s1) ((r, i), s) with
      | true =>
        have Hno := Lib.hid (show behind1 ⟨((r1, i1), s1), ps1, uu1, t1, ⟨k1, n1, x1, p1, ds1⟩⟩ ((r, i), s) = false by simp [behind1, hq])
        have Hrg2 := Lib.hid (Hrg1.out.alloc (.cells (ccells r1 i1 s1 qa1 ps1.length qc1 ua1 uu1.length uc1 t1 k1 pa1 p1.length pc1 n1 x1 da1 ds1.length dc1) 46))
        go_wp2_with fail
        go_roundw
        case rel => exact ⟨_, cnt1, Hrg2.out, next_left H.out.nodup Hle.out HvL.out Hvd.out Hno.out, EA.out⟩
        case measure => rw [Hrg2.out.left_eq, Hrg.out.left_eq]; exact hlt1
      | false =>
        have He := Lib.hid (show behind1 ⟨((r1, i1), s1), ps1, uu1, t1, ⟨k1, n1, x1, p1, ds1⟩⟩ ((r, i), s) = hasV uu1 ((r, i), s) by simp [behind1, hq])
        go_wp2_with fail
        refine (has_any ua1 uc1 uu1 r i s _ (Hv.out.vv.below HA.out) (by omega) Hv.out.ok.vv hd.1).mono ?_
        rintro e w4 ⟨rfl, hb4⟩
        have E4 := Lib.hid (EA.out.step hb4)
        have Hrg2 := Lib.hid ((Hrg1.out.alloc (.cells (ccells r1 i1 s1 qa1 ps1.length qc1 ua1 uu1.length uc1 t1 k1 pa1 p1.length pc1 n1 x1 da1 ds1.length dc1) 46)).chg (F := []) (Chg.of_below hb4) (by simp) (by simp))
        clear hb4 d3
        cases hh : hasV uu1 ((r, i), s) with
        | true =>
          have Hy := Lib.hid (show behindB (cms L) ((r, i), s) = true from behind_yes HvL.out (by rw [He.out, hh]))
          go_wp2_with fail
          go_ret
          exact ⟨by rw [Hy.out]; rfl, E4.out.bel⟩
        | false =>
          have Hno := Lib.hid (show behind1 ⟨((r1, i1), s1), ps1, uu1, t1, ⟨k1, n1, x1, p1, ds1⟩⟩ ((r, i), s) = false by rw [He.out, hh])
          go_wp2_with fail
          go_roundw
          case rel => exact ⟨_, cnt1, Hrg2.out, next_left H.out.nodup Hle.out HvL.out Hvd.out Hno.out, E4.out⟩
          case measure => rw [Hrg2.out.left_eq, Hrg.out.left_eq]; exact hlt1
theorem keysD_any (mb : Nat) (w : World) : Calls Tryz.prog 94 #[.map (some mb)] w fun e w' =>
    e = .returned (.func (.func 152) #[] #[.pointer (some ⟨w.heap.size, 0, none⟩)]) ∧ w' = w.alloc (.cells #[.map (some mb)] 77) := by
  go_enter Tryz.func94, Tryz.ntmps94
  go_wp2_with fail
  go_ret
  exact ⟨rfl, rfl⟩
/-- the heads of commits above some tips -/
def HeadsP (tips : List Dt) (L : List Cm) (Hl : List Dt) : Prop := Hl.Pairwise ltD ∧ ∀ d, d ∈ Hl ↔ (d ∈ tips ∨ ∃ c ∈ L, c.d = d) ∧ behindB L d = false
def HeadsTo (w : World) (tips : List Dt) (L : List Cm) (e : Ending) (w' : World) : Prop :=
  ∃ a c Hl, e = .returned (.slice a (List.length Hl) c) ∧ HeadsP tips L Hl ∧ okV Hl ∧ Hl.length ≤ 100200 ∧ OwnD w' w.heap.size a c Hl ∧ Below w.heap.size w w'
theorem strict_of {l : List Dt} (h : l.Pairwise fun x y => lessD y x = false) (hn : l.Nodup) : l.Pairwise ltD := by
  refine (h.and hn).imp ?_
  rintro a b ⟨h1, h2⟩
  rcases lessD_total h2 with h3 | h3
  · exact h3
  · rw [h3] at h1; cases h1
theorem heads_of {tips : List Dt} {L : List Cw} {F : List Dt} {ss l : List Dt} (hk : KeysInD (fvW L) L.length ss) (ht : tips.Pairwise ltD) (hw : ∀ d ∈ tips, hasV F d = true) (ho : ∀ v ∈ L, hasV F v.c.d = false) (hd : ∀ v ∈ L, okD v.c.d)
    (hp : l.Perm (keepP (behindB (cms L)) (ss ++ tips))) (hs : l.Pairwise fun x y => lessD y x = false) (hn : ((cms L).map (·.d)).Nodup) : HeadsP tips (cms L) l := by
  obtain ⟨k1, k2, k3, k4⟩ := hk
  have hmem : ∀ d, d ∈ ss ↔ ∃ c ∈ cms L, c.d = d := fun d => by
    constructor
    · intro h
      have h2 := (k4 d (k3 d h)).1 h
      cases hf : fvW L d with
      | none => rw [hf] at h2; cases h2
      | some x =>
        obtain ⟨v, hv, hvd, _⟩ := fvW_some hf
        exact ⟨v.c, List.mem_map.2 ⟨v, hv, rfl⟩, hvd⟩
    · rintro ⟨c, hc, rfl⟩
      obtain ⟨v, hv, rfl⟩ := List.mem_map.1 hc
      refine (k4 _ (hd v hv)).2 ?_
      unfold fvW
      rw [fvW_mem hn hv]; rfl
  have hnd : (ss ++ tips).Nodup := by
    refine List.nodup_append.2 ⟨k2, ht.imp (fun {a b} h e => by subst e; exact ltD_irrefl _ h), fun a ha b hb e => ?_⟩
    subst e
    obtain ⟨c, hc, hcd⟩ := (hmem a).1 ha
    obtain ⟨v, hv, rfl⟩ := List.mem_map.1 hc
    have h1 := ho v hv
    rw [hcd, hw a hb] at h1
    cases h1
  refine ⟨strict_of hs (hp.nodup_iff.2 (hnd.filter _)), fun d => ?_⟩
  rw [hp.mem_iff]
  unfold keepP
  rw [List.mem_filter, List.mem_append, hmem]
  simp only [Bool.not_eq_true', or_comm]
set_option maxRecDepth 100000 in
set_option maxHeartbeats 8000000 in
theorem heads_G (pg mb : Nat) (w0 : World) (m : Nat) (b : Bw) (L : List Cw) (va : Option Addr) (vc : Nat) (vv : List Dt) (w : World) (h : GrAt w pg mb w0 m b L va vc vv) :
    Calls Tryz.prog 23 #[.pointer (some ⟨pg, 0, none⟩)] w (HeadsTo w b.b.tips (cms L)) := by
  have H := Lib.hid h
  have hpg := heap_lt h.blk
  have g0 := cells_at h.blk
  simp only [gcells] at g0
  have hB : Below w.heap.size w (w.alloc (.cells #[.pointer (some ⟨pg, 0, none⟩)] 33)) := (Below.refl _ _).alloc (Nat.le_refl _) _
  have HB := Lib.hid hB
  have hemb := enters_of Tryz.func91 (by kernel_rfl) rfl
  clear h hB
  go_enter Tryz.func23, Tryz.ntmps23
  go_wp2_with fail
  refine (none_some pg mb _ (H.out.below HB.out).c5).mono ?_
  rintro e w1 ⟨rfl, rfl⟩
  go_wp2_with fail
  refine region_text [([0, 1, 2, 3, 6, 7, 8, 9, 10, 12], false), ([4], true), ([5], true), ([11, 13, 14], false)] mixed (by kernel_rfl) ?_
  simp only [wpSegs, List.map_cons, List.map_nil, List.getD_cons_succ, List.getD_cons_zero]
  go_wp2_with fail
  refine (keysD_any mb _).mono ?_
  rintro e w2 ⟨rfl, hw2⟩
  have hX2 : Below (w.alloc (.cells #[.pointer (some ⟨pg, 0, none⟩)] 33)).drew.heap.size (w.alloc (.cells #[.pointer (some ⟨pg, 0, none⟩)] 33)).drew w2 := by rw [hw2]; exact (Below.refl _ _).alloc (Nat.le_refl _) _
  have hm2 : w2.heap[w.heap.size + 1]? = some (.cells #[.map (some mb)] 77 (0, 0)) := by rw [hw2]; exact heap_new2 _ _ _
  have b2 := (new1 (((Below.refl _ _).drew).trans hX2))
  have HX2 := Lib.hid hX2
  have HM2 := Lib.hid hm2
  have HG2 := Lib.hid b2.1
  have HB2 := Lib.hid b2.2.2
  have hz2 := b2.2.1
  clear hX2 hm2 b2 hw2
  go_wp2_with fail
  refine And.intro (Agree.of_below HX2.out) ?_
  go_wp2_with fail
  refine (collectD_keys (w.heap.size + 1) mb L.length (fvW L) w2 HM2.out ((H.out.below HB2.out).map.mapF) (by have := H.out.max; omega)).mono ?_
  rintro e w3 ⟨a3, c3, ss, rfl, hks, hown3, hb3⟩
  have HK := Lib.hid hks
  have hk1 := hks.1
  have O3 := Lib.hid (show OwnD w3 (w.heap.size + 1) a3 c3 ss from owns_base hown3 hz2)
  have Hb3 := Lib.hid hb3
  have HB3 := Lib.hid (below2 HB2.out hb3 HB2.out.size)
  have hz3 : w.heap.size + 1 ≤ w3.heap.size := by have := hb3.size; omega
  have HG3 := Lib.hid ((hb3.block _ (heap_lt HG2.out)).trans HG2.out)
  have hmax := H.out.max
  have htm := H.out.tmax
  clear hks hown3 hb3 HX2 HM2 HG2
  go_wp2_with fail
  refine And.intro (Agree.of_below Hb3.out) ?_
  go_wp2_with (at_builtin; go_must (refine wpList_appD rfl _ _ rfl (w.heap.size + 1) a3 c3 ss rfl O3.out b.ta b.tc b.b.tips rfl (((H.out.base.tips).below H.out.bel).below HB3.out) ?n1 ?b1 ?_))
  case n1 => omega
  case b1 => exact hz3
  intro v4 a4 c4 w4 hv4 ho4 hb4 hch4
  have HB4 := Lib.hid (HB3.out.trans (hb4.mono (Nat.le_succ _)))
  have HG4 := Lib.hid ((hb4.block w.heap.size (Nat.lt_succ_self _)).trans HG3.out)
  have O4 := Lib.hid ho4
  have Hv4 := Lib.hid hv4
  have hl4 : v4.length ≤ 100200 := by rw [hv4, List.length_append]; omega
  have hok4 : ∀ d ∈ v4, okD d := by
    intro d hd
    rw [hv4] at hd
    rcases List.mem_append.1 hd with hd | hd
    · exact HK.out.2.2.1 d hd
    · exact H.out.base.okt d hd
  have Hok4 := Lib.hid hok4
  clear hv4 ho4 hb4 hch4 hok4 Hb3 HG3
  have key : ∀ r i s, ((r, i), s) ∈ v4 → ∀ W, Chg (ob a4) w4 W → Calls Tryz.prog 91 (#[.agg #[.int .u8 r, .int .u32 i, .int .u64 s]] ++ #[.pointer (some ⟨w.heap.size, 0, none⟩)]) W (fun e W' => e = .returned (.bool (behindB (cms L) ((r, i), s))) ∧ Below W.heap.size W W') := by
    intro r i s hd W hW
    have hge := fun k hk => (owns_lt O4.out k hk).1
    have hW1 : Below (w.heap.size + 1) w4 W := hW.below (heap_lt HG4.out |> fun h => by omega) hge
    exact behind_any pg mb w0 m b L va vc vv w.heap.size r i s W (H.out.below (HB4.out.trans (hW1.mono (Nat.le_succ _)))) (by rw [cells_at ((hW1.block _ (Nat.lt_succ_self _)).trans HG4.out)]; rfl) (Hok4.out _ hd)
  have Key := Lib.hid key
  clear key
  go_wp2_with fail
  refine (deleteD_fn 91 #[.pointer (some ⟨w.heap.size, 0, none⟩)] (behindB (cms L)) a4 c4 (w.heap.size + 1) v4 _ O4.out (by omega) hemb Key.out).mono ?_
  rintro e w5 ⟨v5, rfl, hv5, ho5, hc5⟩
  have O5 := Lib.hid ho5
  have Hv5 := Lib.hid hv5
  have hl5 : v5.length ≤ 100200 := by rw [hv5]; exact Nat.le_trans (List.length_filter_le _ _) hl4
  have HB5 := Lib.hid (HB4.out.trans ((hc5.below (by have := heap_lt HG4.out; omega) (fun k hk => (owns_lt O4.out k hk).1)).mono (Nat.le_succ _)))
  have hz5 : w.heap.size + 1 ≤ w5.heap.size := by have := heap_lt HG4.out; have := hc5.size; omega
  clear hv5 ho5 hc5 Key
  go_wp2_with fail
  refine And.intro (by kernel_rfl) ?_
  go_wp2_with fail
  refine (sortD_any a4 c4 (w.heap.size + 1) v5 _ O5.out (by omega)).mono ?_
  rintro e w6 ⟨rfl, v6, hl6, hp6, hs6, ho6, hc6⟩
  have O6 := Lib.hid ho6
  have HP6 := Lib.hid (show HeadsP b.b.tips (cms L) v6 from heads_of HK.out H.out.bp.rise H.out.bp.within H.out.out (fun v hv => (H.out.each v hv).ok.d) (by rw [← Hv4.out, ← Hv5.out]; exact hp6) hs6 H.out.nodup)
  have HB6 := Lib.hid (HB5.out.trans ((hc6.below (hz5) (fun k hk => (owns_lt O5.out k hk).1)).mono (Nat.le_succ _)))
  have Hok6 := Lib.hid (show okV v6 from fun d hd => Hok4.out d (by have h1 := hp6.mem_iff.1 hd; rw [Hv5.out] at h1; exact (List.mem_filter.1 h1).1))
  have Hl6 := Lib.hid hl6
  clear ho6 hc6 hp6 hs6
  go_wp2_with fail
  go_ret
  exact ⟨a4, c4, v6, by rw [Hl6.out]; rfl, HP6.out, Hok6.out, by rw [Hl6.out]; exact hl5, O6.out.base (Nat.le_succ _), HB6.out⟩
end
/-- a vector's copy -/
def VVTo (w : World) (vv : List Dt) (e : Ending) (w' : World) : Prop := ∃ a c, e = .returned (.slice a vv.length c) ∧ OwnD w' w.heap.size a c vv ∧ Below w.heap.size w w'
set_option maxRecDepth 100000 in
set_option maxHeartbeats 4000000 in
theorem vv_G (pg mb : Nat) (w0 : World) (m : Nat) (b : Bw) (L : List Cw) (va : Option Addr) (vc : Nat) (vv : List Dt) (w : World) (h : GrAt w pg mb w0 m b L va vc vv) :
    Calls Tryz.prog 18 #[.pointer (some ⟨pg, 0, none⟩)] w (VVTo w vv) := by
  have H := Lib.hid h
  have hpg := heap_lt h.blk
  have g0 := cells_at h.blk
  simp only [gcells] at g0
  clear h
  go_enter Tryz.func18, Tryz.ntmps18
  go_wp2_with fail
  refine (none_some pg mb _ H.out.c5).mono ?_
  rintro e w1 ⟨rfl, rfl⟩
  go_wp2_with fail
  refine (cloneV_any va vc vv _ (OwnD.vec H.out.own) (by have := H.out.vmax; omega)).mono ?_
  rintro e w2 ⟨a, c, v2, rfl, hv2, ho, hb⟩
  subst hv2
  have HO := Lib.hid ho
  have HB := Lib.hid hb
  clear ho hb
  go_wp2_with fail
  go_ret
  exact ⟨a, c, rfl, HO.out, HB.out⟩

theorem behindB_iff {L : List Cm} {d : Dt} : behindB L d = true ↔ ∃ c ∈ L, c.d ≠ d ∧ hasV c.vv d = true := by
  unfold behindB
  rw [List.any_eq_true]
  refine exists_congr fun c => and_congr_right fun _ => ?_
  unfold behind1
  rw [Bool.and_eq_true, Bool.not_eq_true', ← Bool.not_eq_true, eqD_iff]
/-- in their order, parents are ahead -/
theorem HistP.ahead {F : List Dt} {L : List Cm} {vv : List Dt} (h : HistP F L vv) {S : List Cm} (hp : S.Perm L) (hs : SortedC S) {q : Nat} {c : Cm} (hc : S[q]? = some c) {p : Dt} (hpp : p ∈ c.ps) :
    (hasV F p = true ∧ findC (S.take q) p = none) ∨ ∃ y ∈ S.take q, y.d = p ∧ findC (S.take q) p = some y ∧ ∀ x, getN y.vv x ≤ getN c.vv x := by
  have hcL : c ∈ L := hp.mem_iff.1 (List.mem_of_getElem? hc)
  have hn : (S.map (·.d)).Nodup := (hp.map _).nodup_iff.2 h.nodup
  have hnt : ((S.take q).map (·.d)).Nodup := hn.sublist ((List.take_sublist _ _).map _)
  rcases h.par c hcL p hpp with h1 | ⟨y, hy, hyd, hyt, hyv⟩
  · refine .inl ⟨h1, findC_none.2 fun y hy e => ?_⟩
    have hyL : y ∈ L := hp.mem_iff.1 (List.mem_of_mem_take hy)
    have := h.out y hyL
    rw [e, h1] at this; cases this
  · obtain ⟨i, hi⟩ := List.getElem?_of_mem (hp.mem_iff.2 hy)
    have hlt : i < q := by
      rcases Nat.lt_trichotomy i q with h2 | h2 | h2
      · exact h2
      · subst h2; rw [hi] at hc; cases hc; omega
      · obtain ⟨hq', rfl⟩ := List.getElem?_eq_some_iff.1 hc
        obtain ⟨hi', rfl⟩ := List.getElem?_eq_some_iff.1 hi
        have h3 := List.pairwise_iff_getElem.1 hs q i hq' hi' h2
        unfold ltC at h3
        omega
    have hyS : y ∈ S.take q := by
      rw [List.mem_iff_getElem?]
      exact ⟨i, by rw [List.getElem?_take, if_pos hlt, hi]⟩
    exact .inr ⟨y, hyS, hyd, by rw [← hyd]; exact findC_mem hnt hyS, hyv⟩
theorem HistI.perm {F : List Dt} {L M : List Cm} (h : HistI F L) (hp : L.Perm M) (hn : (L.map (·.d)).Nodup) : HistI F M := fun c hc => by
  rw [← findC_perm hp hn]; exact h c (hp.mem_iff.2 hc)
theorem HistP.perm {F : List Dt} {L M : List Cm} {vv : List Dt} (h : HistP F L vv) (hp : L.Perm M) : HistP F M vv := by
  have e := findC_perm hp h.nodup
  refine ⟨h.okF, h.canon, (hp.map _).nodup_iff.1 h.nodup, fun c hc => h.may c (hp.mem_iff.2 hc), fun c hc => h.out c (hp.mem_iff.2 hc), h.base, fun c hc => h.up c (hp.mem_iff.2 hc), ?_, fun c hc p hpp => ?_, fun c hc y hy => h.anc c (hp.mem_iff.2 hc) y (hp.mem_iff.2 hy)⟩
  · rw [← e]; exact h.low
  · rcases h.par c (hp.mem_iff.2 hc) p hpp with h1 | ⟨y, hy, h1⟩
    · exact .inl h1
    · exact .inr ⟨y, hp.mem_iff.1 hy, h1⟩
/-- who is ahead stands ahead -/
theorem sorted_before {S : List Cm} (hs : SortedC S) {q : Nat} {c y : Cm} (hc : S[q]? = some c) (hy : y ∈ S) (hlt : ltC y c) : y ∈ S.take q := by
  obtain ⟨k, hk⟩ := List.getElem?_of_mem hy
  by_cases hkq : k < q
  · refine List.mem_of_getElem? (i := k) ?_
    rw [List.getElem?_take, if_pos hkq]
    exact hk
  · exfalso
    by_cases e : k = q
    · subst e
      rw [hc] at hk; cases hk
      exact ltC_irrefl _ hlt
    · obtain ⟨h1, rfl⟩ := List.getElem?_eq_some_iff.1 hk
      obtain ⟨h2, rfl⟩ := List.getElem?_eq_some_iff.1 hc
      have h3 := List.pairwise_iff_getElem.1 hs q k h2 h1 (by omega)
      exact ltC_irrefl _ (ltC_trans hlt h3)
/-- the next one in the document's order can be inserted -/
theorem ins_prefix {F : List Dt} {S : List Cm} {vv : List Dt} (hi : HistI F S) (h : HistP F S vv) (hs : SortedC S) {q : Nat} {c : Cm} (hc : S[q]? = some c) (hq : q < 200) : insE F (findC (S.take q)) q c = 0 := by
  have hcS := List.mem_of_getElem? hc
  have hnt : ((S.take q).map (·.d)).Nodup := h.nodup.sublist ((List.take_sublist _ _).map _)
  have hfn : findC (S.take q) c.d = none := by
    rw [findC_none]
    intro y hy e
    have h1 := h.eq_of (List.mem_of_mem_take hy) hcS e
    subst h1
    obtain ⟨k, hk⟩ := List.getElem?_of_mem hy
    rw [List.getElem?_take] at hk
    by_cases hkq : k < q
    · rw [if_pos hkq] at hk
      obtain ⟨h1, e1⟩ := List.getElem?_eq_some_iff.1 hk
      obtain ⟨h2, e2⟩ := List.getElem?_eq_some_iff.1 hc
      have h3 := List.pairwise_iff_getElem.1 hs k q h1 h2 hkq
      rw [e1, e2] at h3
      exact ltC_irrefl _ h3
    · rw [if_neg hkq] at hk; cases hk
  have he : ∀ p ∈ c.ps, findC S p = findC (S.take q) p := fun p hp => by
    rcases h.ahead (List.Perm.refl S) hs hc hp with ⟨h1, h2⟩ | ⟨y, hy, h1, h2, _⟩
    · rw [h2, findC_none]
      intro y hy e
      have h3 := h.out y hy
      rw [e, h1] at h3; cases h3
    · rw [h2, ← h1]
      exact findC_mem h.nodup (List.mem_of_mem_take hy)
  have ho : 1 < c.d.2 → hasG F (findC S) (aheadD c.d) = true → hasG F (findC (S.take q)) (aheadD c.d) = true := fun h1 h2 => by
    rcases hasG_cases h2 with ⟨y, hy, e, _⟩ | h3
    · have hym := (may_iff _).1 (h.may y hy).dot
      have hv : hasV c.vv y.d = true := by
        rw [hasV_iff]
        refine ⟨(h.may y hy).dot, ?_⟩
        rw [e]
        show c.d.2 - 1 ≤ getN c.vv c.d.1
        rw [(h.may c hcS).own]; omega
      have hne : y.d ≠ c.d := by
        rw [e]
        intro e2
        have : (aheadD c.d).2 = c.d.2 := by rw [e2]
        have h4 : c.d.2 - 1 = c.d.2 := this
        omega
      have h5 := (h.anc c hcS y hy hne hv).2
      have h6 := sorted_before hs hc hy ((ltC_b _ _).2 ((ltCb_or _ _).2 (.inl h5)))
      unfold hasG
      rw [← e, findC_mem hnt h6]; rfl
    · unfold hasG
      rw [h3]; simp
  have hI := (hi c hcS).congr he ho
  refine insE_ok (h.may c hcS) ?_ hI.gap ⟨hI.low, hI.fol⟩ hq
  unfold hasG
  rw [hfn, h.out c hcS]; rfl
/-- what a graph of the first n lacks: the rest -/
theorem lack_prefix {F : List Dt} {S : List Cm} {vv vh : List Dt} (h : HistP F S vv) {n : Nat} (hh : HistP F (S.take n) vh) : (S.filter fun c => !hasV vh c.d) = S.drop n := by
  have e1 : (S.filter fun c => !hasV vh c.d) = ((S.take n).filter fun c => !hasV vh c.d) ++ ((S.drop n).filter fun c => !hasV vh c.d) := by
    rw [← List.filter_append, List.take_append_drop]
  have e2 : ((S.take n).filter fun c => !hasV vh c.d) = [] := by
    rw [List.filter_eq_nil_iff]
    intro c hc
    have h1 : hasV vh c.d = true := hasV_iff.2 ⟨(hh.may c hc).dot, by
      have h2 := hh.up c hc c.d.1
      have h3 := (hh.may c hc).own
      omega⟩
    rw [h1]; simp
  have e3 : ((S.drop n).filter fun c => !hasV vh c.d) = S.drop n := by
    rw [List.filter_eq_self]
    intro c hc
    have hcS := List.mem_of_mem_drop hc
    cases hv : hasV vh c.d with
    | false => rfl
    | true =>
      exfalso
      have h1 := hasV_iff.1 hv
      have h2 := hh.low c.d.1 c.d.2 ((may_iff _).1 h1.1).2.1 h1.2
      rcases hasG_cases h2 with ⟨y, hy, e, _⟩ | h3
      · have h4 : y = c := h.eq_of (List.mem_of_mem_take hy) hcS e
        subst h4
        have hn := h.nodup
        rw [← List.take_append_drop n S, List.map_append, List.nodup_append] at hn
        exact hn.2.2 _ (List.mem_map.2 ⟨y, hy, rfl⟩) _ (List.mem_map.2 ⟨y, hc, rfl⟩) rfl
      · have h4 := h.out c hcS
        rw [show c.d = (c.d.1, c.d.2) from rfl, h3] at h4; cases h4
  rw [e1, e2, e3]; rfl
theorem lackP_prefix {F : List Dt} {S : List Cm} {vv vh : List Dt} (h : HistP F S vv) {n : Nat} (hh : HistP F (S.take n) vh) (m : Int) : lackP S vh m = (S.drop n).take m.toNat := by unfold lackP; rw [lack_prefix h hh]
/-- the same commits, the same vector -/
theorem HistP.same {F : List Dt} {L : List Cm} {u v : List Dt} (h : HistP F L u) (k : HistP F L v) : u = v := by
  have h1 : ∀ {a b : List Dt}, HistP F L a → HistP F L b → ∀ x, getN a x ≤ getN b x := fun {a b} ha hb x => by
    by_cases h0 : 1 ≤ getN a x
    · exact hb.top (ha.low x (getN a x) h0 (Int.le_refl _))
    · have := (getN_bd b x).1
      omega
  rw [← h.canon, ← k.canon]
  unfold canonV
  congr 1
  funext x
  exact Int.le_antisymm (h1 h k x) (h1 k h x)
theorem HeadsP.uniq {tips : List Dt} {L M : List Cm} {u v : List Dt} (h : HeadsP tips L u) (k : HeadsP tips M v) (hm : ∀ c, c ∈ L ↔ c ∈ M) : u = v := by
  refine rising_ext (lt := ltD) ltD_irrefl (fun h k => ltD_trans h k) h.1 k.1 fun d => ?_
  have e : behindB L d = behindB M d := by
    rw [Bool.eq_iff_iff, behindB_iff, behindB_iff]
    constructor
    · rintro ⟨c, hc, h1⟩; exact ⟨c, (hm c).1 hc, h1⟩
    · rintro ⟨c, hc, h1⟩; exact ⟨c, (hm c).2 hc, h1⟩
  rw [h.2 d, k.2 d, e]
  refine and_congr_left fun _ => or_congr_right ?_
  constructor
  · rintro ⟨c, hc, h1⟩; exact ⟨c, (hm c).1 hc, h1⟩
  · rintro ⟨c, hc, h1⟩; exact ⟨c, (hm c).2 hc, h1⟩
theorem slice_hiC (oa : Option Addr) (n oc j : Nat) (hj : j ≤ oc) (W : World) : (Instr.sliceAt 29 (.slice oa n oc) none (some (.int .i64 (j : Int))) none).run Tryz.prog W = .ok (.slice oa j oc) W := by
  simp [go_sem, Instr.sliceAt, Instr.slice, run_underlying Tryz.underlying29]
  omega
/-- the other graph holds the first n -/
structure FilE (w1 wr : World) (S : List Cm) (pg mb : Nat) (w0 : World) (b : Bw) (L : List Cw) (va : Option Addr) (vc : Nat) (vv : List Dt) (n : Nat) : Prop where
  gr : GrAt wr pg mb w0 3 b L va vc vv
  cm : cms L = S.take n
  hist : HistP b.b.f (S.take n) vv
  bel : Below w1.heap.size w1 wr
  old : w1.heap.size ≤ w0.heap.size
theorem FilE.below {w1 wr w' : World} {S : List Cm} {pg mb : Nat} {w0 : World} {b : Bw} {L : List Cw} {va : Option Addr} {vc : Nat} {vv : List Dt} {n : Nat} (h : FilE w1 wr S pg mb w0 b L va vc vv n) (hb : Below wr.heap.size wr w') : FilE w1 w' S pg mb w0 b L va vc vv n :=
  ⟨h.gr.below hb, h.cm, h.hist, below2 h.bel hb h.bel.size, h.old⟩
theorem len_take {L : List Cw} {S : List Cm} {n : Nat} (h : cms L = S.take n) (hn : n ≤ S.length) : L.length = n := by
  have h1 := congrArg List.length h
  unfold cms at h1
  rw [List.length_map, List.length_take] at h1
  omega
theorem FilE.step {w1 wr w' : World} {S : List Cm} {pg mb : Nat} {w0 : World} {b : Bw} {L : List Cw} {va : Option Addr} {vc : Nat} {vv vS : List Dt} {n : Nat} {c : Cm} {e : Ending} (h : FilE w1 wr S pg mb w0 b L va vc vv n) (hi : HistI b.b.f S) (hh : HistP b.b.f S vS) (hs : SortedC S) (hc : S[n]? = some c) (hl : S.length ≤ 200) (okc : okV c.vv) (hto : InsTo wr pg mb w0 3 b L vv c e w') :
    e = .returned (.int .i64 0) ∧ ∃ (L' : List Cw) (va' : Option Addr) (vc' : Nat) (vv' : List Dt), FilE w1 w' S pg mb w0 b L' va' vc' vv' (n + 1) ∧ Chg [pg, mb] wr w' := by
  have hn := (List.getElem?_eq_some_iff.1 hc).1
  have hL := len_take h.cm (by omega)
  have h0 : insE b.b.f (findC (cms L)) L.length c = 0 := by rw [h.cm, hL]; exact ins_prefix hi hh hs hc (by omega)
  obtain ⟨rfl, ⟨hz, _⟩ | ⟨_, u, va', vc', hu, hG, hC⟩⟩ := hto
  · exact absurd h0 hz
  have h1 : cms (L ++ [u]) = cms L ++ [c] := by simp [cms, hu]
  have ho := h.gr.old
  have ho2 := h.old
  refine ⟨by rw [h0], L ++ [u], va', vc', joinV vv c.vv, ⟨hG, by rw [h1, h.cm, take_snoc' hc], ?_, h.bel.trans (hC.below h.bel.size (fun k hk => by simp at hk; rcases hk with rfl | rfl <;> omega)), h.old⟩, hC⟩
  rw [take_snoc' hc]
  refine h.hist.step h.gr.okv okc (n := n) ?_
  have h2 := h0
  rw [h.cm, hL] at h2
  exact h2
/-- one goes into both -/
theorem PairE.fil {w wr w1 : World} {v : Bw} {m pg mb : Nat} {w0 : World} {b : Bw} {L : List Cw} {va : Option Addr} {vc : Nat} {vv vS : List Dt} {pw : Nat} {T : List Cw} {la : Option Addr} {lc : Nat} {c : Cw} {e : Ending} {S : List Cm} {q : Nat} (h : PairE w wr v m pg mb w0 b L va vc vv pw T la lc) (hcm : cms L = S.take q) (hi : HistI v.b.f S) (hh : HistP v.b.f S vS) (hs : SortedC S) (hc : S[q]? = some c.c) (hl : S.length ≤ 200) (okc : okV c.c.vv) (hto : InsTo wr pg mb w0 3 b L vv c.c e w1) :
    e = .returned (.int .i64 0) ∧ RgAt w1 pw w m v T la lc ∧ Below w.heap.size w w1 ∧ ∀ (e2 : Ending) (w2 : World), RInsTo w1 pw w m v T c e2 w2 → e2 = .returned (.int .i64 0) ∧
      ∃ (L' : List Cw) (va' : Option Addr) (vc' : Nat) (vv' : List Dt) (T' : List Cw) (la' : Option Addr) (lc' : Nat), cms L' = S.take (q + 1) ∧ PairE w w2 v m pg mb w0 b L' va' vc' vv' pw T' la' lc' := by
  have hq := (List.getElem?_eq_some_iff.1 hc).1
  have hL := len_take hcm (by omega)
  have h0 : insE b.b.f (findC (cms L)) L.length c.c = 0 := by rw [h.same, hcm, hL]; exact ins_prefix hi hh hs hc (by omega)
  have he := hto.1
  rw [h0] at he
  obtain ⟨x, hx, hR, hB, hN⟩ := h.ins_ okc hto
  obtain rfl : x = 0 := by rw [he] at hx; cases hx; rfl
  refine ⟨he, hR, hB, fun e2 w2 h2 => ?_⟩
  obtain ⟨e3, ⟨h3, _⟩ | ⟨_, u, va', vc', la', lc', hu, hP⟩⟩ := hN e2 w2 h2
  · exact absurd rfl h3
  · refine ⟨e3, L ++ [u], va', vc', _, _, la', lc', ?_, hP⟩
    have h1 : cms (L ++ [u]) = cms L ++ [c.c] := by simp [cms, hu]
    rw [h1, hcm, take_snoc' hc]
theorem GrAt.noRow {w : World} {pg mb : Nat} {w0 : World} {m : Nat} {b : Bw} {L : List Cw} {va : Option Addr} {vc : Nat} {vv : List Dt} (h : GrAt w pg mb w0 m b L va vc vv) : NoRow w [pg, mb] := fun k hk C t fr hh => by
  simp only [List.mem_cons, List.not_mem_nil, or_false] at hk
  rcases hk with rfl | rfl
  · rw [h.blk] at hh
    cases hh
    exact ⟨by decide, by decide⟩
  · obtain ⟨es, clock, h2⟩ := h.map.block
    rw [h2] at hh; cases hh
/-- the part that was handed out, while it goes in -/
structure PrtE (wx : World) (base : Nat) (ga : Option Addr) (gc : Nat) (R : List Cw) : Prop where
  row : OwnC wx base ga gc R
  each : ∀ v ∈ R, CwOwn wx base v
theorem PrtE.below {wx w' : World} {base : Nat} {ga : Option Addr} {gc : Nat} {R : List Cw} (h : PrtE wx base ga gc R) (hb : Below wx.heap.size wx w') : PrtE w' base ga gc R := ⟨h.row.below hb, fun v hv => (h.each v hv).below hb⟩
theorem PrtE.chg {wx w' : World} {base : Nat} {ga : Option Addr} {gc : Nat} {R : List Cw} {F : List Nat} (h : PrtE wx base ga gc R) (hc : Chg F wx w') (hF : NoRow wx F) (hl : ∀ k ∈ F, k < base) : PrtE w' base ga gc R :=
  ⟨h.row.chg hc (fun k hk hm => by have h1 := (owns_lt h.row k hk).1; have h2 := hl k hm; omega), fun v hv => (h.each v hv).chg hc hF⟩
theorem part_at {R : List Cw} {S : List Cm} {n m z : Nat} {u : Cw} (h : cms R = (S.drop n).take m) (hu : R[z]? = some u) : S[n + z]? = some u.c := by
  have h1 := cms_i hu
  rw [h, List.getElem?_take] at h1
  by_cases e : z < m
  · rw [if_pos e, List.getElem?_drop] at h1; exact h1
  · rw [if_neg e] at h1; cases h1
set_option maxRecDepth 100000 in
set_option maxHeartbeats 32000000 in
theorem orderFills_walk (v : Bw) (m : Nat) (la0 : Option Addr) (lc0 : Nat) (l : List Cw) (some_ : Nat) (most : Int) (w : World) (h : BwAt w m v) (hl : Cms w la0 lc0 l) (hsm : some_ ≤ 255) (htp : v.b.tips.length ≤ 1100000) (hB : BdA 1100000 3 v.b.tr) :
    Calls Tryz.prog 9 #[.agg (bwcells v), .slice la0 l.length lc0, .int .u8 (some_ : Int), .int .i64 most] w (fun e w' => e = .returned (.bool true) ∧ Below w.heap.size w w') := by
  obtain ⟨⟨num, F, tips, t, tr⟩, fa, fc, ta, tc, ra, rc⟩ := v
  have H := Lib.hid h
  have HL := Lib.hid hl
  have HBd := Lib.hid hB
  dsimp only at htp
  have E : Hid (BoxE 28 w (w.alloc (.cells (basecells num fa F.length fc ta tips.length tc t ra tr.length rc) 28)) (basecells num fa F.length fc ta tips.length tc t ra tr.length rc)) := Lib.hid ⟨heap_new _ _, (Below.refl _ _).alloc (Nat.le_refl _) _⟩
  clear h hl hB
  simp only [bwcells]
  go_enter Tryz.func9, Tryz.ntmps9
  go_wp2_with fail
  refine (both15_any ⟨⟨num, F, tips, t, tr⟩, fa, fc, ta, tc, ra, rc⟩ m la0 lc0 l _ (H.out.below E.out.bel) (HL.out.below E.out.bel) htp HBd.out).mono ?_
  intro e w1 hto
  rcases hto with ⟨rfl, hb⟩ | ⟨pg, mb, w0, b, L, va, vc, vv, pw, S, la, lc, rfl, hp, hLl, hBP⟩
  · have HB := Lib.hid (E.out.step hb).bel
    clear hb
    go_wp2_with fail
    refine (known15_any _).mono ?_
    rintro e w2 ⟨rfl, hb⟩
    have HB2 := Lib.hid (below2 HB.out hb HB.out.size)
    clear hb
    go_wp2_with fail
    go_ret
    exact ⟨rfl, HB2.out⟩
  have HP := Lib.hid hp
  have EB := Lib.hid (E.out.step hp.bel)
  have HB := Lib.hid EB.out.bel
  have HBP := Lib.hid hBP
  have HF64 : F.length ≤ 64 := canonF_len hBP
  have Hcan := Lib.hid (show canonV F = F from hBP.canon)
  have hSl : S.length ≤ 40 := by rw [hp.len]; exact hLl
  clear hp E hBP
  generalize w.alloc (.cells (basecells num fa F.length fc ta tips.length tc t ra tr.length rc) 28) = wA at HP
  by_cases hm1 : most < 1
  · have y1 : decide (most < 1) = true := decide_eq_true hm1
    go_wp2_with fail
    refine (known15_any _).mono ?_
    rintro e w2 ⟨rfl, hb⟩
    have HB2 := Lib.hid (below2 HB.out hb HB.out.size)
    clear hb
    go_wp2_with fail
    go_ret
    exact ⟨rfl, HB2.out⟩
  have y1 : decide (most < 1) = false := decide_eq_false hm1
  by_cases hm5 : 50 < most
  · have y2 : decide (50 < most) = true := decide_eq_true hm5
    go_wp2_with fail
    refine (known15_any _).mono ?_
    rintro e w2 ⟨rfl, hb⟩
    have HB2 := Lib.hid (below2 HB.out hb HB.out.size)
    clear hb
    go_wp2_with fail
    go_ret
    exact ⟨rfl, HB2.out⟩
  have y2 : decide (50 < most) = false := decide_eq_false hm5
  have d0 := cells_at EB.out.blk
  simp only [basecells] at d0
  have z0 := heap_lt EB.out.blk
  go_wp2_with fail
  refine (new_any ⟨⟨num, F, tips, t, tr⟩, fa, fc, ta, tc, ra, rc⟩ m _ (H.out.below HB.out) (by show F.length ≤ 1100000; omega) htp HBd.out).mono ?_
  intro e w3 hto
  rcases hto with ⟨_, pgh, mbh, w0h, bh, vah, vch, rfl, hsame, hG, hb, hold⟩ | ⟨hn, _, _⟩
  rotate_left
  · exact absurd HBP.out hn
  have Hs := Lib.hid hsame
  have EB3 := Lib.hid (EB.out.step hb)
  have HP3 := Lib.hid (HP.out.below hb)
  have W0 : Hid (PairE w1 (w3.alloc (.cells (rgcells num fa F.length fc ta tips.length tc t ra tr.length rc none 0 0) 61)) ⟨⟨num, F, tips, t, tr⟩, fa, fc, ta, tc, ra, rc⟩ m pgh mbh w0h bh [] vah vch bh.b.f w3.heap.size [] none 0) := Lib.hid (by
    have hA : Below w3.heap.size w3 (w3.alloc (.cells (rgcells num fa F.length fc ta tips.length tc t ra tr.length rc none 0 0) 61)) := (Below.refl _ _).alloc (Nat.le_refl _) _
    have hbf : bh.b.f = F := Hs.out.f
    have H1 := H.out.below HB.out
    exact ⟨hG.below hA, ⟨heap_new _ _, below2 hb hA hb.size, hb.size, H1, OwnC.nil _ _, fun y hy => (by cases hy), List.Pairwise.nil, List.nodup_nil, fun y hy => (by cases hy), Nat.zero_le _, Hcan.out⟩, hbf, Hs.out.tips, Hs.out.tr, List.Perm.refl _, by rw [hbf]; exact HistP.start H1.okf Hcan.out, HistI.start _, hold, hG.bel.size, below2 hb hA hb.size⟩)
  have hbf : Hid (bh.b.f = F) := Lib.hid hsame.f
  have hbt : Hid (bh.b.tips = b.b.tips) := Lib.hid (by rw [hsame.tips, HP.out.tips])
  clear hb hsame hG d0 z0 EB
  have d0 := cells_at EB3.out.blk
  simp only [basecells] at d0
  have z0 := heap_lt EB3.out.blk
  have hne : ¬ ((S.length : Int) + 1 = 0) := by omega
  obtain ⟨k, hk, hkl⟩ : ∃ k : Nat, (some_ : Int).tmod ((S.length : Int) + 1) = (k : Int) ∧ k ≤ S.length := ⟨some_ % (S.length + 1), rfl, Nat.lt_succ_iff.1 (Nat.mod_lt _ (Nat.succ_pos _))⟩
  go_upto_region 8 with (fail)
  generalize bh.b.f = vv0 at W0
  have HPA := Lib.hid (HP3.out.below ((Below.refl w3.heap.size w3).alloc (Nat.le_refl _) (.cells (rgcells num fa F.length fc ta tips.length tc t ra tr.length rc none 0 0) 61)))
  have g0 := cells_at HPA.out.rg.blk
  simp only [rgcells] at g0
  have gz := heap_lt HPA.out.rg.blk
  have hcap : S.length ≤ lc := HPA.out.rg.row.capC
  have hs := fun W => slice_hiC la S.length lc k (by omega) W
  simp only [rgcells] at HPA W0
  generalize w3.alloc (.cells #[.int .u64 num, .slice fa F.length fc, .slice ta tips.length tc, .int .u64 t, .slice ra tr.length rc, .slice none 0 0] 61) = w4 at *
  generalize w3.heap.size = pwo at W0 ⊢
  clear d0 z0
  refine region_text [([0, 1, 2, 3, 4, 5, 6, 7, 8, 9, 10, 11, 12, 13, 14, 15], false)] mixed (by kernel_rfl) ?_
  simp only [wpSegs, List.map_cons, List.map_nil, List.getD_cons_succ, List.getD_cons_zero]
  go_wp2_with fail
  refine And.intro (by kernel_rfl) ?_
  have W1 := Lib.hid (W0.out.below ((Below.refl w4.heap.size w4).drew))
  have HSi := Lib.hid (show HistI F (cms S) from HP.out.ins.perm HP.out.perm.symm HP.out.hist.nodup)
  have HSh := Lib.hid (show HistP F (cms S) vv from HP.out.hist.perm HP.out.perm.symm)
  have hSc : (cms S).length = S.length := by unfold cms; rw [List.length_map]
  have HSc := Lib.hid hSc
  have HwA := Lib.hid (show w1.heap.size ≤ w0h.heap.size from hold)
  clear W0 g0 gz hs HPA HP3 EB3 hSc hne hk hcap
  go_wp2_with fail
  go_loopw [71] (fun j wr => ∃ (q : Nat) (L' : List Cw) (va' : Option Addr) (vc' : Nat) (vv' : List Dt) (T : List Cw) (la' : Option Addr) (lc' : Nat), q ≤ k ∧ j = .int .i64 q ∧ Hid (cms L' = (cms S).take q) ∧ Hid (PairE w1 wr ⟨⟨num, F, tips, t, tr⟩, fa, fc, ta, tc, ra, rc⟩ m pgh mbh w0h bh L' va' vc' vv' pwo T la' lc')) (fun j _ => k - (intOf j).toNat)
  case atStart => exact ⟨0, [], vah, vch, vv0, [], none, 0, Nat.zero_le _, rfl, Lib.hid rfl, W1⟩
  case round =>
    obtain ⟨q, L', va', vc', vv', T, la', lc', hq, rfl, HCm, W⟩ := hrel
    clear W1
    have HPr := Lib.hid (HP.out.below W.out.bel)
    by_cases hlt : q < k
    · obtain ⟨u, hu⟩ : ∃ u, S[q]? = some u := ⟨S[q]'(by omega), by simp⟩
      obtain ⟨ad, had, ⟨c0, c1, c2, c3, c4, c5, c6, c7, c8, c9, c10⟩, hlb⟩ := HPr.out.rg.rows.at_ hu
      have HAt := Lib.hid (HPr.out.rg.rows.each u (List.mem_of_getElem? hu))
      have HAt1 := Lib.hid ((HP.out.rg.each u (List.mem_of_getElem? hu)).below HP.out.rg.bel)
      have HMay := Lib.hid (HP.out.rg.may u (List.mem_of_getElem? hu))
      have HSu := Lib.hid (cms_i hu)
      subst had
      clear hu
      obtain ⟨⟨⟨⟨r1, i1⟩, s1⟩, ps1, uu1, t1, ⟨k1, n1, x1, p1, ds1⟩⟩, qa1, qc1, ua1, uc1, pa1, pc1, da1, dc1⟩ := u
      dsimp only at c0 c1 c2 c3 c4 c5 c6 c7 c8 c9 c10
      have hul : uu1.length ≤ 64 := by have h1 := HMay.out.canon; dsimp only at h1; rw [← h1]; exact vecOf_length _
      have HA : Hid (BoxE 46 wr (wr.alloc (.cells (ccells r1 i1 s1 qa1 ps1.length qc1 ua1 uu1.length uc1 t1 k1 pa1 p1.length pc1 n1 x1 da1 ds1.length dc1) 46)) (ccells r1 i1 s1 qa1 ps1.length qc1 ua1 uu1.length uc1 t1 k1 pa1 p1.length pc1 n1 x1 da1 ds1.length dc1)) := Lib.hid ⟨heap_new _ _, (Below.refl _ _).alloc (Nat.le_refl _) _⟩
      have WA := Lib.hid (W.out.below HA.out.bel)
      go_wp2_with fail
      refine (insert_G pgh mbh w0h 3 bh L' va' vc' vv' ⟨⟨((r1, i1), s1), ps1, uu1, t1, ⟨k1, n1, x1, p1, ds1⟩⟩, qa1, qc1, ua1, uc1, pa1, pc1, da1, dc1⟩ _ WA.out.gr (HAt.out.below HA.out.bel) (by dsimp only; omega)).mono ?_
      intro e w5 hto
      have HB4 := Lib.hid (hto.keep HA.out.blk (by have := heap_lt W.out.gr.blk; omega) (by have := W.out.gr.map.lt; omega))
      obtain ⟨rfl, hR, hbel, hnext⟩ := WA.out.fil (c := ⟨⟨((r1, i1), s1), ps1, uu1, t1, ⟨k1, n1, x1, p1, ds1⟩⟩, qa1, qc1, ua1, uc1, pa1, pc1, da1, dc1⟩) HCm.out HSi.out HSh.out HP.out.rg.sorted HSu.out (by rw [HSc.out]; omega) HAt.out.ok.vv hto
      have HR := Lib.hid hR
      have HN := Lib.hid hnext
      clear hto hR hnext hbel c0 c1 c2 c3 c4 c5 c6 c7 c8 c9 c10 hlb WA HA HPr
      have d0 := cells_at HB4.out
      simp only [ccells] at d0
      have z0 := heap_lt HB4.out
      go_wp2_with fail
      refine (insert_R pwo w1 m ⟨⟨num, F, tips, t, tr⟩, fa, fc, ta, tc, ra, rc⟩ T la' lc' ⟨⟨((r1, i1), s1), ps1, uu1, t1, ⟨k1, n1, x1, p1, ds1⟩⟩, qa1, qc1, ua1, uc1, pa1, pc1, da1, dc1⟩ _ HR.out HAt1.out (by dsimp only; omega)).mono ?_
      intro e w6 hto
      obtain ⟨rfl, L2, va2, vc2, vv2, T2, la2, lc2, hc2, hP2⟩ := HN.out e w6 hto
      have W2 := Lib.hid hP2
      have HC2 := Lib.hid hc2
      clear hto hc2 hP2 HR HN d0 z0 HB4
      go_wp2_with fail
      go_roundw
      case rel => exact ⟨q + 1, L2, va2, vc2, vv2, T2, la2, lc2, by omega, by go_num, HC2, W2⟩
      case measure => simp [intOf]; omega
    · obtain rfl : q = k := by omega
      clear hlt hq
      have F0 : Hid (FilE w1 wr (cms S) pgh mbh w0h bh L' va' vc' vv' q) := Lib.hid ⟨W.out.gr, HCm.out, by rw [W.out.same, ← HCm.out]; exact W.out.hist, W.out.bel, HwA.out⟩
      have g0 := cells_at HPr.out.rg.blk
      simp only [rgcells] at g0
      have gz := heap_lt HPr.out.rg.blk
      clear W HCm
      go_wp2_with fail
      clear g0 gz HPr
      go_loopw [92] (fun j wr => ∃ (jj n : Nat) (L' : List Cw) (va' : Option Addr) (vc' : Nat) (vv' : List Dt), jj ≤ S.length + 1 ∧ j = .int .i64 jj ∧ n ≤ S.length ∧ (jj ≤ n ∨ n = S.length) ∧ Hid (FilE w1 wr (cms S) pgh mbh w0h bh L' va' vc' vv' n)) (fun j _ => S.length + 1 - (intOf j).toNat)
      case atStart => exact ⟨0, q, L', va', vc', vv', Nat.zero_le _, rfl, by omega, .inl (Nat.zero_le _), F0⟩
      case round =>
        obtain ⟨jj, n, L', va', vc', vv', hjj, rfl, hn, hjn, G⟩ := hrel
        clear F0
        have HPr := Lib.hid (HP.out.below G.out.bel)
        have HBr := Lib.hid (below2 HB.out G.out.bel HB.out.size)
        have HGh := Lib.hid (show HistP F ((cms S).take n) vv' from by have h1 := G.out.hist; rw [hbf.out] at h1; exact h1)
        have hvl : vv'.length ≤ 64 := by have h1 := G.out.hist.canon; rw [← h1]; exact vecOf_length _
        by_cases hlt : (jj : Int) < (S.length : Int) + 1
        · go_wp2_with fail
          refine (vv_G pgh mbh w0h 3 bh L' va' vc' vv' _ G.out.gr).mono ?_
          rintro e w5 ⟨xa, xc, rfl, hx, hb⟩
          have G5 := Lib.hid (G.out.below hb)
          have HP5 := Lib.hid (HPr.out.below hb)
          have HX := Lib.hid (show Vec w5 xa xc vv' from hx.vec)
          clear hx hb HPr
          go_wp2_with fail
          refine (lacks_G pg mb w0 3 b L va vc vv xa xc vv' most _ HP5.out.gr HX.out G5.out.gr.okv (by omega)).mono ?_
          rintro e w6 ⟨ga, gc, R, S2, rfl, hp, hs, hr, ho, he, hb⟩
          obtain rfl : cms S = S2 := sorted_uniq HP.out.perm HP.out.rg.sorted hp hs
          have hr2 : cms R = ((cms S).drop n).take most.toNat := by rw [hr, lackP_prefix HSh.out HGh.out]
          have hRl : R.length = min most.toNat (S.length - n) := by
            have h1 := congrArg List.length hr2
            unfold cms at h1
            rw [List.length_map, List.length_take, List.length_drop, List.length_map] at h1
            exact h1
          have hRl2 : R.length ≤ 40 ∧ n + R.length ≤ S.length ∧ R.length ≤ most.toNat ∧ (n < S.length → 1 ≤ R.length) := by omega
          have HR := Lib.hid hr2
          have G6 := Lib.hid (G5.out.below hb)
          have Q6 : Hid (PrtE w6 w5.heap.size ga gc R) := Lib.hid ⟨ho, he⟩
          have hpl : pgh < w5.heap.size ∧ mbh < w5.heap.size := ⟨heap_lt G5.out.gr.blk, G5.out.gr.map.lt⟩
          clear hp hs hr ho he hb hr2 hRl G5 HP5 HX
          obtain ⟨l1, l2, l3, l4⟩ := hRl2
          go_wp2_with fail
          generalize w5.heap.size = base5 at Q6 hpl
          go_loopw [101] (fun j wx => ∃ (z : Nat) (L' : List Cw) (va' : Option Addr) (vc' : Nat) (vv' : List Dt), z ≤ R.length ∧ j = .int .i64 z ∧ Hid (FilE w1 wx (cms S) pgh mbh w0h bh L' va' vc' vv' (n + z)) ∧ Hid (PrtE wx base5 ga gc R)) (fun j _ => R.length - (intOf j).toNat)
          case atStart => exact ⟨0, L', va', vc', vv', Nat.zero_le _, rfl, G6, Q6⟩
          case round =>
            obtain ⟨z, L2, va2, vc2, vv2, hz, rfl, K, Q⟩ := hrel
            clear G6 Q6 G HGh
            by_cases hzl : z < R.length
            · obtain ⟨u, hu⟩ : ∃ u, R[z]? = some u := ⟨R[z], by simp [hzl]⟩
              obtain ⟨ad, had, ⟨c0, c1, c2, c3, c4, c5, c6, c7, c8, c9, c10⟩, hlb⟩ := sl_at Q.out.row.cms hu
              have HAt := Lib.hid (Q.out.each u (List.mem_of_getElem? hu)).at_
              have HSu := Lib.hid (part_at HR.out hu)
              have HMay := Lib.hid (HSh.out.may u.c (List.mem_of_getElem? HSu.out))
              subst had
              clear hu
              obtain ⟨⟨⟨⟨r1, i1⟩, s1⟩, ps1, uu1, t1, ⟨k1, n1, x1, p1, ds1⟩⟩, qa1, qc1, ua1, uc1, pa1, pc1, da1, dc1⟩ := u
              dsimp only at c0 c1 c2 c3 c4 c5 c6 c7 c8 c9 c10
              have hul : uu1.length ≤ 64 := by have h1 := HMay.out.canon; dsimp only at h1; rw [← h1]; exact vecOf_length _
              have HA := Lib.hid (show Below wr.heap.size wr (wr.alloc (.cells (ccells r1 i1 s1 qa1 ps1.length qc1 ua1 uu1.length uc1 t1 k1 pa1 p1.length pc1 n1 x1 da1 ds1.length dc1) 46)) from (Below.refl _ _).alloc (Nat.le_refl _) _)
              have KA := Lib.hid (K.out.below HA.out)
              have QA := Lib.hid (Q.out.below HA.out)
              go_wp2_with fail
              refine (insert_G pgh mbh w0h 3 bh L2 va2 vc2 vv2 ⟨⟨((r1, i1), s1), ps1, uu1, t1, ⟨k1, n1, x1, p1, ds1⟩⟩, qa1, qc1, ua1, uc1, pa1, pc1, da1, dc1⟩ _ KA.out.gr (HAt.out.below HA.out) (by dsimp only; omega)).mono ?_
              intro e w7 hto
              obtain ⟨rfl, L3, va3, vc3, vv3, hF, hC⟩ := KA.out.step (by rw [hbf.out]; exact HSi.out) (by rw [hbf.out]; exact HSh.out) HP.out.rg.sorted HSu.out (by rw [HSc.out]; omega) HAt.out.ok.vv hto
              have K7 := Lib.hid hF
              have Q7 := Lib.hid (QA.out.chg hC KA.out.gr.noRow (fun k hk => by simp at hk; rcases hk with rfl | rfl <;> omega))
              clear hto hF hC c0 c1 c2 c3 c4 c5 c6 c7 c8 c9 c10 hlb KA QA HA
              go_wp2_with fail
              go_roundw
              case rel => exact ⟨z + 1, L3, va3, vc3, vv3, by omega, by go_num, K7, Q7⟩
              case measure => simp [intOf]; omega
            · obtain rfl : z = R.length := by omega
              clear hzl hz Q
              have y3 : ¬ most < (R.length : Int) := by omega
              go_wp2_with fail
              go_roundw
              case rel => exact ⟨jj + 1, n + R.length, L2, va2, vc2, vv2, by omega, by go_num, by omega, by omega, K⟩
              case measure => simp [intOf]; omega
        · obtain rfl : n = S.length := by omega
          clear hjn hn
          have HGf := Lib.hid (show HistP F (cms S) vv' from by have h1 := HGh.out; rw [List.take_of_length_le (by rw [HSc.out]; exact Nat.le_refl _)] at h1; exact h1)
          have hve : vv' = vv := HistP.same HGf.out HSh.out
          have HVe := Lib.hid hve
          have HLe := Lib.hid (show cms L' = cms S from by have h1 := G.out.cm; rw [List.take_of_length_le (by rw [HSc.out]; exact Nat.le_refl _)] at h1; exact h1)
          have hvl2 : vv.length ≤ 64 := by rw [← hve]; exact hvl
          clear hve
          go_wp2_with fail
          clear hlt
          refine (vv_G pgh mbh w0h 3 bh L' va' vc' vv' _ G.out.gr).mono ?_
          rintro e w5 ⟨xa, xc, rfl, hx, hb⟩
          have G5 := Lib.hid (G.out.below hb)
          have HP5 := Lib.hid (HPr.out.below hb)
          have HB5 := Lib.hid (below2 HBr.out hb HBr.out.size)
          have HX := Lib.hid (show Vec w5 xa xc vv' from hx.vec)
          clear hx hb HPr HBr
          go_wp2_with fail
          refine (lacks_G pg mb w0 3 b L va vc vv xa xc vv' most _ HP5.out.gr HX.out G5.out.gr.okv (by omega)).mono ?_
          rintro e w6 ⟨ga, gc, R, S2, rfl, hp, hs, hr, ho, he, hb⟩
          obtain rfl : cms S = S2 := sorted_uniq HP.out.perm HP.out.rg.sorted hp hs
          obtain rfl : R = [] := by
            rw [lackP_prefix HSh.out HGh.out, List.drop_of_length_le (by rw [HSc.out]; exact Nat.le_refl _), List.take_nil] at hr
            unfold cms at hr
            simpa using hr
          have G6 := Lib.hid (G5.out.below hb)
          have HP6 := Lib.hid (HP5.out.below hb)
          have HB6 := Lib.hid (below2 HB5.out hb HB5.out.size)
          clear hp hs hr ho he hb G5 HP5 HB5 HX
          simp only [List.length_nil]
          go_wp2_with fail
          refine (vv_G pgh mbh w0h 3 bh L' va' vc' vv' _ G6.out.gr).mono ?_
          rintro e w7 ⟨xa2, xc2, rfl, hx, hb⟩
          have G7 := Lib.hid (G6.out.below hb)
          have HP7 := Lib.hid (HP6.out.below hb)
          have HB7 := Lib.hid (below2 HB6.out hb HB6.out.size)
          have HX := Lib.hid (show Vec w7 xa2 xc2 vv' from hx.vec)
          clear hx hb G6 HP6 HB6
          go_wp2_with fail
          refine (vv_G pg mb w0 3 b L va vc vv _ HP7.out.gr).mono ?_
          rintro e w8 ⟨ya2, yc2, rfl, hx, hb⟩
          have G8 := Lib.hid (G7.out.below hb)
          have HP8 := Lib.hid (HP7.out.below hb)
          have HB8 := Lib.hid (below2 HB7.out hb HB7.out.size)
          have HX8 := Lib.hid (show Vec w8 xa2 xc2 vv' from HX.out.below hb)
          have HY8 := Lib.hid (show Vec w8 ya2 yc2 vv from hx.vec)
          clear hx hb G7 HP7 HB7 HX
          go_wp2_with fail
          refine (same_any xa2 ya2 xc2 yc2 vv' vv _ HX8.out HY8.out (by omega) (by omega)).mono ?_
          rintro e w9 ⟨rfl, hb⟩
          rw [decide_eq_true HVe.out]
          have G9 := Lib.hid (G8.out.below hb)
          have HP9 := Lib.hid (HP8.out.below hb)
          have HB9 := Lib.hid (below2 HB8.out hb HB8.out.size)
          clear hb G8 HP8 HB8 HX8 HY8
          go_wp2_with fail
          refine (heads_G pgh mbh w0h 3 bh L' va' vc' vv' _ G9.out.gr).mono ?_
          rintro e w10 ⟨ha, hc, U1, rfl, hH, hok, hlen, ho, hb⟩
          have G10 := Lib.hid (G9.out.below hb)
          have HP10 := Lib.hid (HP9.out.below hb)
          have HB10 := Lib.hid (below2 HB9.out hb HB9.out.size)
          have HH1 := Lib.hid hH
          have HX10 := Lib.hid (show Vec w10 ha hc U1 from ho.vec)
          clear hH hok ho hb G9 HP9 HB9
          go_wp2_with fail
          refine (heads_G pg mb w0 3 b L va vc vv _ HP10.out.gr).mono ?_
          rintro e w11 ⟨ha2, hc2, U2, rfl, hH, hok, hlen2, ho, hb⟩
          have HB11 := Lib.hid (below2 HB10.out hb HB10.out.size)
          have HX11 := Lib.hid (show Vec w11 ha hc U1 from HX10.out.below hb)
          have HY11 := Lib.hid (show Vec w11 ha2 hc2 U2 from ho.vec)
          have HE := Lib.hid (show U1 = U2 from HeadsP.uniq (by have h1 := HH1.out; rw [hbt.out] at h1; exact h1) hH (fun c => by rw [HLe.out]; exact HP.out.perm.mem_iff))
          clear hH hok ho hb HP10 HB10 HX10 HH1 G10
          go_wp2_with fail
          refine (same_any ha ha2 hc hc2 U1 U2 _ HX11.out HY11.out (by omega) (by omega)).mono ?_
          rintro e w12 ⟨rfl, hb⟩
          rw [decide_eq_true HE.out]
          have HB12 := Lib.hid (below2 HB11.out hb HB11.out.size)
          clear hb
          go_wp2_with fail
          refine (known15_any _).mono ?_
          rintro e w13 ⟨rfl, hb⟩
          have HB13 := Lib.hid (below2 HB12.out hb HB12.out.size)
          clear hb
          go_wp2_with fail
          go_ret
          exact ⟨rfl, HB13.out⟩
end Go.Proofs.YthdmoplclllhjaaGreat
