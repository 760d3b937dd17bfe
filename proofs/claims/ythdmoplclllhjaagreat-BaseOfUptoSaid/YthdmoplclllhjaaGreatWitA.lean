/- The page's example of bases, plainly: a fork, and one that shares nothing. No program in sight. | slices.DeleteFunc of commits in a row of their own, by any function: contract. (printed by wip/tools/gendelc.py) | Graph.Base, base.Within: the contracts. -/
import Derived.Test.YthdmoplclllhjaaGreatDagP
import Derived.Test.YthdmoplclllhjaaGreatGraQ
import Derived.Test.YthdmoplclllhjaaGreatGreA
import Derived.Test.YthdmoplclllhjaaGreatRgA
import Derived.Test.YthdmoplclllhjaaGreatBasB
import Derived.Test.YthdmoplclllhjaaGreatGraV
/- KnoP -/
namespace Go.Proofs.YthdmoplclllhjaaGreat
open Go.RowKit
set_option linter.unusedVariables false
set_option linter.unusedSimpArgs false

def kD2 : Dt := ((2, 1), 1)
def kD3 : Dt := ((3, 1), 1)
def kY : Cm := ⟨kD2, [kD], [kD, kD2], 2, kO⟩
def kZ : Cm := ⟨kD3, [], [kD3], 1, kO⟩
def k4 : List Cm := [kC, kL, kY, kZ]
theorem kY_may : CmP kY := by
  refine ⟨by decide, by decide, by decide, kO_may, by decide +kernel, by decide +kernel, by decide, ⟨List.pairwise_singleton _ _, fun x hx => ?_⟩, ⟨List.Pairwise.nil, fun x hx => by cases hx⟩⟩
  simp [kY] at hx
  subst hx
  exact ⟨by decide, by decide +kernel⟩
theorem kZ_may : CmP kZ := ⟨by decide, by decide, by decide, kO_may, by decide +kernel, by decide +kernel, by decide, ⟨List.Pairwise.nil, fun x hx => by cases hx⟩, ⟨List.Pairwise.nil, fun x hx => by cases hx⟩⟩
theorem getN_pair (a b : Dt) (x : Ac) : getN [a, b] x = max (getN [a] x) (getN [b] x) := getN_append [a] [b] x
theorem kn_L (x : Ac) : knN [] (findC [kC]) kL kL.ps x = getN kL.vv x := by
  show max (max (min (getN [kD, kD1] x) (getN [] x)) (getN [kD1, kD] x)) (getN [kD] x) = getN [kD, kD1] x
  have := (getN_bd [kD] x).1
  have := (getN_bd [kD1] x).1
  have h : getN [] x = 0 := rfl
  rw [getN_pair, getN_pair]
  omega
theorem kn_Y (x : Ac) : knN [] (findC [kC, kL]) kY kY.ps x = getN kY.vv x := by
  show max (max (min (getN [kD, kD2] x) (getN [] x)) (getN [kD2, kD] x)) (getN [kD] x) = getN [kD, kD2] x
  have := (getN_bd [kD] x).1
  have := (getN_bd [kD2] x).1
  have h : getN [] x = 0 := rfl
  rw [getN_pair, getN_pair]
  omega
theorem kn_Z (x : Ac) : knN [] (findC [kC, kL, kY]) kZ kZ.ps x = getN kZ.vv x := by
  show max (min (getN [kD3] x) (getN [] x)) (getN [kD3] x) = getN [kD3] x
  have := (getN_bd [kD3] x).1
  have h : getN [] x = 0 := rfl
  omega
theorem kL_ok : insE [] (findC [kC]) 1 kL = 0 := by
  refine insE_ok kL_may (by decide +kernel) ⟨fun p hp => ?_, fun h => absurd h (by decide), fun x => Int.le_of_eq (kn_L x).symm⟩ ⟨fun x => Int.le_of_eq (kn_L x), ⟨.inl rfl, fun p hp y hy => ?_⟩⟩ (by decide)
  · simp [kL] at hp; subst hp; decide +kernel
  · simp [kL] at hp
    subst hp
    have e : findC [kC] kD = some kC := rfl
    rw [e] at hy
    cases hy
    exact ⟨fun q hq hne => (by simp [kL] at hq; exact absurd hq hne), by decide⟩
theorem kY_ok : insE [] (findC [kC, kL]) 2 kY = 0 := by
  refine insE_ok kY_may (by decide +kernel) ⟨fun p hp => ?_, fun h => absurd h (by decide), fun x => Int.le_of_eq (kn_Y x).symm⟩ ⟨fun x => Int.le_of_eq (kn_Y x), ⟨.inl rfl, fun p hp y hy => ?_⟩⟩ (by decide)
  · simp [kY] at hp; subst hp; decide +kernel
  · simp [kY] at hp
    subst hp
    have e : findC [kC, kL] kD = some kC := rfl
    rw [e] at hy
    cases hy
    exact ⟨fun q hq hne => (by simp [kY] at hq; exact absurd hq hne), by decide⟩
theorem kZ_ok : insE [] (findC [kC, kL, kY]) 3 kZ = 0 :=
  insE_ok kZ_may (by decide +kernel) ⟨fun p hp => (by cases hp), fun h => absurd h (by decide), fun x => Int.le_of_eq (kn_Z x).symm⟩ ⟨fun x => Int.le_of_eq (kn_Z x), ⟨.inl rfl, fun p hp => (by cases hp)⟩⟩ (by decide)
theorem k4_ok {q : Nat} {c : Cm} (h : k4[q]? = some c) : insE [] (findC (k4.take q)) q c = 0 := by
  match q, h with
  | 0, h => cases h; exact kC_ok
  | 1, h => cases h; exact kL_ok
  | 2, h => cases h; exact kY_ok
  | 3, h => cases h; exact kZ_ok
  | q + 4, h => simp [k4] at h
/-- what a commit of a dot knows, as a Bool -/
def dnB (d x : Dt) : Bool := (findC k4 x).isSome && (match findC k4 d with | some y => hasV y.vv x | none => false)
theorem dn_iff (d x : Dt) : downS k4 (fun y => y ∈ [d]) x ↔ dnB d x = true := by
  unfold downS dnB
  constructor
  · rintro ⟨z, hz, e, he, y, hy, hh⟩
    rw [List.mem_singleton] at he
    subst he
    rw [hz, hy]
    simpa using hh
  · intro h
    rw [Bool.and_eq_true] at h
    cases hz : findC k4 x with
    | none => rw [hz] at h; cases h.1
    | some z =>
      cases hy : findC k4 d with
      | none => rw [hy] at h; cases h.2
      | some y => rw [hy] at h; exact ⟨z, rfl, d, by simp, y, hy, h.2⟩
theorem k4_mem {c : Cm} (h : c ∈ k4) : c = kC ∨ c = kL ∨ c = kY ∨ c = kZ := by simpa [k4] using h
theorem bof_fork {v : List Dt} (h : BofP k4 [kD1] kD2 v) : v = [kD] := by
  obtain ⟨B, hB, hv⟩ := h
  have hB2 : ∀ c, c ∈ B ↔ c = kC := fun c => by
    rw [hB c, dn_iff, dn_iff]
    constructor
    · rintro ⟨h1, h2, h3⟩
      rcases k4_mem h1 with rfl | rfl | rfl | rfl
      · rfl
      · exact absurd h3 (by decide +kernel)
      · exact absurd h2 (by decide +kernel)
      · exact absurd h2 (by decide +kernel)
    · rintro rfl
      exact ⟨by simp [k4], by decide +kernel, by decide +kernel⟩
  have hb : behindB B kD = false := by
    rw [← Bool.not_eq_true, behindB_iff]
    rintro ⟨y, hy, h1, _⟩
    rw [hB2] at hy
    subst hy
    exact h1 rfl
  refine rising_ext (lt := ltD) ltD_irrefl (fun h k => ltD_trans h k) hv.1 (List.pairwise_singleton _ _) fun d => ?_
  rw [hv.2 d]
  simp only [List.mem_singleton, List.not_mem_nil, false_or]
  constructor
  · rintro ⟨⟨c, hc, rfl⟩, _⟩
    rw [hB2] at hc
    subst hc; rfl
  · rintro rfl
    exact ⟨⟨kC, (hB2 _).2 rfl, rfl⟩, hb⟩
theorem bof_none {v : List Dt} (h : BofP k4 [kD1] kD3 v) : v = [] := by
  obtain ⟨B, hB, hv⟩ := h
  cases v with
  | nil => rfl
  | cons d v =>
    rcases ((hv.2 d).1 (by simp)).1 with h1 | ⟨c, hc, _⟩
    · cases h1
    · obtain ⟨h1, h2, h3⟩ := (hB c).1 hc
      rw [dn_iff] at h2 h3
      rcases k4_mem h1 with rfl | rfl | rfl | rfl
      · exact absurd h3 (by decide +kernel)
      · exact absurd h3 (by decide +kernel)
      · exact absurd h2 (by decide +kernel)
      · exact absurd h2 (by decide +kernel)
/-- those within c and z, the greatest: c and z -/
theorem within_two {B : List Cm} {v : List Dt} (hB : ∀ c, c ∈ B ↔ c = kC ∨ c = kZ) (hv : HeadsP [] B v) : v.length = 2 := by
  have hlt : ltD kD kD3 := by unfold ltD; decide
  have e : v = [kD, kD3] := by
    refine rising_ext (lt := ltD) ltD_irrefl (fun h k => ltD_trans h k) hv.1 (List.pairwise_cons.2 ⟨fun x hx => by simp at hx; subst hx; exact hlt, List.pairwise_singleton _ _⟩) fun d => ?_
    rw [hv.2 d]
    simp only [List.mem_cons, List.not_mem_nil, or_false, false_or]
    constructor
    · rintro ⟨⟨c, hc, rfl⟩, _⟩
      rcases (hB c).1 hc with rfl | rfl
      · exact .inl rfl
      · exact .inr rfl
    · have key : ∀ x y : Cm, (x = kC ∨ x = kZ) → (y = kC ∨ y = kZ) → y.d ≠ x.d → hasV y.vv x.d = false := by
        rintro x y (rfl | rfl) (rfl | rfl) hne
        · exact absurd rfl hne
        · decide +kernel
        · decide +kernel
        · exact absurd rfl hne
      have hb : ∀ x : Cm, (x = kC ∨ x = kZ) → behindB B x.d = false := fun x hx => by
        rw [← Bool.not_eq_true, behindB_iff]
        rintro ⟨y, hy, h1, h2⟩
        rw [key x y hx ((hB y).1 hy) h1] at h2
        cases h2
      rintro (rfl | rfl)
      · exact ⟨⟨kC, (hB _).2 (.inl rfl), rfl⟩, hb kC (.inl rfl)⟩
      · exact ⟨⟨kZ, (hB _).2 (.inr rfl), rfl⟩, hb kZ (.inr rfl)⟩
  rw [e]; rfl
end Go.Proofs.YthdmoplclllhjaaGreat

/- DelC -/
namespace Go.Proofs.YthdmoplclllhjaaGreat
open Go.RowKit
set_option linter.unusedVariables false
set_option linter.unusedSimpArgs false

def keepC' (p : Cw → Bool) (l : List Cw) : List Cw := l.filter fun d => !p d
theorem keepC_none {p : Cw → Bool} {l : List Cw} (h : ∀ d ∈ l, p d = false) : keepC' p l = l := List.filter_eq_self.2 fun d hd => by rw [h d hd]; rfl
theorem keepC_snoc {p : Cw → Bool} {l : List Cw} {q : Nat} {d : Cw} (hd : l[q]? = some d) : keepC' p (l.take (q + 1)) = if p d = true then keepC' p (l.take q) else keepC' p (l.take q) ++ [d] := by
  unfold keepC'
  rw [take_snoc' hd, List.filter_append]
  cases hp : p d <;> simp [hp]
/-- the first jj of l are gone through, kk are kept at the start of cur -/
structure DelJ (p : Cw → Bool) (l cur : List Cw) (kk jj : Nat) : Prop where
  len : cur.length = l.length
  lt : kk < jj ∧ jj ≤ l.length
  kept : cur.take kk = keepC' p (l.take jj)
  rest : ∀ i, jj ≤ i → cur[i]? = l[i]?
theorem DelJ.start {p : Cw → Bool} {l : List Cw} {q : Nat} {d : Cw} (hd : l[q]? = some d) (hp : p d = true) (h : ∀ s ∈ l.take q, p s = false) : DelJ p l l q (q + 1) :=
  ⟨rfl, ⟨Nat.lt_succ_self _, (List.getElem?_eq_some_iff.1 hd).1⟩, by rw [keepC_snoc hd, if_pos hp, keepC_none h], fun _ _ => rfl⟩
theorem DelJ.skip {p : Cw → Bool} {l cur : List Cw} {kk jj : Nat} {d : Cw} (h : DelJ p l cur kk jj) (hd : l[jj]? = some d) (hp : p d = true) : DelJ p l cur kk (jj + 1) :=
  ⟨h.len, ⟨by have := h.lt; omega, (List.getElem?_eq_some_iff.1 hd).1⟩, by rw [keepC_snoc hd, if_pos hp, h.kept], fun i hi => h.rest i (by omega)⟩
theorem DelJ.keep {p : Cw → Bool} {l cur : List Cw} {kk jj : Nat} {d : Cw} (h : DelJ p l cur kk jj) (hd : l[jj]? = some d) (hp : p d = false) : DelJ p l (cur.set kk d) (kk + 1) (jj + 1) := by
  have hjl := (List.getElem?_eq_some_iff.1 hd).1
  have hkl : kk < cur.length := by have := h.lt; have := h.len; omega
  refine ⟨by rw [List.length_set, h.len], ⟨by have := h.lt; omega, hjl⟩, ?_, fun i hi => ?_⟩
  · rw [keepC_snoc hd, if_neg (by rw [hp]; simp), ← h.kept]
    have hs : (cur.set kk d)[kk]? = some d := by rw [List.getElem?_set_self hkl]
    rw [take_snoc' hs, List.take_set_of_le (Nat.le_refl _)]
  · rw [List.getElem?_set_ne (by have := h.lt; omega)]
    exact h.rest i (by omega)
theorem DelJ.done {p : Cw → Bool} {l cur : List Cw} {kk : Nat} (h : DelJ p l cur kk l.length) : cur.take kk = keepC' p l := by have := h.kept; rwa [List.take_length] at this
theorem OwnC.capC {w : World} {base c : Nat} {a : Option Addr} {v : List Cw} (h : OwnC w base a c v) : v.length ≤ c := h.cms.2.1
theorem OwnC.free {w : World} {base g c : Nat} {v : List Cw} (h : OwnC w base (some ⟨g, 0, none⟩) c v) (j : Nat) : w.frozen? ⟨g, j, none⟩ = false := World.ownsRow.frozenAt h j
set_option maxRecDepth 100000 in
/-- 'clear' of the end of a row: what stands ahead stays -/
theorem run_clearC {w : World} {base g n c : Nat} {v : List Cw} (h : OwnC w base (some ⟨g, 0, none⟩) c v) (ty : TypeId) (k : Nat) (hk : k < v.length) :
    ∃ w', (Builtin.clear_ #[29] ty #[.slice (some ⟨g, k * 11, none⟩) (v.length - k) (c - k)]).run Tryz.prog w = .ok (.tuple #[]) w' ∧ OwnC w' base (some ⟨g, 0, none⟩) c (v.take k) ∧ Chg [g] w w' := by
  have hh := h
  rcases h.2 with ⟨h3, h4⟩ | ⟨g', cap, cur, h3, hb, hg, hnc, hcm, hcs, ht⟩
  · simp at h3
  simp only [Value.slice.injEq, Option.some.injEq, Addr.mk.injEq, and_true, true_and] at h3
  obtain ⟨rfl, rfl⟩ := h3
  obtain ⟨m, hm⟩ : ∃ m, v.length - k = m + 1 := ⟨v.length - k - 1, by omega⟩
  have hzl : ((Builtin.zeroCells #[.int .u8 0, .int .u32 0, .int .u64 0, .slice none 0 0, .slice none 0 0, .int .u64 0, .int .u8 0, .slice none 0 0, .int .i64 0, .string ⟨#[]⟩, .slice none 0 0] (m + 1)).toList).length = (m + 1) * 11 := by simp [size_zeroCells]
  have hst := run_storeCells_cells (P := Tryz.prog) g (k * 11) (Builtin.zeroCells #[.int .u8 0, .int .u32 0, .int .u64 0, .slice none 0 0, .slice none 0 0, .int .u64 0, .int .u8 0, .slice none 0 0, .int .i64 0, .string ⟨#[]⟩, .slice none 0 0] (m + 1)).toList 0 w
    (fun j hj => by
      rw [hzl] at hj
      rw [hh.cellAt (g := g) (k * 11 + 0 + j) (by omega), List.getElem?_eq_getElem (by rw [ccs_length]; omega)]
      rfl)
    (fun j hj => hh.frozenAt (g := g) _) (fun u hu => by
      have := zeroCells_mem (by decide) hu
      simp at this
      rcases this with rfl | rfl | rfl | rfl | rfl | rfl | rfl | rfl | rfl | rfl | rfl <;> rfl)
  obtain ⟨cur', q1, q2, q3⟩ := setCells_block g 46 (Builtin.zeroCells #[.int .u8 0, .int .u32 0, .int .u64 0, .slice none 0 0, .slice none 0 0, .int .u64 0, .int .u8 0, .slice none 0 0, .int .i64 0, .string ⟨#[]⟩, .slice none 0 0] (m + 1)).toList (k * 11) w cur hg (by rw [hzl, hcs]; omega)
  refine ⟨w.setCells g (k * 11) (Builtin.zeroCells #[.int .u8 0, .int .u32 0, .int .u64 0, .slice none 0 0, .slice none 0 0, .int .u64 0, .int .u8 0, .slice none 0 0, .int .i64 0, .string ⟨#[]⟩, .slice none 0 0] (m + 1)).toList, ?_, ?_, Chg.setCells _ _ _ _⟩
  · rw [hm]
    simp only [Nat.add_zero] at hst
    simp [Builtin.clear_, run_underlying Tryz.underlying29, zeroCommit, Value.cells, hst]
  · unfold OwnC
    have hl : (v.take k).length = k := by rw [List.length_take]; omega
    rw [hl]
    refine ⟨by rw [ccs_length, hl], .inr ⟨g, c, cur', rfl, hb, q1, by omega, hcm, by rw [q2, hcs], ?_⟩⟩
    rw [q3]
    have e1 : cur.toList.take (k * 11) = (ccs v).take (k * 11) := by rw [← ht, List.take_take, Nat.min_eq_left (by omega)]
    rw [e1]
    exact ccs_take v k
def IxFst2 (w : World) (l : List Cw) (p : Cw → Bool) (e : Ending) (w' : World) : Prop :=
  ∃ k : Int, e = .returned (.int .i64 k) ∧ ((k = -1 ∧ ∀ d ∈ l, p d = false) ∨ ∃ (q : Nat) (d : Cw), k = q ∧ l[q]? = some d ∧ p d = true ∧ ∀ s ∈ l.take q, p s = false) ∧ Below w.heap.size w w'
set_option maxRecDepth 100000 in
set_option maxHeartbeats 4000000 in
theorem indexC2_fn (fn : FuncId) (cap : Array Value) (p : Cw → Bool) (a : Option Addr) (c : Nat) (l : List Cw) (w : World) (h : Cms w a c l) (hn : l.length ≤ 1100000)
    (he : ∀ args w, (callFunc fn args).run Tryz.prog w = .ok (.enter fn args) w)
    (hp : ∀ x ∈ l, ∀ W, Below w.heap.size w W → Calls Tryz.prog fn (#[.agg (cwcells x)] ++ cap) W (fun e W' => e = .returned (.bool (p x)) ∧ Below W.heap.size W W')) :
    Calls Tryz.prog 164 #[.slice a l.length c, .func (.func fn) #[] cap] w (IxFst2 w l p) := by
  have H := Lib.hid h
  have HP := Lib.hid hp
  clear h hp
  go_enter Tryz.func164, Tryz.ntmps164
  go_wp2_with fail
  go_loopw [8] (fun j wr => ∃ q : Nat, q ≤ l.length ∧ j = .int .i64 q ∧ Hid (Below w.heap.size w wr) ∧ Hid (∀ s ∈ l.take q, p s = false)) (fun j _ => l.length - (intOf j).toNat)
  case atStart => exact ⟨0, Nat.zero_le _, rfl, Lib.hid (Below.refl _ _), Lib.hid (fun s hs => by simp at hs)⟩
  case round =>
    obtain ⟨q, hq, rfl, HB, Hall⟩ := hrel
    by_cases hlt : q < l.length
    · obtain ⟨v, hv⟩ : ∃ x, l[q]? = some x := ⟨l[q], by simp [hlt]⟩
      obtain ⟨ad, had, ⟨c0, c1, c2, c3, c4, c5, c6, c7, c8, c9, c10⟩, hlb⟩ := (H.out.below HB.out).at_ hv
      subst had
      have Hx := Lib.hid hv
      have HPx := Lib.hid (HP.out v (List.mem_of_getElem? hv))
      clear hv
      obtain ⟨⟨⟨⟨r, i⟩, s⟩, ps, uu, t1, ⟨k, n, x, p1, ds⟩⟩, qa, qc, ua, uc, pa, pc, da, dc⟩ := v
      dsimp only at c0 c1 c2 c3 c4 c5 c6 c7 c8 c9 c10
      go_wp2_with fail
      refine (HPx.out _ HB.out).mono ?_
      rintro e w1 ⟨rfl, hb⟩
      have HB1 := Lib.hid (below2 HB.out hb HB.out.size)
      clear hb c0 c1 c2 c3 c4 c5 c6 c7 c8 c9 c10 hlb HPx
      cases hz : p ⟨⟨((r, i), s), ps, uu, t1, ⟨k, n, x, p1, ds⟩⟩, qa, qc, ua, uc, pa, pc, da, dc⟩ with
      | true =>
        have Hy := Lib.hid hz
        go_wp2_with fail
        go_ret
        exact ⟨q, rfl, .inr ⟨q, _, rfl, Hx.out, Hy.out, Hall.out⟩, HB1.out⟩
      | false =>
        have Hz := Lib.hid hz
        clear hz
        go_wp2_with fail
        go_roundw
        case rel => exact ⟨q + 1, by omega, by go_num, HB1, Lib.hid (all_snoc (p := fun s : Cw => p s = false) Hx.out Hall.out Hz.out)⟩
        case measure => simp [intOf]; omega
    · have ha := Hall.out
      rw [List.take_of_length_le (by omega)] at ha
      have Ha := Lib.hid ha
      clear ha
      go_wp2_with fail
      go_ret
      exact ⟨-1, rfl, .inl ⟨rfl, Ha.out⟩, HB.out⟩
set_option maxRecDepth 100000 in
set_option maxHeartbeats 16000000 in
theorem deleteC_fn (fn : FuncId) (cap : Array Value) (p : Cw → Bool) (a : Option Addr) (c base : Nat) (l : List Cw) (w : World) (h : OwnC w base a c l) (hat : ∀ v ∈ l, CwAt w v) (hn : l.length ≤ 1100000)
    (he : ∀ args w, (callFunc fn args).run Tryz.prog w = .ok (.enter fn args) w)
    (hp : ∀ v ∈ l, ∀ W, Chg (ob a) w W → Calls Tryz.prog fn (#[.agg (cwcells v)] ++ cap) W (fun e W' => e = .returned (.bool (p v)) ∧ Below W.heap.size W W')) :
    Calls Tryz.prog 113 #[.slice a l.length c, .func (.func fn) #[] cap] w fun e w' => ∃ v', e = .returned (.slice a (List.length v') c) ∧ v' = keepC' p l ∧ OwnC w' base a c v' ∧ Chg (ob a) w w' := by
  have H := Lib.hid h
  have HP := Lib.hid hp
  have HAt := Lib.hid hat
  clear h hp hat
  go_enter Tryz.func113, Tryz.ntmps113
  go_wp2_with fail
  refine (indexC2_fn fn cap p a c l _ ⟨H.out.cms, HAt.out⟩ hn he (fun v hv W hW => HP.out v hv W (Chg.of_below hW))).mono ?_
  intro e w1 hto
  obtain ⟨k, rfl, hk, hb⟩ := hto
  have HB := Lib.hid hb
  clear hb
  obtain ⟨rfl, hnone⟩ | ⟨q, d, rfl, hqd, hpd, hall⟩ := hk
  · have Hn := Lib.hid hnone
    clear hnone
    go_wp2_with fail
    go_ret
    exact ⟨l, rfl, (keepC_none Hn.out).symm, H.out.below HB.out, Chg.of_below HB.out⟩
  · obtain ⟨g, rfl⟩ : ∃ g, a = some ⟨g, 0, none⟩ := by
      have h0 := (List.getElem?_eq_some_iff.1 hqd).1
      rcases H.out.2 with ⟨h1, h2⟩ | ⟨g, cap, cur, h1, _⟩
      · omega
      · simp at h1; exact ⟨g, h1.1⟩
    have hcap := H.out.capC
    have Hst := Lib.hid (DelJ.start hqd hpd hall)
    have hql : q < l.length := (List.getElem?_eq_some_iff.1 hqd).1
    clear hqd hpd hall
    have e1 : ((q : Int) == -1) = false := by rw [beq_eq_false_iff_ne]; omega
    go_wp2_with fail
    go_loopw [5, 6] (fun kv jv wx => ∃ (kk jj : Nat) (cur : List Cw), kv = .int .i64 kk ∧ jv = .int .i64 jj ∧ Hid (DelJ p l cur kk jj) ∧ Hid (OwnC wx base (some ⟨g, 0, none⟩) c cur) ∧ Hid (Chg [g] w wx)) (fun _ jv _ => l.length - (intOf jv).toNat)
    case atStart => exact ⟨q, q + 1, l, rfl, by go_num, Hst, Lib.hid (H.out.below HB.out), Lib.hid (Chg.of_below HB.out)⟩
    case round =>
      rename_i wx _
      clear e1
      obtain ⟨kk, jj, cur, rfl, rfl, hD, hO, hC⟩ := hrel
      have hcap2 := hO.out.capC
      have Hcl := Lib.hid hD.out.len
      have hkj : kk < jj := hD.out.lt.1
      have hjl : jj ≤ l.length := hD.out.lt.2
      by_cases hlt : jj < l.length
      · obtain ⟨v, hx⟩ : ∃ x, l[jj]? = some x := ⟨l[jj], by simp [hlt]⟩
        have hx' := (hD.out.rest jj (Nat.le_refl _)).trans hx
        have R0 := hO.out.range hx'
        have Hx := Lib.hid hx
        have HPx := Lib.hid (HP.out v (List.mem_of_getElem? hx))
        clear hx hx'
        obtain ⟨⟨⟨⟨r, i⟩, s⟩, ps, uu, t1, ⟨k, n, x, p1, ds⟩⟩, qa, qc, ua, uc, pa, pc, da, dc⟩ := v
        have c0 := R0 0 _ rfl
        have c1 := R0 1 _ rfl
        have c2 := R0 2 _ rfl
        have c3 := R0 3 _ rfl
        have c4 := R0 4 _ rfl
        have c5 := R0 5 _ rfl
        have c6 := R0 6 _ rfl
        have c7 := R0 7 _ rfl
        have c8 := R0 8 _ rfl
        have c9 := R0 9 _ rfl
        have c10 := R0 10 _ rfl
        simp only [Nat.add_zero] at c0
        clear R0
        have HA := Lib.hid (show Below wr.heap.size wr (wr.alloc (.cells (ccells r i s qa ps.length qc ua uu.length uc t1 k pa p1.length pc n x da ds.length dc) 46)) from (Below.refl _ _).alloc (Nat.le_refl _) _)
        go_wp2_with fail
        refine (HPx.out _ ((hC.out.trans (Chg.of_below (F := []) HA.out) (by simp)))).mono ?_
        rintro e w3 ⟨rfl, hb3⟩
        have X3 := Lib.hid (new1 hb3).1
        have O3 := Lib.hid ((hO.out.below HA.out).below hb3)
        have C3 := Lib.hid ((hC.out.trans (Chg.of_below (F := []) HA.out) (by simp)).trans (Chg.of_below (F := []) hb3) (by simp))
        have x3 := cells_at X3.out
        clear hb3 c0 c1 c2 c3 c4 c5 c6 c7 c8 c9 c10
        cases hz : p ⟨⟨((r, i), s), ps, uu, t1, ⟨k, n, x, p1, ds⟩⟩, qa, qc, ua, uc, pa, pc, da, dc⟩ with
        | true =>
          have Hz := Lib.hid hz
          go_wp2_with fail
          go_roundw
          case rel => exact ⟨kk, jj + 1, cur, rfl, by go_num, Lib.hid (hD.out.skip Hx.out Hz.out), O3, C3⟩
          case measure => simp [intOf]; omega
        | false =>
          have Hz := Lib.hid hz
          have hkl : kk < cur.length := by have := Hcl.out; omega
          obtain ⟨v2, hv⟩ : ∃ x, cur[kk]? = some x := ⟨cur[kk], by simp [hkl]⟩
          obtain ⟨⟨⟨⟨r2, i2⟩, s2⟩, ps2, uu2, t2, ⟨k2, n2, x2, p2, ds2⟩⟩, qa2, qc2, ua2, uc2, pa2, pc2, da2, dc2⟩ := v2
          have R3 := O3.out.range hv
          have y0 : w3.cell? ⟨g, kk * 11, none⟩ = some (.int .u8 r2) := R3 0 _ rfl
          have y1 : w3.cell? ⟨g, kk * 11 + 1, none⟩ = some (.int .u32 i2) := R3 1 _ rfl
          have y2 : w3.cell? ⟨g, kk * 11 + 2, none⟩ = some (.int .u64 s2) := R3 2 _ rfl
          have y3 : w3.cell? ⟨g, kk * 11 + 3, none⟩ = some (.slice qa2 ps2.length qc2) := R3 3 _ rfl
          have y4 : w3.cell? ⟨g, kk * 11 + 4, none⟩ = some (.slice ua2 uu2.length uc2) := R3 4 _ rfl
          have y5 : w3.cell? ⟨g, kk * 11 + 5, none⟩ = some (.int .u64 t2) := R3 5 _ rfl
          have y6 : w3.cell? ⟨g, kk * 11 + 6, none⟩ = some (.int .u8 k2) := R3 6 _ rfl
          have y7 : w3.cell? ⟨g, kk * 11 + 7, none⟩ = some (.slice pa2 p2.length pc2) := R3 7 _ rfl
          have y8 : w3.cell? ⟨g, kk * 11 + 8, none⟩ = some (.int .i64 n2) := R3 8 _ rfl
          have y9 : w3.cell? ⟨g, kk * 11 + 9, none⟩ = some (.string x2) := R3 9 _ rfl
          have y10 : w3.cell? ⟨g, kk * 11 + 10, none⟩ = some (.slice da2 ds2.length dc2) := R3 10 _ rfl
          have fz : ∀ o, w3.frozen? ⟨g, o, none⟩ = false := fun o => World.ownsRow.frozenAt O3.out o
          have q1 := O3.out.put ⟨⟨((r, i), s), ps, uu, t1, ⟨k, n, x, p1, ds⟩⟩, qa, qc, ua, uc, pa, pc, da, dc⟩ hkl
          have e11 : w3.setCells g (kk * 11) (ccel ⟨⟨((r, i), s), ps, uu, t1, ⟨k, n, x, p1, ds⟩⟩, qa, qc, ua, uc, pa, pc, da, dc⟩) = (((((((((((w3.setCell ⟨g, kk * 11, none⟩ (.int .u8 r)).setCell ⟨g, kk * 11 + 1, none⟩ (.int .u32 i)).setCell ⟨g, kk * 11 + 2, none⟩ (.int .u64 s)).setCell ⟨g, kk * 11 + 3, none⟩ (.slice qa ps.length qc)).setCell ⟨g, kk * 11 + 4, none⟩ (.slice ua uu.length uc)).setCell ⟨g, kk * 11 + 5, none⟩ (.int .u64 t1)).setCell ⟨g, kk * 11 + 6, none⟩ (.int .u8 k)).setCell ⟨g, kk * 11 + 7, none⟩ (.slice pa p1.length pc)).setCell ⟨g, kk * 11 + 8, none⟩ (.int .i64 n)).setCell ⟨g, kk * 11 + 9, none⟩ (.string x)).setCell ⟨g, kk * 11 + 10, none⟩ (.slice da ds.length dc)) := rfl
          rw [e11] at q1
          have Q1 := Lib.hid q1
          simp only [ccells] at x3
          clear hv R3 q1 e11
          go_wp2_with fail
          exact ⟨⟨kk + 1, jj + 1, cur.set kk ⟨⟨((r, i), s), ps, uu, t1, ⟨k, n, x, p1, ds⟩⟩, qa, qc, ua, uc, pa, pc, da, dc⟩, by go_num, by go_num, Lib.hid (hD.out.keep Hx.out Hz.out), Lib.hid Q1.out.1, Lib.hid (C3.out.trans Q1.out.2 (fun x hx _ => hx))⟩, by simp [intOf]; omega⟩
      · have hjj : jj = l.length := by omega
        have Hd := Lib.hid (show cur.take kk = keepC' p l from by have := hD.out; rw [hjj] at this; exact this.done)
        have hkl : kk < cur.length := by have := Hcl.out; omega
        have hck : c ≠ kk := by have := Hcl.out; omega
        have hadd : (⟨g, 0, none⟩ : Addr).add (kk * 11) = ⟨g, kk * 11, none⟩ := by unfold Addr.add; split <;> simp_all
        have hs3 := fun W => sl_loC (some ⟨g, 0, none⟩) cur.length c kk (Nat.le_of_lt hkl) hcap2 W
        have hs4 := fun W => sl_hiC (some ⟨g, 0, none⟩) cur.length c kk (by omega) W
        obtain ⟨w5, hr5, ho5, hC5⟩ := run_clearC (n := 0) hO.out 0 kk hkl
        rw [if_neg hck] at hs3
        simp only [Option.map_some, hadd] at hs3
        rw [Hcl.out] at hs3 hs4 hr5
        have Ho5 := Lib.hid ho5
        have HC5 := Lib.hid (hC.out.trans hC5 (by simp))
        have hl5 : (cur.take kk).length = kk := by rw [List.length_take]; omega
        have Hl5 := Lib.hid hl5
        clear ho5 hC5 hl5 hadd hjj
        go_wp2_with (at_builtin; go_must (refine wpList_clear_run rfl _ _ rfl _ hr5 ?_))
        go_wp2_with fail
        go_ret
        exact ⟨cur.take kk, by rw [Hl5.out]; rfl, Hd.out, Ho5.out, HC5.out⟩
end Go.Proofs.YthdmoplclllhjaaGreat

/- WitA -/
namespace Go.Proofs.YthdmoplclllhjaaGreat
open Go.RowKit
set_option linter.unusedVariables false
set_option linter.unusedSimpArgs false

theorem five_at {W : World} {b : Nat} {a0 a1 a2 a3 a4 : Value} {t : TypeId} (h : W.heap[b]? = some (.cells #[a0, a1, a2, a3, a4] t (0, 0))) (x0 x1 x2 x3 x4 : Value) :
    (((((W.setCell ⟨b, 0, none⟩ x0).setCell ⟨b, 1, none⟩ x1).setCell ⟨b, 2, none⟩ x2).setCell ⟨b, 3, none⟩ x3).setCell ⟨b, 4, none⟩ x4).heap[b]? = some (.cells #[x0, x1, x2, x3, x4] t (0, 0)) := by
  have h6 := Go.heap_setCell_same _ b 4 _ t x4 (Go.heap_setCell_same _ b 3 _ t x3 (Go.heap_setCell_same _ b 2 _ t x2 (Go.heap_setCell_same _ b 1 _ t x1 (Go.heap_setCell_same W b 0 _ t x0 h))))
  simp only [List.setIfInBounds_toArray, List.set_cons_zero, List.set_cons_succ] at h6
  exact h6
set_option maxRecDepth 100000 in
set_option maxHeartbeats 8000000 in
theorem base_G (pg mb : Nat) (w0 : World) (m : Nat) (b : Bw) (L : List Cw) (va : Option Addr) (vc : Nat) (vv : List Dt) (w : World) (h : GrAt w pg mb w0 m b L va vc vv) (ht : TrRd w0 3 b.ra b.rc b.b.tr) (hB : BdA 1100000 3 b.b.tr) :
    Calls Tryz.prog 39 #[.pointer (some ⟨pg, 0, none⟩)] w (OwnBTo w b.b) := by
  have hfm := h.fmax
  have htm := h.tmax
  have H3 : Hid (BwAt w 3 b) := Lib.hid (BwAt.below ⟨h.base.f, h.base.tips, ht, h.base.okf, h.base.okt, h.base.num, h.base.t⟩ h.bel)
  have HBl := Lib.hid h.blk
  have HBd := Lib.hid hB
  clear h ht hB
  obtain ⟨⟨num, F, tips, t, tr⟩, fa, fc, ta, tc, ra, rc⟩ := b
  dsimp only at hfm htm
  have E0 : Hid (BoxE 28 w (w.alloc (.cells #[.int .u64 0, .slice none 0 0, .slice none 0 0, .int .u64 0, .slice none 0 0] 28)) #[.int .u64 0, .slice none 0 0, .slice none 0 0, .int .u64 0, .slice none 0 0]) := Lib.hid ⟨heap_new _ _, (Below.refl _ _).alloc (Nat.le_refl _) _⟩
  have G0 := Lib.hid ((E0.out.bel.block _ (heap_lt HBl.out)).trans HBl.out)
  have g0 := cells_at G0.out
  simp only [gcells] at g0
  have hpg := heap_lt HBl.out
  go_enter Tryz.func39, Tryz.ntmps39
  go_wp2_with fail
  refine (none_some pg mb _ ?c5).mono ?_
  case c5 => exact cells_at G0.out 5
  rintro e w1 ⟨rfl, rfl⟩
  go_wp2_with fail
  refine (ownBase_any ⟨⟨num, F, tips, t, tr⟩, fa, fc, ta, tc, ra, rc⟩ _ (H3.out.below E0.out.bel) (by dsimp only; omega) (by dsimp only; omega) HBd.out).mono ?_
  rintro e w2 ⟨⟨⟨num', F', tips', t', U⟩, a1, c1, a2, c2, a3, c3⟩, rfl, hs, ho, hb2⟩
  have Hs := Lib.hid hs
  have Ho := Lib.hid ho
  have E := Lib.hid (E0.out.step hb2)
  have hz2 := hb2.size
  have hz1 := E0.out.bel.size
  clear hs ho hb2 E0 G0 g0
  have d0 := cells_at E.out.blk
  have f0 := free_at E.out.blk
  have z0 := heap_lt E.out.blk
  simp only [bwcells]
  go_wp2_with fail
  have hC : Chg [w.heap.size] w2 (((((w2.setCell ⟨w.heap.size, 0, none⟩ (.int .u64 num')).setCell ⟨w.heap.size, 1, none⟩ (.slice a1 F'.length c1)).setCell ⟨w.heap.size, 2, none⟩ (.slice a2 tips'.length c2)).setCell ⟨w.heap.size, 3, none⟩ (.int .u64 t')).setCell ⟨w.heap.size, 4, none⟩ (.slice a3 U.length c3)) := (((((Chg.refl _ _).put _ _ (by simp)).put _ _ (by simp)).put _ _ (by simp)).put _ _ (by simp)).put _ _ (by simp)
  have h5 := five_at E.out.blk (.int .u64 num') (.slice a1 F'.length c1) (.slice a2 tips'.length c2) (.int .u64 t') (.slice a3 U.length c3)
  generalize (((((w2.setCell ⟨w.heap.size, 0, none⟩ (.int .u64 num')).setCell ⟨w.heap.size, 1, none⟩ (.slice a1 F'.length c1)).setCell ⟨w.heap.size, 2, none⟩ (.slice a2 tips'.length c2)).setCell ⟨w.heap.size, 3, none⟩ (.int .u64 t')).setCell ⟨w.heap.size, 4, none⟩ (.slice a3 U.length c3)) = w4 at *
  clear d0 f0
  have d0 := cells_at h5
  have hfar : ∀ k ∈ [w.heap.size], k < w.heap.size + 1 := fun k hk => by simp at hk; omega
  have hszA : (w.alloc (.cells #[.int .u64 0, .slice none 0 0, .slice none 0 0, .int .u64 0, .slice none 0 0] 28)).heap.size = w.heap.size + 1 := by simp
  have o1 := OwnD.base (base' := w.heap.size) (owns_chg Ho.out.f hC (fun k hk hm => by have := (owns_lt Ho.out.f k hk).1; simp at hm; omega)) (by omega)
  have o2 := OwnD.base (base' := w.heap.size) (owns_chg Ho.out.tips hC (fun k hk hm => by have := (owns_lt Ho.out.tips k hk).1; simp at hm; omega)) (by omega)
  have o3 := OwnT.base (b2 := w.heap.size) (by omega) (OwnT.chg hC (fun k hk => by simp at hk; omega) Ho.out.tr)
  have hB4 : Below w.heap.size w w4 := E.out.bel.trans (hC.below E.out.bel.size (by simp))
  exact bodyPost_ret (v := .agg (basecells num' a1 F'.length c1 a2 tips'.length c2 t' a3 U.length c3)) (by simp [results, Tryz.results39, go_sem, d0]; try rfl) rfl ⟨⟨⟨num', F', tips', t', U⟩, a1, c1, a2, c2, a3, c3⟩, rfl, Hs.out, ⟨o1, o2, o3⟩, hB4⟩
set_option maxRecDepth 100000 in
set_option maxHeartbeats 4000000 in
theorem wit1_any (u : Cw) (bx : Nat) (ja : Option Addr) (jc : Nat) (J : List Dt) (w : World) (h : w.heap[bx]? = some (.cells #[.slice ja J.length jc] 24 (0, 0))) (hJ : Vec w ja jc J) (hok : okV J) (hj : J.length ≤ 1100000) (hu : CwAt w u) (hn : u.c.vv.length ≤ 1100000) :
    Calls Tryz.prog 112 #[.agg (cwcells u), .pointer (some ⟨bx, 0, none⟩)] w fun e w' => e = .returned (.bool (!withinV u.c.vv J)) ∧ Below w.heap.size w w' := by
  obtain ⟨⟨⟨⟨r, i⟩, s⟩, ps, uu, t1, ⟨k, n, x, p1, ds⟩⟩, qa, qc, ua, uc, pa, pc, da, dc⟩ := u
  have HV := Lib.hid hu
  have HJ := Lib.hid hJ
  have Hok := Lib.hid hok
  dsimp only at hn
  have b0 := cells_at h
  have z0 := heap_lt h
  have B0 : Hid (Below w.heap.size w (w.alloc (.cells (ccells r i s qa ps.length qc ua uu.length uc t1 k pa p1.length pc n x da ds.length dc) 46))) := Lib.hid ((Below.refl _ _).alloc (Nat.le_refl _) _)
  clear h hu hJ hok
  simp only [cwcells]
  go_enter Tryz.func112, Tryz.ntmps112
  go_wp2_with fail
  refine (within_any ua ja uc jc uu J _ (HV.out.vv.below B0.out) (HJ.out.below B0.out) HV.out.ok.vv Hok.out hn hj).mono ?_
  rintro e w1 ⟨rfl, hb⟩
  have HB := Lib.hid (below2 B0.out hb B0.out.size)
  clear hb
  go_wp2_with fail
  go_ret
  exact ⟨rfl, HB.out⟩
/-- the greatest of the commits within a vector -/
def WitP (L : List Cm) (J v : List Dt) : Prop := ∃ B : List Cm, (∀ c, c ∈ B ↔ c ∈ L ∧ withinV c.vv J = true) ∧ HeadsP [] B v
def WitTo (w : World) (L : List Cm) (J : List Dt) (e : Ending) (w' : World) : Prop := ∃ a c v, e = .returned (.slice a (List.length v) c) ∧ WitP L J v ∧ okV v ∧ v.length ≤ L.length ∧ OwnD w' w.heap.size a c v ∧ Below w.heap.size w w'
@[go_sem] theorem field_bf (a b c d e : Value) (w : World) : (Instr.field 28 (.agg #[a, b, c, d, e]) 1).run Tryz.prog w = .ok b w := by kernel_rfl
set_option maxRecDepth 100000 in
set_option maxHeartbeats 8000000 in
theorem within_G (pg mb : Nat) (w0 : World) (m : Nat) (b : Bw) (L : List Cw) (va : Option Addr) (vc : Nat) (vv : List Dt) (ua : Option Addr) (uc : Nat) (U : List Dt) (w : World) (h : GrAt w pg mb w0 m b L va vc vv) (ht : TrRd w0 3 b.ra b.rc b.b.tr) (hB : BdA 1100000 3 b.b.tr) (hU : Vec w ua uc U) (hok : okV U) (hn : U.length ≤ 500000) :
    Calls Tryz.prog 46 #[.pointer (some ⟨pg, 0, none⟩), .slice ua U.length uc] w (WitTo w (cms L) (joinV U b.b.f)) := by
  have H := Lib.hid h
  have HT := Lib.hid ht
  have HBd := Lib.hid hB
  have HU := Lib.hid hU
  have Hok := Lib.hid hok
  have Hokf := Lib.hid h.base.okf
  have hfm := h.fmax
  have hmax := h.max
  have hem := enters_of Tryz.func112 (by kernel_rfl) rfl
  have E0 : Hid (BoxE 24 w (w.alloc (.cells #[.slice ua U.length uc] 24)).drew #[.slice ua U.length uc]) := Lib.hid (BoxE.of ((Below.refl _ _).drew))
  clear h ht hB hU hok
  go_enter Tryz.func46, Tryz.ntmps46
  go_wp2_with fail
  refine region_text [([0, 1], false), ([2], true), ([3, 4, 5], false)] mixed (by kernel_rfl) ?_
  simp only [wpSegs, List.map_cons, List.map_nil, List.getD_cons_succ, List.getD_cons_zero]
  go_wp2_with fail
  refine (base_G pg mb w0 m b L va vc vv _ (H.out.below E0.out.bel) HT.out HBd.out).mono ?_
  rintro e w1 ⟨⟨⟨num', F', tips', t', tr'⟩, a1, c1, a2, c2, a3, c3⟩, rfl, hs, ho, hb⟩
  have hF : b.b.f = F' := hs.f.symm
  have Ho := Lib.hid (show Vec w1 a1 c1 F' from ho.f.vec)
  have Hb := Lib.hid hb
  have E := Lib.hid (E0.out.step hb)
  clear hs ho hb E0
  rw [hF] at hfm Hokf
  have HK : Hid (joinV U b.b.f = joinV U F') := Lib.hid (by rw [hF])
  clear hF
  simp only [bwcells]
  go_wp2_with fail
  refine And.intro (Agree.of_below Hb.out) ?_
  go_wp2_with fail
  refine (join_any ua a1 uc c1 U F' _ (HU.out.below E.out.bel) Ho.out Hok.out Hokf.out hn (by omega)).mono ?_
  rintro e w2 ⟨ja, jc, rfl, ho, hb⟩
  have OkJ := Lib.hid (okV_joinV Hok.out Hokf.out)
  have hJl : (joinV U F').length ≤ 64 := vecOf_length _
  have HJ := Lib.hid (show Vec w2 ja jc (joinV U F') from vec_of ho)
  have hjo := Lib.hid (show ∀ k ∈ ob ja, w.heap.size < k ∧ k < w2.heap.size from fun k hk => by have := owns_lt ho k hk; have := Hb.out.size; have := E.out.bel.size; have := heap_lt E.out.blk; omega)
  replace E := Lib.hid (E.out.step hb)
  clear ho hb Ho Hb
  generalize joinV U F' = J at OkJ hJl HJ hjo HK ⊢
  have d0 := cells_at E.out.blk
  have f0 := free_at E.out.blk
  have z0 := heap_lt E.out.blk
  go_wp2_with fail
  refine And.intro (by kernel_rfl) ?_
  go_wp2_with fail
  have hC : Chg [w.heap.size] w2 (w2.setCell ⟨w.heap.size, 0, none⟩ (.slice ja J.length jc)) := (Chg.refl _ _).put _ _ (by simp)
  have hX : (w2.setCell ⟨w.heap.size, 0, none⟩ (.slice ja J.length jc)).heap[w.heap.size]? = some (.cells #[.slice ja J.length jc] 24 (0, 0)) := by
    have h6 := Go.heap_setCell_same w2 w.heap.size 0 _ 24 (.slice ja J.length jc) E.out.blk
    simpa using h6
  have hJ2 := Sl.chg HJ.out hC (fun k hk => by have := (hjo.out k hk).1; simp; omega)
  have hz3 : w2.heap.size = (w2.setCell ⟨w.heap.size, 0, none⟩ (.slice ja J.length jc)).heap.size := by simp
  have hB2 : Below w.heap.size w (w2.setCell ⟨w.heap.size, 0, none⟩ (.slice ja J.length jc)) := E.out.bel.trans (hC.below E.out.bel.size (by simp))
  generalize (w2.setCell ⟨w.heap.size, 0, none⟩ (.slice ja J.length jc)) = w3 at *
  have X := Lib.hid hX
  have J2 := Lib.hid hJ2
  have B2 := Lib.hid hB2
  clear hC hX hJ2 hB2 d0 f0 z0 E HJ
  go_wp2_with fail
  refine (commits_G pg mb w0 m b L va vc vv _ (H.out.below B2.out)).mono ?_
  rintro e w4 ⟨sa, sc, ss, rfl, hp, hs, ho, he, hb⟩
  have Ho := Lib.hid (OwnC.base ho (Nat.le_refl _))
  have hsl : ss.length = L.length := by have h1 := hp.length_eq; unfold cms at h1; simpa using h1
  have hs2 : ss.length ≤ 200 := by omega
  have Hp := Lib.hid hp
  have He := Lib.hid he
  have X4 := Lib.hid ((hb.block _ (heap_lt X.out)).trans X.out)
  have J4 := Lib.hid (show Vec w4 ja jc J from J2.out.below hb)
  have B4 := Lib.hid (below2 B2.out hb B2.out.size)
  have Hvl := Lib.hid (show ∀ v ∈ ss, v.c.vv.length ≤ 64 from fun v hv => by
    obtain ⟨u, hu, e⟩ := List.mem_map.1 (Hp.out.subset (List.mem_map.2 ⟨v, hv, rfl⟩))
    have h1 := (H.out.may u hu).canon
    rw [e] at h1
    rw [← h1]
    exact vecOf_length _)
  have hfar : Hid (∀ k ∈ ob sa, w3.heap.size ≤ k ∧ k < w4.heap.size) := Lib.hid (fun k hk => owns_lt ho k hk)
  have hxlt : w.heap.size < w3.heap.size := heap_lt X.out
  have hjlt : Hid (∀ k ∈ ob ja, k < w3.heap.size) := Lib.hid (fun k hk => by have := (hjo.out k hk).2; omega)
  have hno : Hid (NoRow w4 (ob sa)) := Lib.hid (fun k hk C t fr h => by
    obtain ⟨C', fr', h'⟩ := ob_row ho k hk
    rw [h] at h'
    cases h'
    exact ⟨by decide, by decide⟩)
  clear hp hs ho he hb hsl
  go_wp2_with fail
  refine (deleteC_fn 112 #[.pointer (some ⟨w.heap.size, 0, none⟩)] (fun y => !withinV y.c.vv J) sa sc w3.heap.size ss _ Ho.out (fun v hv => (He.out v hv).at_) (by omega) hem (fun v hv W hW => ?_)).mono ?_
  · exact wit1_any v w.heap.size ja jc J W (heap_chg X4.out hW (fun hk => by have := hfar.out _ hk; omega)) (Sl.chg J4.out hW (fun k hk hk2 => by have := hjlt.out k hk; have := hfar.out k hk2; omega)) OkJ.out (by omega) ((He.out v hv).chg hW hno.out).at_ (by have := Hvl.out v hv; omega)
  rintro e w5 ⟨v', rfl, hv', ho, hc⟩
  have hvs : ∀ v ∈ v', v ∈ ss ∧ withinV v.c.vv J = true := fun v hv => by
    rw [hv'] at hv
    have h1 := List.mem_filter.1 hv
    exact ⟨h1.1, by simpa using h1.2⟩
  have hvl : v'.length ≤ ss.length := by rw [hv']; exact List.length_filter_le _ _
  have hsub : (cms v').Sublist (cms ss) := by rw [hv']; exact (List.filter_sublist).map _
  have hCms : Cms w5 sa sc v' := ⟨ho.cms, fun v hv => ((He.out v (hvs v hv).1).chg hc hno.out).at_⟩
  have hnd : ((cms v').map (·.d)).Nodup := ((Hp.out.map (·.d)).nodup_iff.2 H.out.nodup).sublist (hsub.map _)
  have HB : Hid (∀ c, c ∈ cms v' ↔ c ∈ cms L ∧ withinV c.vv J = true) := Lib.hid (fun c => by
    constructor
    · intro h
      obtain ⟨v, hv, rfl⟩ := List.mem_map.1 h
      exact ⟨Hp.out.subset (List.mem_map.2 ⟨v, (hvs v hv).1, rfl⟩), (hvs v hv).2⟩
    · rintro ⟨h1, h2⟩
      obtain ⟨v, hv, rfl⟩ := List.mem_map.1 (Hp.out.symm.subset h1)
      exact List.mem_map.2 ⟨v, by rw [hv']; exact List.mem_filter.2 ⟨hv, by simp [h2]⟩, rfl⟩)
  have HC := Lib.hid hCms
  have HN := Lib.hid hnd
  have HL := Lib.hid (show ∀ v ∈ v', v.c.vv.length ≤ 1100000 from fun v hv => by have := Hvl.out v (hvs v hv).1; omega)
  have B5 := Lib.hid (B4.out.trans (hc.below B4.out.size (fun k hk => by have := (hfar.out k hk).1; omega)))
  have Hle := Lib.hid (show (cms v').length ≤ (cms L).length from by have h1 := Hp.out.length_eq; have h2 := hsub.length_le; omega)
  have hv2 : v'.length ≤ 200 := by omega
  clear hvs hvl hsub hCms hnd hc ho hv'
  go_wp2_with fail
  refine (greatest_any sa sc v' _ HC.out (by omega) HN.out HL.out).mono ?_
  rintro e w6 ⟨ga, gc, g, rfl, hh, hok, hl, ho, hb⟩
  have Hh := Lib.hid hh
  have Hok2 := Lib.hid hok
  have Hl := Lib.hid hl
  have Ho6 := Lib.hid (OwnD.base (base' := w.heap.size) ho B5.out.size)
  have B6 := Lib.hid (below2 B5.out hb B5.out.size)
  clear hh hok hl ho hb
  go_wp2_with fail
  go_ret
  exact ⟨ga, gc, g, rfl, ⟨cms v', fun c => by rw [HB.out c, HK.out], Hh.out⟩, Hok2.out, Nat.le_trans Hl.out Hle.out, Ho6.out, B6.out⟩
end Go.Proofs.YthdmoplclllhjaaGreat
