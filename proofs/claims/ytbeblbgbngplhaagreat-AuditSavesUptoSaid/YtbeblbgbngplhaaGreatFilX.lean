/- What AuditSaves needs besides. -/
import Derived.Test.YtbeblbgbngplhaaGreatBase
import Derived.Test.YtbeblbgbngplhaaGreatDotP
import Derived.Test.YtbeblbgbngplhaaGreatVec1
import Derived.Test.YtbeblbgbngplhaaGreatSortK
import Derived.Test.YtbeblbgbngplhaaGreatShelf
import Derived.Test.YtbeblbgbngplhaaGreatVec2
import Derived.Test.YtbeblbgbngplhaaGreatVec3
import Derived.Test.YtbeblbgbngplhaaGreatVec4
import Derived.Test.YtbeblbgbngplhaaGreatLeafP
import Derived.Test.YtbeblbgbngplhaaGreatSeen
import Derived.Test.YtbeblbgbngplhaaGreatLeafA
import Derived.Test.YtbeblbgbngplhaaGreatLfOpen
import Derived.Test.YtbeblbgbngplhaaGreatThreeP
import Derived.Test.YtbeblbgbngplhaaGreatEvA
import Derived.Test.YtbeblbgbngplhaaGreatRefLA
import Derived.Test.YtbeblbgbngplhaaGreatMayB
import Derived.Test.YtbeblbgbngplhaaGreatShelfS
import Derived.Test.YtbeblbgbngplhaaGreatMayC
import Derived.Test.YtbeblbgbngplhaaGreatMayE
import Derived.Test.YtbeblbgbngplhaaGreatBatA
import Derived.Test.YtbeblbgbngplhaaGreatFuseA
import Derived.Test.YtbeblbgbngplhaaGreatBatC
import Derived.Test.YtbeblbgbngplhaaGreatComP
import Derived.Test.YtbeblbgbngplhaaGreatGraA
import Derived.Test.YtbeblbgbngplhaaGreatMeanT
import Derived.Test.YtbeblbgbngplhaaGreatGraP
import Derived.Test.YtbeblbgbngplhaaGreatGraC
import Derived.Test.YtbeblbgbngplhaaGreatGraM
import Derived.Test.YtbeblbgbngplhaaGreatGraQ
import Derived.Test.YtbeblbgbngplhaaGreatGraV
import Derived.Test.YtbeblbgbngplhaaGreatHistP
import Derived.Test.YtbeblbgbngplhaaGreatROpA
import Derived.Test.YtbeblbgbngplhaaGreatMeanW
import Derived.Test.YtbeblbgbngplhaaGreatFuseG
import Derived.Test.YtbeblbgbngplhaaGreatAqA
import Derived.Test.YtbeblbgbngplhaaGreatMeanY
import Derived.Test.YtbeblbgbngplhaaGreatOwtB
import Derived.Test.YtbeblbgbngplhaaGreatBasA
import Derived.Test.YtbeblbgbngplhaaGreatWidB
import Derived.Test.YtbeblbgbngplhaaGreatRMbA
import Derived.Test.YtbeblbgbngplhaaGreatRgE
import Derived.Test.YtbeblbgbngplhaaGreatRegO
import Derived.Test.YtbeblbgbngplhaaGreatBasB
import Derived.Test.YtbeblbgbngplhaaGreatBothA
import Derived.Test.YtbeblbgbngplhaaGreatWitA
import Derived.Test.YtbeblbgbngplhaaGreatHeaD
import Derived.Test.YtbeblbgbngplhaaGreatLevC
import Derived.Test.YtbeblbgbngplhaaGreatChnD
import Derived.Test.YtbeblbgbngplhaaGreatLwL
import Derived.Test.YtbeblbgbngplhaaGreatMatB
import Derived.Test.YtbeblbgbngplhaaGreatAudB
import Derived.ChangeKeysEq
import Derived.Deep.MidRow
import Derived.Laws.BitsAll
import Derived.Lib.SliceRun
namespace Go.Proofs.YtbeblbgbngplhaaGreat
open Go.RowKit
set_option linter.unusedVariables false
set_option linter.unusedSimpArgs false

theorem getN_may {v : List Dt} {a : Ac} (h : 0 < getN v a) : mayA a = true := by
  obtain ⟨d, _, h2, h3, _⟩ := getN_mem h
  rw [← h3]; exact ((may_iff d).1 h2).1
theorem vecOf_congr {f g : Ac → Int} (h : ∀ a ∈ allA, f a = g a) : vecOf f = vecOf g := by
  have e : allA.filter (fun a => decide (0 < f a)) = allA.filter (fun a => decide (0 < g a)) := List.filter_congr fun a ha => by rw [h a ha]
  unfold vecOf
  rw [e]
  exact List.map_congr_left fun a ha => by rw [h a (List.mem_filter.1 ha).1]
/-! the laws of DotOrder -/
theorem canon_join {a b : List Dt} (ha : okV a) (hb : okV b) : canonV (joinV a b) = joinV a b := vecOf_congr fun x _ => getN_joinV ha hb x
/-! the document's ways to the same -/
attribute [go_sem] strOf_toList
set_option maxHeartbeats 1000000 in
theorem same_any (a b : Option Addr) (c d : Nat) (v u : List Dt) (w : World) (hv : Vec w a c v) (hu : Vec w b d u) (hn : v.length ≤ 1100000) (hm : u.length ≤ 1100000) :
    Calls Tryz.prog 18 #[.slice a v.length c, .slice b u.length d] w fun e w' => e = .returned (.bool (decide (v = u))) ∧ Below w.heap.size w w' := by
  have Hv := Lib.hid hv
  have Hu := Lib.hid hu
  clear hv hu
  by_cases hl : v.length = u.length
  · have Hl := Lib.hid hl
    rw [← hl]
    clear hl
    go_enter Tryz.func18, Tryz.ntmps18
    go_wp2_with fail
    go_loopw [5] (fun i wr => ∃ k : Nat, k ≤ v.length ∧ i = .int .i64 k ∧ Hid (v.take k = u.take k) ∧ Below w.heap.size w wr) (fun i _ => v.length - (intOf i).toNat)
    case atStart => exact ⟨0, Nat.zero_le _, rfl, Lib.hid (by simp), Below.refl _ _⟩
    case round =>
      obtain ⟨k, hk, rfl, heq, hb⟩ := hrel
      have Hb := Lib.hid hb
      clear hb
      by_cases hlt : k < v.length
      · have hlu : k < u.length := by have := Hl.out; omega
        obtain ⟨⟨⟨r, i⟩, s⟩, hx⟩ : ∃ x, v[k]? = some x := ⟨v[k], by simp [hlt]⟩
        obtain ⟨⟨⟨r', i'⟩, s'⟩, hy⟩ : ∃ x, u[k]? = some x := ⟨u[k], by simp [hlu]⟩
        obtain ⟨ad, had, d0, d1, d2, hlt0⟩ := (Hv.out.below Hb.out).at hx
        obtain ⟨ae, hae, e0, e1, e2, hlt1⟩ := (Hu.out.below Hb.out).at hy
        have had' := had
        have hae' := hae
        subst had' hae'
        dsimp only at d0 d1 d2 e0 e1 e2
        have Hx := Lib.hid hx
        have Hy := Lib.hid hy
        clear hx hy had hae
        cases hq : eqD ((r, i), s) ((r', i'), s') with
        | true =>
          go_wp2_with fail
          go_quiet (fail)
          go_wp2_with fail
          go_roundw
          case rel => exact ⟨k + 1, by omega, by go_num, Lib.hid (by rw [take_snoc' Hx.out, take_snoc' Hy.out, heq.out, (eqD_iff _ _).1 hq]), below_drewN Hb.out _⟩
          case measure => simp [intOf]; omega
        | false =>
          have He := Lib.hid (show decide (v = u) = false by simp; intro e; subst e; have := Hx.out.symm.trans Hy.out; rw [Option.some.injEq, ← eqD_iff, hq] at this; cases this)
          go_wp2_with fail
          go_quiet (fail)
          go_wp2_with fail
          go_ret
          exact ⟨by rw [He.out]; rfl, below_drewN Hb.out _⟩
      · have he : v = u := take_ext k Hl.out (by omega) heq.out
        have He := Lib.hid (show decide (v = u) = true by simpa using he)
        clear he
        go_wp2_with fail
        go_ret
        exact ⟨by rw [He.out]; rfl, Hb.out⟩
  · have he : decide (v = u) = false := by simp; intro e; exact hl (by rw [e])
    have He := Lib.hid he
    have hl' : ((v.length : Int) != (u.length : Int)) = true := by simp; omega
    clear he
    go_enter Tryz.func18, Tryz.ntmps18
    go_wp2_with fail
    go_ret
    exact ⟨by rw [He.out]; rfl, Below.refl _ _⟩
theorem vec_one {w : World} {b : Nat} {r i s : Int} (h : w.heap[b]? = some (.cells #[.int .u8 r, .int .u32 i, .int .u64 s] 52 (0, 0))) : Vec w (some ⟨b, 0, none⟩) 1 [((r, i), s)] :=
  Sl.blk (C := #[.int .u8 r, .int .u32 i, .int .u64 s]) h rfl (by simp [maxLen])


/-! parts of slices -/
theorem findC_some {L : List Cm} {d : Dt} {c : Cm} (h : findC L d = some c) : c ∈ L ∧ c.d = d :=
  ⟨List.mem_of_find?_eq_some h, by have := List.find?_some h; simpa using this⟩
theorem findC_snoc {L : List Cm} {c : Cm} (hf : findC L c.d = none) (d : Dt) : findC (L ++ [c]) d = if d = c.d then some c else findC L d := by
  unfold findC
  rw [List.find?_append]
  by_cases e : d = c.d
  · subst e
    rw [if_pos rfl]
    have : L.find? (fun x => decide (x.d = c.d)) = none := hf
    rw [this]
    simp
  · rw [if_neg e]
    cases L.find? (fun x => decide (x.d = d)) with
    | some x => rfl
    | none => simp; exact fun h => e h.symm

theorem held_new {w w' : World} {q : Nat} {C : Array Value} {t : TypeId} {fr : Nat × Nat} (h : w.heap[q]? = some (.cells C t fr)) (h' : w'.heap[q]? = some (.cells C t fr)) : Held (fun k => k = q) w w' := by
  refine .inr fun k o hk ho => ?_
  have hk : k = q := hk
  subst hk
  rw [h] at ho
  have ho := Option.some.inj ho
  subst ho
  exact ⟨fun at_ u e => (by cases e), h'⟩
attribute [local go_sem] Oper.semAt_some

/-! sorting nothing -/
/-! sorting commits -/
/-- a vector's copy -/
def VVTo (w : World) (vv : List Dt) (e : Ending) (w' : World) : Prop := ∃ a c, e = .returned (.slice a vv.length c) ∧ OwnD w' w.heap.size a c vv ∧ Below w.heap.size w w'
set_option maxRecDepth 100000 in
set_option maxHeartbeats 4000000 in
theorem vv_G (pg mb : Nat) (w0 : World) (m : Nat) (b : Bw) (L : List Cw) (va : Option Addr) (vc : Nat) (vv : List Dt) (w : World) (h : GrAt w pg mb w0 m b L va vc vv) :
    Calls Tryz.prog 27 #[.pointer (some ⟨pg, 0, none⟩)] w (VVTo w vv) := by
  have H := Lib.hid h
  have hpg := heap_lt h.blk
  have g0 := cells_at h.blk
  simp only [gcells] at g0
  clear h
  go_enter Tryz.func27, Tryz.ntmps27
  go_wp2_with fail
  refine (none_some pg mb _ H.out.c5).mono ?_
  rintro e w1 ⟨rfl, rfl⟩
  go_wp2_with fail
  refine (cloneV_any va vc vv _ (OwnD.vec H.out.own) (by have := H.out.vmax; omega)).mono ?_
  rintro e w2 ⟨a, c, v2, rfl, hv2, ho, hb⟩
  subst hv2
  have HO := Lib.hid ho
  have HB := Lib.hid hb
  clear ho hb
  go_wp2_with fail
  go_ret
  exact ⟨a, c, rfl, HO.out, HB.out⟩

theorem hasV_iff {v : List Dt} {d : Dt} : hasV v d = true ↔ may d = true ∧ d.2 ≤ getN v d.1 := by unfold hasV; simp
theorem hasV_down {v : List Dt} {d e : Dt} (h : hasV v d = true) (h1 : e.1 = d.1) (h2 : 1 ≤ e.2) (h3 : e.2 ≤ d.2) : hasV v e = true := by
  rw [hasV_iff] at h ⊢
  have hm := (may_iff d).1 h.1
  refine ⟨(may_iff e).2 ⟨by rw [h1]; exact hm.1, h2, by omega⟩, ?_⟩
  rw [h1]; omega
theorem hasV_at {v : List Dt} {x : Ac} {n : Int} (h1 : 1 ≤ n) (h2 : n ≤ getN v x) : hasV v (x, n) = true := by
  rw [hasV_iff]
  have := (getN_bd v x).2
  exact ⟨(may_iff _).2 ⟨getN_may (v := v) (a := x) (by omega), h1, by show n ≤ 1048576; omega⟩, h2⟩
theorem le_kn {F : List Dt} {fd : Fd} {c : Cm} {x : Ac} {n : Int} : ∀ {ps : List Dt}, n ≤ knN F fd c ps x → n ≤ getN F x ∨ n ≤ getN (c.d :: c.ps) x ∨ ∃ p ∈ ps, n ≤ getN (vvOf (fd p)) x := by
  intro ps
  induction ps using snoc_rec with
  | h0 =>
    intro h
    have h : n ≤ max (min (getN c.vv x) (getN F x)) (getN (c.d :: c.ps) x) := h
    by_cases e : n ≤ getN (c.d :: c.ps) x
    · exact .inr (.inl e)
    · left; omega
  | h1 ps p ih =>
    intro h
    rw [knN_snoc] at h
    by_cases e : n ≤ getN (vvOf (fd p)) x
    · exact .inr (.inr ⟨p, by simp, e⟩)
    · rcases ih (by omega) with h | h | ⟨q, hq, h⟩
      · exact .inl h
      · exact .inr (.inl h)
      · exact .inr (.inr ⟨q, by simp [hq], h⟩)
theorem kn_par {F : List Dt} {fd : Fd} {c : Cm} {x : Ac} : ∀ {ps : List Dt} {p : Dt}, p ∈ ps → getN (vvOf (fd p)) x ≤ knN F fd c ps x := by
  intro ps
  induction ps using snoc_rec with
  | h0 => intro p hp; cases hp
  | h1 ps q ih =>
    intro p hp
    rw [knN_snoc]
    rcases List.mem_append.1 hp with hp | hp
    · have := ih hp; omega
    · rw [List.mem_singleton] at hp; subst hp; omega
theorem hasG_cases {F : List Dt} {L : List Cm} {d : Dt} (h : hasG F (findC L) d = true) : (∃ c ∈ L, c.d = d ∧ findC L d = some c) ∨ hasV F d = true := by
  unfold hasG at h
  rw [Bool.or_eq_true] at h
  rcases h with h | h
  · cases hf : findC L d with
    | none => rw [hf] at h; cases h
    | some c => exact .inl ⟨c, (findC_some hf).1, (findC_some hf).2, rfl⟩
  · exact .inr h
theorem hasG_base {F : List Dt} {fd : Fd} {d : Dt} (h : hasV F d = true) : hasG F fd d = true := by unfold hasG; rw [h, Bool.or_true]
theorem hasG_snoc {F : List Dt} {L : List Cm} {c : Cm} (hf : findC L c.d = none) {d : Dt} : hasG F (findC (L ++ [c])) d = true ↔ hasG F (findC L) d = true ∨ d = c.d := by
  unfold hasG
  rw [findC_snoc hf]
  by_cases e : d = c.d
  · simp [e]
  · rw [if_neg e]
    exact ⟨fun h => .inl h, fun h => h.resolve_right e⟩
/-- what holds of commits above a baseline, and of their vector -/
structure HistP (F : List Dt) (L : List Cm) (vv : List Dt) : Prop where
  okF : okV F
  canon : canonV vv = vv
  nodup : (L.map (·.d)).Nodup
  may : ∀ c ∈ L, CmP c
  out : ∀ c ∈ L, hasV F c.d = false
  base : ∀ x, getN F x ≤ getN vv x
  up : ∀ c ∈ L, ∀ x, getN c.vv x ≤ getN vv x
  low : ∀ x n, 1 ≤ n → n ≤ getN vv x → hasG F (findC L) (x, n) = true
  par : ∀ c ∈ L, ∀ p ∈ c.ps, hasV F p = true ∨ ∃ y ∈ L, y.d = p ∧ y.t < c.t ∧ ∀ x, getN y.vv x ≤ getN c.vv x
  anc : ∀ c ∈ L, ∀ y ∈ L, y.d ≠ c.d → hasV c.vv y.d = true → (∀ x, getN y.vv x ≤ getN c.vv x) ∧ y.t < c.t
theorem HistP.start {F : List Dt} (hF : okV F) (hc : canonV F = F) : HistP F [] F :=
  ⟨hF, hc, List.nodup_nil, fun c hc => (by cases hc), fun c hc => (by cases hc), fun x => Int.le_refl _, fun c hc => (by cases hc), fun x n h1 h2 => hasG_base (hasV_at h1 h2), fun c hc => (by cases hc), fun c hc => (by cases hc)⟩
theorem HistP.top {F : List Dt} {L : List Cm} {vv : List Dt} (h : HistP F L vv) {d : Dt} (hd : hasG F (findC L) d = true) : d.2 ≤ getN vv d.1 := by
  rcases hasG_cases hd with ⟨c, hc, rfl, _⟩ | h1
  · have := (h.may c hc).own; have := h.up c hc c.d.1; omega
  · have := (hasV_iff.1 h1).2; have := h.base d.1; omega
theorem HistP.self {F : List Dt} {L : List Cm} {vv : List Dt} (h : HistP F L vv) {c : Cm} (hc : c ∈ L) : hasV c.vv c.d = true := hasV_iff.2 ⟨(h.may c hc).dot, by rw [(h.may c hc).own]; exact Int.le_refl _⟩
theorem HistP.eq_of {F : List Dt} {L : List Cm} {vv : List Dt} (h : HistP F L vv) {c y : Cm} (hc : c ∈ L) (hy : y ∈ L) (e : c.d = y.d) : c = y := by
  have h1 := findC_mem h.nodup hc
  rw [e, findC_mem h.nodup hy] at h1
  exact (Option.some.inj h1).symm
/-- what is within a commit's vector is within it, whole -/
theorem HistP.within {F : List Dt} {L : List Cm} {vv : List Dt} (h : HistP F L vv) {c y : Cm} (hc : c ∈ L) (hy : y ∈ L) (hh : hasV c.vv y.d = true) : (∀ x, getN y.vv x ≤ getN c.vv x) ∧ y.t ≤ c.t := by
  by_cases e : y.d = c.d
  · have := h.eq_of hy hc e
    subst this
    exact ⟨fun x => Int.le_refl _, Int.le_refl _⟩
  · have := h.anc c hc y hy e hh
    exact ⟨this.1, Int.le_of_lt this.2⟩
theorem HistP.step {F : List Dt} {L : List Cm} {vv : List Dt} {c : Cm} {n : Nat} (h : HistP F L vv) (okv : okV vv) (okc : okV c.vv) (hi : insE F (findC L) n c = 0) : HistP F (L ++ [c]) (joinV vv c.vv) := by
  obtain ⟨hM, hG0, hGap, ⟨hK, hFol⟩, _⟩ := insE_zero hi
  have hv : ∀ x, getN (joinV vv c.vv) x = max (getN vv x) (getN c.vv x) := fun x => getN_joinV okv okc x
  have hfn : findC L c.d = none := by
    cases hf : findC L c.d with
    | none => rfl
    | some y => unfold hasG at hG0; rw [hf] at hG0; cases hG0
  have hout : hasV F c.d = false := by unfold hasG at hG0; rw [Bool.or_eq_false_iff] at hG0; exact hG0.2
  have hdm := (may_iff _).1 hM.dot
  -- a parent that is there
  have hpar : ∀ p ∈ c.ps, ∀ y, findC L p = some y → y.t < c.t ∧ ∀ x, getN y.vv x ≤ getN c.vv x := fun p hp y hy => by
    refine ⟨(hFol.each p hp y hy).2, fun x => ?_⟩
    have h1 := kn_par (F := F) (fd := findC L) (c := c) (x := x) hp
    rw [hy] at h1
    exact Int.le_trans h1 (hK x)
  refine ⟨h.okF, canon_join okv okc, ?_, fun y hy => ?_, fun y hy => ?_, fun x => ?_, fun y hy x => ?_, fun x n h1 h2 => ?_, fun y hy p hp => ?_, fun y hy z hz hne hh => ?_⟩
  · rw [List.map_append, List.nodup_append]
    refine ⟨h.nodup, by simp, fun a ha b hb => ?_⟩
    simp at hb
    subst hb
    intro e
    obtain ⟨y, hy, rfl⟩ := List.mem_map.1 ha
    exact (findC_none.1 hfn) y hy e
  · rcases List.mem_append.1 hy with hy | hy
    · exact h.may y hy
    · rw [List.mem_singleton] at hy; subst hy; exact hM
  · rcases List.mem_append.1 hy with hy | hy
    · exact h.out y hy
    · rw [List.mem_singleton] at hy; subst hy; exact hout
  · rw [hv]; have := h.base x; omega
  · rw [hv]
    rcases List.mem_append.1 hy with hy | hy
    · have := h.up y hy x; omega
    · rw [List.mem_singleton] at hy; subst hy; omega
  · rw [hasG_snoc hfn]
    by_cases hold : n ≤ getN vv x
    · exact .inl (h.low x n h1 hold)
    rw [hv] at h2
    have h3 : n ≤ getN c.vv x := by omega
    rcases le_kn (Int.le_trans h3 (hGap.knows x)) with h4 | h4 | ⟨p, hp, h4⟩
    · have := h.base x; exact absurd (Int.le_trans h4 this) hold
    · obtain ⟨d, hd, hdm2, hdx, hdn⟩ := getN_mem (v := c.d :: c.ps) (a := x) (by omega)
      rcases List.mem_cons.1 hd with rfl | hd
      · by_cases e : n = c.d.2
        · right
          subst hdx e; rfl
        · have h5 := hGap.own (by omega)
          have h6 := h.top h5
          unfold aheadD at h6
          dsimp only at h6
          rw [hdx] at h6
          exact absurd (by omega) hold
      · have h6 := h.top (hGap.ps d hd)
        rw [hdx] at h6
        exact absurd (by omega) hold
    · cases hf : findC L p with
      | none => rw [hf] at h4; have : getN (vvOf none) x = 0 := rfl; omega
      | some y =>
        rw [hf] at h4
        have h5 : n ≤ getN y.vv x := h4
        have := h.up y (findC_some hf).1 x
        exact absurd (by omega) hold
  · rcases List.mem_append.1 hy with hy | hy
    · rcases h.par y hy p hp with h1 | ⟨z, hz, h1⟩
      · exact .inl h1
      · exact .inr ⟨z, List.mem_append_left _ hz, h1⟩
    · rw [List.mem_singleton] at hy
      subst hy
      rcases hasG_cases (hGap.ps p hp) with ⟨z, hz, hzd, hf⟩ | h1
      · exact .inr ⟨z, List.mem_append_left _ hz, hzd, hpar p hp z hf⟩
      · exact .inl h1
  · rcases List.mem_append.1 hy with hyL | hyc
    · rcases List.mem_append.1 hz with hzL | hzc
      · exact h.anc y hyL z hzL hne hh
      · rw [List.mem_singleton] at hzc
        subst hzc
        have h1 := h.low z.d.1 z.d.2 hdm.2.1 (Int.le_trans (hasV_iff.1 hh).2 (h.up y hyL z.d.1))
        rw [show (z.d.1, z.d.2) = z.d from rfl, hG0] at h1
        cases h1
    · rw [List.mem_singleton] at hyc
      subst hyc
      rcases List.mem_append.1 hz with hzL | hzc
      rotate_left
      · rw [List.mem_singleton] at hzc; subst hzc; exact absurd rfl hne
      have hzm := (may_iff _).1 (h.may z hzL).dot
      have hzo := h.out z hzL
      -- by a parent that has it
      have via : ∀ p ∈ y.ps, ∀ u, findC L p = some u → hasV u.vv z.d = true → (∀ x, getN z.vv x ≤ getN y.vv x) ∧ z.t < y.t := fun p hp u hu hhu => by
        have h1 := h.within (findC_some hu).1 hzL hhu
        have h2 := hpar p hp u hu
        exact ⟨fun x => Int.le_trans (h1.1 x) (h2.2 x), by omega⟩
      rcases le_kn (Int.le_trans (hasV_iff.1 hh).2 (hGap.knows _)) with h4 | h4 | ⟨p, hp, h4⟩
      · rw [hasV_iff.2 ⟨(h.may z hzL).dot, h4⟩] at hzo; cases hzo
      · obtain ⟨d, hd, hdm2, hdx, hdn⟩ := getN_mem (v := y.d :: y.ps) (a := z.d.1) (by omega)
        rcases List.mem_cons.1 hd with rfl | hd
        · have hlt : z.d.2 < y.d.2 := by
            rcases Int.lt_or_le z.d.2 y.d.2 with h5 | h5
            · exact h5
            · exact absurd (Prod.ext hdx.symm (show z.d.2 = y.d.2 by omega)) hne
          rcases hFol.known with h5 | h5 | ⟨p, hp, u, hu, h5⟩
          · omega
          · rw [hasV_down h5 (e := z.d) (by unfold aheadD; exact hdx.symm) hzm.2.1 (by unfold aheadD; dsimp only; omega)] at hzo; cases hzo
          · exact via p hp u hu (hasV_down h5 (by unfold aheadD; exact hdx.symm) hzm.2.1 (by unfold aheadD; dsimp only; omega))
        · rcases hasG_cases (hGap.ps d hd) with ⟨u, huL, hud, hu⟩ | h5
          · exact via d hd u hu (hasV_down (h.self huL) (by rw [hud]; exact hdx.symm) hzm.2.1 (by rw [hud]; omega))
          · rw [hasV_down h5 (e := z.d) hdx.symm hzm.2.1 (by omega)] at hzo; cases hzo
      · cases hf : findC L p with
        | none => rw [hf] at h4; have : getN (vvOf none) z.d.1 = 0 := rfl; omega
        | some u =>
          rw [hf] at h4
          exact via p hp u hf (hasV_iff.2 ⟨(h.may z hzL).dot, h4⟩)
/-- in their order, parents are ahead -/
theorem HistP.ahead {F : List Dt} {L : List Cm} {vv : List Dt} (h : HistP F L vv) {S : List Cm} (hp : S.Perm L) (hs : SortedC S) {q : Nat} {c : Cm} (hc : S[q]? = some c) {p : Dt} (hpp : p ∈ c.ps) :
    (hasV F p = true ∧ findC (S.take q) p = none) ∨ ∃ y ∈ S.take q, y.d = p ∧ findC (S.take q) p = some y ∧ ∀ x, getN y.vv x ≤ getN c.vv x := by
  have hcL : c ∈ L := hp.mem_iff.1 (List.mem_of_getElem? hc)
  have hn : (S.map (·.d)).Nodup := (hp.map _).nodup_iff.2 h.nodup
  have hnt : ((S.take q).map (·.d)).Nodup := hn.sublist ((List.take_sublist _ _).map _)
  rcases h.par c hcL p hpp with h1 | ⟨y, hy, hyd, hyt, hyv⟩
  · refine .inl ⟨h1, findC_none.2 fun y hy e => ?_⟩
    have hyL : y ∈ L := hp.mem_iff.1 (List.mem_of_mem_take hy)
    have := h.out y hyL
    rw [e, h1] at this; cases this
  · obtain ⟨i, hi⟩ := List.getElem?_of_mem (hp.mem_iff.2 hy)
    have hlt : i < q := by
      rcases Nat.lt_trichotomy i q with h2 | h2 | h2
      · exact h2
      · subst h2; rw [hi] at hc; cases hc; omega
      · obtain ⟨hq', rfl⟩ := List.getElem?_eq_some_iff.1 hc
        obtain ⟨hi', rfl⟩ := List.getElem?_eq_some_iff.1 hi
        have h3 := List.pairwise_iff_getElem.1 hs q i hq' hi' h2
        unfold ltC at h3
        omega
    have hyS : y ∈ S.take q := by
      rw [List.mem_iff_getElem?]
      exact ⟨i, by rw [List.getElem?_take, if_pos hlt, hi]⟩
    exact .inr ⟨y, hyS, hyd, by rw [← hyd]; exact findC_mem hnt hyS, hyv⟩
structure SMO (w : World) (A B : Array Value) (W : World) : Prop where
  g : W.heap[w.heap.size]? = some (.cells A 55 (0, 0))
  h : W.heap[w.heap.size + 1]? = some (.cells B 55 (0, 0))
  bel : Below w.heap.size w W
  BEL : Below ((w.alloc (.cells A 55)).alloc (.cells B 55)).heap.size ((w.alloc (.cells A 55)).alloc (.cells B 55)) W
theorem SMO.of {w W : World} {A B : Array Value} (h : Below ((w.alloc (.cells A 55)).alloc (.cells B 55)).heap.size ((w.alloc (.cells A 55)).alloc (.cells B 55)) W) : SMO w A B W := ⟨(new2 h).1, (new2 h).2.1, (new2 h).2.2.2, h⟩
theorem SMO.step {w W W' : World} {A B : Array Value} (h : SMO w A B W) (hb : Below W.heap.size W W') : SMO w A B W' := SMO.of (below2 h.BEL hb h.BEL.size)
theorem Opn.ext' {k n k' n' : Int} {x x' : ByteArray} {p p' : List ByteArray} {ds ds' : List Dt} (h0 : k = k') (h1 : n = n') (h2 : x = x') (h3 : p = p') (h4 : ds = ds') : (⟨k, n, x, p, ds⟩ : Opn) = ⟨k', n', x', p', ds'⟩ := by subst h0 h1 h2 h3 h4; rfl
set_option maxRecDepth 100000 in
set_option maxHeartbeats 4000000 in
theorem rsameO_any (u v : Ow) (w : World) (hu : OwAt w u) (hv : OwAt w v) (hn1 : u.o.p.length ≤ 1100000) (hn2 : u.o.ds.length ≤ 1100000) (hn3 : v.o.p.length ≤ 1100000) (hn4 : v.o.ds.length ≤ 1100000) :
    Calls Tryz.prog 113 #[.agg #[.int .u8 u.o.k, .slice u.pa u.o.p.length u.pc, .int .i64 u.o.n, .string u.o.x, .slice u.da u.o.ds.length u.dc], .agg #[.int .u8 v.o.k, .slice v.pa v.o.p.length v.pc, .int .i64 v.o.n, .string v.o.x, .slice v.da v.o.ds.length v.dc]] w (IsTo w (u.o = v.o)) := by
  obtain ⟨⟨k, n, x, p, ds⟩, pa, pc, da, dc⟩ := u
  obtain ⟨⟨k', n', x', p', ds'⟩, pa', pc', da', dc'⟩ := v
  have Hl := Lib.hid hu
  have Hm := Lib.hid hv
  dsimp only at hn1 hn2 hn3 hn4 ⊢
  clear hu hv
  cases h0 : (k == k') with
  | false =>
    have He := Lib.hid (show ¬ (k = k') from by simpa using h0)
    have g0 : (k != k') = true := by rw [bne, h0]; rfl
    go_enter Tryz.func113, Tryz.ntmps113
    go_wp2_with fail
    go_ret
    exact no_name (fun h => He.out (congrArg Opn.k h)) (((Below.refl _ _).alloc (Nat.le_refl _) _).alloc (by simp) _)
  | true =>
    have g0 : (k != k') = false := by rw [bne, h0]; rfl
    cases h1 : (n == n') with
    | false =>
      have He := Lib.hid (show ¬ (n = n') from by simpa using h1)
      have g1 : (n != n') = true := by rw [bne, h1]; rfl
      go_enter Tryz.func113, Tryz.ntmps113
      go_wp2_with fail
      go_ret
      exact no_name (fun h => He.out (congrArg Opn.n h)) (((Below.refl _ _).alloc (Nat.le_refl _) _).alloc (by simp) _)
    | true =>
      have g1 : (n != n') = false := by rw [bne, h1]; rfl
      cases h2 : (x.toList == x'.toList) with
      | false =>
        have He := Lib.hid (show ¬ (x = x') from fun e => by subst e; simp at h2)
        have g2 : (x.toList != x'.toList) = true := by rw [bne, h2]; rfl
        go_enter Tryz.func113, Tryz.ntmps113
        go_wp2_with fail
        go_ret
        exact no_name (fun h => He.out (congrArg Opn.x h)) (((Below.refl _ _).alloc (Nat.le_refl _) _).alloc (by simp) _)
      | true =>
        have g2 : (x.toList != x'.toList) = false := by rw [bne, h2]; rfl
        cases h3 : ((p.length : Int) == (p'.length : Int)) with
        | false =>
          have He := Lib.hid (show ¬ (p = p') from fun e => by subst e; simp at h3)
          have g3 : ((p.length : Int) != (p'.length : Int)) = true := by rw [bne, h3]; rfl
          go_enter Tryz.func113, Tryz.ntmps113
          go_wp2_with fail
          go_ret
          exact no_name (fun h => He.out (congrArg Opn.p h)) (((Below.refl _ _).alloc (Nat.le_refl _) _).alloc (by simp) _)
        | true =>
          have g3 : ((p.length : Int) != (p'.length : Int)) = false := by rw [bne, h3]; rfl
          cases h4 : ((ds.length : Int) == (ds'.length : Int)) with
          | false =>
            have He := Lib.hid (show ¬ (ds = ds') from fun e => by subst e; simp at h4)
            have g4 : ((ds.length : Int) != (ds'.length : Int)) = true := by rw [bne, h4]; rfl
            go_enter Tryz.func113, Tryz.ntmps113
            go_wp2_with fail
            go_ret
            exact no_name (fun h => He.out (congrArg Opn.ds h)) (((Below.refl _ _).alloc (Nat.le_refl _) _).alloc (by simp) _)
          | true =>
            have g4 : ((ds.length : Int) != (ds'.length : Int)) = false := by rw [bne, h4]; rfl
            have E0 := Lib.hid (show k = k' by simpa using h0)
            have E1 := Lib.hid (show n = n' by simpa using h1)
            have E2 := Lib.hid (show x = x' by rw [beq_bytes] at h2; simpa using h2)
            have E3 := Lib.hid (show p.length = p'.length by simp at h3; omega)
            have E4 := Lib.hid (show ds.length = ds'.length by simp at h4; omega)
            go_enter Tryz.func113, Tryz.ntmps113
            go_wp2_with fail
            go_loopw [5] (fun j wr => ∃ q : Nat, q ≤ p.length ∧ j = .int .i64 q ∧ Hid (p.take q = p'.take q) ∧ Hid (SMO w (ocells k n x pa p.length pc da ds.length dc) (ocells k' n' x' pa' p'.length pc' da' ds'.length dc') wr)) (fun j _ => p.length - (intOf j).toNat)
            case atStart => exact ⟨0, Nat.zero_le _, rfl, Lib.hid (by simp), Lib.hid (SMO.of (Below.refl _ _))⟩
            case round =>
              clear h0 h1 h2 h3 h4 g0 g1 g2 g3 g4
              obtain ⟨q, hq, rfl, hle, hE⟩ := hrel
              have E := Lib.hid hE.out
              have d0 := cells_at E.out.g
              have d1 := cells_at E.out.h
              simp only [ocells] at d0 d1
              clear hE
              by_cases hlt : q < p.length
              · obtain ⟨y, hx⟩ : ∃ x, p[q]? = some x := ⟨p[q], by simp [hlt]⟩
                obtain ⟨z, hy⟩ : ∃ y, p'[q]? = some y := ⟨p'[q]'(by have := E3.out; omega), List.getElem?_eq_getElem _⟩
                obtain ⟨ad, had, c0, hl0⟩ := (Hl.out.pt.below E.out.bel).at hx
                obtain ⟨ae, hae, e0, hl1⟩ := (Hm.out.pt.below E.out.bel).at hy
                dsimp only at had hae
                subst had hae
                have Hx := Lib.hid hx
                have Hy := Lib.hid hy
                have hlm : q < p'.length := by have := E3.out; omega
                clear hx hy
                by_cases hq' : y = z
                · subst hq'
                  go_wp2_with fail
                  refine region_text [([0, 1, 2, 3, 4, 5, 6, 7, 8, 9, 10], false)] mixed (by kernel_rfl) ?_
                  simp only [wpSegs, List.map_cons, List.map_nil, List.getD_cons_succ, List.getD_cons_zero]
                  go_wp2_with fail
                  refine And.intro (by kernel_rfl) ?_
                  go_wp2_with fail
                  go_roundw
                  case rel => exact ⟨q + 1, by omega, by go_num, Lib.hid (by rw [take_snoc' Hx.out, take_snoc' Hy.out, hle.out]), Lib.hid (E.out.step (Below.refl _ _).drew)⟩
                  case measure => simp [intOf]; omega
                · have q1 : (y.toList == z.toList) = false := by rw [beq_bytes]; simpa using hq'
                  have He := Lib.hid (show ¬ p = p' by intro e; subst e; have := Hx.out.symm.trans Hy.out; rw [Option.some.injEq] at this; exact hq' this)
                  go_wp2_with fail
                  refine region_text [([0, 1, 2, 3, 4, 5, 6, 7, 8, 9, 10], false)] mixed (by kernel_rfl) ?_
                  simp only [wpSegs, List.map_cons, List.map_nil, List.getD_cons_succ, List.getD_cons_zero]
                  go_wp2_with fail
                  refine And.intro (by kernel_rfl) ?_
                  go_wp2_with fail
                  all_goals (go_ret; exact no_name (fun h => He.out (congrArg Opn.p h)) E.out.bel.drew)
              · have EI := Lib.hid (show p = p' from take_ext q E3.out (by omega) hle.out)
                go_wp2_with fail
                go_loopw [6] (fun j wr => ∃ q : Nat, q ≤ ds.length ∧ j = .int .i64 q ∧ Hid (ds.take q = ds'.take q) ∧ Hid (SMO w (ocells k n x pa p.length pc da ds.length dc) (ocells k' n' x' pa' p'.length pc' da' ds'.length dc') wr)) (fun j _ => ds.length - (intOf j).toNat)
                case atStart => exact ⟨0, Nat.zero_le _, rfl, Lib.hid (by simp), E⟩
                case round =>
                  clear E d0 d1 hlt hq hle
                  obtain ⟨q, hq, rfl, hle, hE⟩ := hrel
                  have E := Lib.hid hE.out
                  have d0 := cells_at E.out.g
                  have d1 := cells_at E.out.h
                  simp only [ocells] at d0 d1
                  clear hE
                  by_cases hlt : q < ds.length
                  · obtain ⟨⟨⟨yr, yi⟩, ys⟩, hx⟩ : ∃ x, ds[q]? = some x := ⟨ds[q], by simp [hlt]⟩
                    obtain ⟨⟨⟨zr, zi⟩, zs⟩, hy⟩ : ∃ y, ds'[q]? = some y := ⟨ds'[q]'(by have := E4.out; omega), List.getElem?_eq_getElem _⟩
                    obtain ⟨ad, had, c0, c1, c2, hl0⟩ := (Hl.out.ds.below E.out.bel).at hx
                    obtain ⟨ae, hae, e0, e1, e2, hl1⟩ := (Hm.out.ds.below E.out.bel).at hy
                    dsimp only at had hae
                    subst had hae
                    dsimp only at c0 c1 c2 e0 e1 e2
                    have Hx := Lib.hid hx
                    have Hy := Lib.hid hy
                    have hlm : q < ds'.length := by have := E4.out; omega
                    clear hx hy
                    cases hq' : eqD ((yr, yi), ys) ((zr, zi), zs) with
                    | true =>
                      go_wp2_with fail
                      refine region_text [([0, 1, 2, 3, 4, 5, 6, 7, 8, 9, 10], false)] mixed (by kernel_rfl) ?_
                      simp only [wpSegs, List.map_cons, List.map_nil, List.getD_cons_succ, List.getD_cons_zero]
                      go_wp2_with fail
                      refine And.intro (by kernel_rfl) ?_
                      go_wp2_with fail
                      go_roundw
                      case rel => exact ⟨q + 1, by omega, by go_num, Lib.hid (by rw [take_snoc' Hx.out, take_snoc' Hy.out, hle.out, (eqD_iff _ _).1 hq']), Lib.hid (E.out.step (Below.refl _ _).drew)⟩
                      case measure => simp [intOf]; omega
                    | false =>
                      have He := Lib.hid (show ¬ ds = ds' by intro e; subst e; have := Hx.out.symm.trans Hy.out; rw [Option.some.injEq, ← eqD_iff, hq'] at this; cases this)
                      go_wp2_with fail
                      refine region_text [([0, 1, 2, 3, 4, 5, 6, 7, 8, 9, 10], false)] mixed (by kernel_rfl) ?_
                      simp only [wpSegs, List.map_cons, List.map_nil, List.getD_cons_succ, List.getD_cons_zero]
                      go_wp2_with fail
                      refine And.intro (by kernel_rfl) ?_
                      go_wp2_with fail
                      go_ret
                      exact no_name (fun h => He.out (congrArg Opn.ds h)) E.out.bel.drew
                  · have ET := Lib.hid (show ds = ds' from take_ext q E4.out (by omega) hle.out)
                    go_wp2_with fail
                    go_ret
                    exact yes_name (Opn.ext' E0.out E1.out E2.out EI.out ET.out) E.out.bel
/-- the same by any order -/
theorem findC_perm {L M : List Cm} (hp : L.Perm M) (hn : (L.map (·.d)).Nodup) : findC L = findC M := by
  have hm : (M.map (·.d)).Nodup := (hp.map _).nodup_iff.1 hn
  funext d
  cases hf : findC M d with
  | none => rw [findC_none] at hf ⊢; exact fun c hc => hf c (hp.mem_iff.1 hc)
  | some c =>
    obtain ⟨h1, rfl⟩ := findC_some hf
    exact findC_mem hn (hp.mem_iff.2 h1)
theorem knN_congr {F : List Dt} {fd fd' : Fd} {c : Cm} {x : Ac} : ∀ {ps : List Dt}, (∀ p ∈ ps, fd p = fd' p) → knN F fd c ps x = knN F fd' c ps x := by
  intro ps
  induction ps using snoc_rec with
  | h0 => intro _; rfl
  | h1 ps p ih =>
    intro h
    rw [knN_snoc, knN_snoc, ih fun q hq => h q (List.mem_append_left _ hq), h p (by simp)]
theorem FollowsP.congr {F : List Dt} {fd fd' : Fd} {c : Cm} (h : FollowsP F fd c) (e : ∀ p ∈ c.ps, fd p = fd' p) : FollowsP F fd' c := by
  refine ⟨?_, fun p hp x hx => h.each p hp x (by rw [e p hp]; exact hx)⟩
  rcases h.known with h1 | h1 | ⟨p, hp, x, hx, h1⟩
  · exact .inl h1
  · exact .inr (.inl h1)
  · exact .inr (.inr ⟨p, hp, x, by rw [← e p hp]; exact hx, h1⟩)
/-- a commit that can be inserted, but that it may be there -/
structure InsP (F : List Dt) (fd : Fd) (c : Cm) : Prop where
  gap : GapP F fd c
  low : ∀ x, knN F fd c c.ps x ≤ getN c.vv x
  fol : FollowsP F fd c
theorem InsP.congr {F : List Dt} {fd fd' : Fd} {c : Cm} (h : InsP F fd c) (e : ∀ p ∈ c.ps, fd p = fd' p) (o : 1 < c.d.2 → hasG F fd (aheadD c.d) = true → hasG F fd' (aheadD c.d) = true) : InsP F fd' c := by
  refine ⟨⟨fun p hp => ?_, fun h1 => o h1 (h.gap.own h1), fun x => ?_⟩, fun x => ?_, h.fol.congr e⟩
  · have := h.gap.ps p hp
    unfold hasG at this ⊢
    rwa [← e p hp]
  · rw [← knN_congr e]; exact h.gap.knows x
  · rw [← knN_congr e]; exact h.low x
def HistI (F : List Dt) (L : List Cm) : Prop := ∀ c ∈ L, InsP F (findC L) c
theorem HistI.start (F : List Dt) : HistI F [] := fun c hc => (by cases hc)
theorem HistI.step {F : List Dt} {L : List Cm} {c : Cm} {n : Nat} (h : HistI F L) (hi : insE F (findC L) n c = 0) : HistI F (L ++ [c]) := by
  obtain ⟨hM, hG0, hGap, ⟨hK, hFol⟩, _⟩ := insE_zero hi
  have hfn : findC L c.d = none := by
    cases hf : findC L c.d with
    | none => rfl
    | some y => unfold hasG at hG0; rw [hf] at hG0; cases hG0
  have key : ∀ y : Cm, InsP F (findC L) y → InsP F (findC (L ++ [c])) y := fun y hy => by
    refine hy.congr (fun p hp => ?_) (fun _ h1 => (hasG_snoc hfn).2 (.inl h1))
    rw [findC_snoc hfn, if_neg]
    rintro rfl
    have := hy.gap.ps _ hp
    rw [hG0] at this; cases this
  intro y hy
  rcases List.mem_append.1 hy with hy | hy
  · exact key y (h y hy)
  · rw [List.mem_singleton] at hy
    subst hy
    exact key y ⟨hGap, hK, hFol⟩
theorem HistI.perm {F : List Dt} {L M : List Cm} (h : HistI F L) (hp : L.Perm M) (hn : (L.map (·.d)).Nodup) : HistI F M := fun c hc => by
  rw [← findC_perm hp hn]; exact h c (hp.mem_iff.2 hc)
theorem OwnC.nil (w : World) (base : Nat) : OwnC w base none 0 [] := World.ownsRow_nil _ _ _ _
theorem OwnC.base {w : World} {base base' : Nat} {a : Option Addr} {c : Nat} {v : List Cw} (h : OwnC w base a c v) (hb : base' ≤ base) : OwnC w base' a c v := owns_base h hb
theorem ccs_one (l : List Cw) : ∀ u ∈ ccs l, u.oneCell' = true := by
  intro u hu
  obtain ⟨v, _, hv⟩ := List.mem_flatMap.1 hu
  exact ccel_one v u hv
theorem cm_one {w : World} {b : Nat} (v : Cw) (h : w.heap[b]? = some (.cells (cwcells v) 57 (0, 0))) : Sl w 11 (some ⟨b, 0, none⟩) 1 1 (ccs [v]) :=
  Sl.blk (C := cwcells v) h rfl (by simp [maxLen])
section
variable {w : World} {ops : Array Oper} {rest : List Oper} {o : Oper} {a : Act} {Q : Exit → Act → World → Prop}
theorem wpList_appC (hgd : o.guard = none) (s x : Operand) (ho : o.op = .call { callee := .builtin .append, args := #[s, x], argTypes := #[33, 33] })
    (base : Nat) (va : Option Addr) (vc : Nat) (v : List Cw) (hs : a.eval s = .slice va v.length vc) (hown : OwnC w base va vc v)
    (sa : Option Addr) (c : Nat) (u : List Cw) (hx : a.eval x = .slice sa u.length c) (hsl : Sl w 11 sa u.length c (ccs u)) (hn : v.length + u.length ≤ 1000) (hbase : base ≤ w.heap.size)
    (h : ∀ v' a' c' w', v' = v ++ u → OwnC w' base a' c' v' → Below base w w' → Chg (ob va) w w' → (∀ k ∈ ob a', k ∈ ob va ∨ w.heap.size ≤ k) → wpList Tryz.prog ops Q rest (a.put o.dst (.slice a' v'.length c')) w') : wpList Tryz.prog ops Q (o :: rest) a w := by
  obtain ⟨i0, hi0, hz0, hz1, hz2⟩ := info_parts Tryz.info_commit
  refine wpList_append_sl hgd s x 33 ho base 57 i0 _ 11 152 Tryz.underlying33 hi0 hz0 hz1 hz2 rfl (by decide) va v.length vc (ccs v) hs hown sa u.length c (ccs u) hx hsl (ccs_one u) (by unfold maxLen; omega) (by omega) hbase fun a' c' w' h1 h2 h3 => ?_
  have := h (v ++ u) a' c' w' rfl (by unfold OwnC; rw [ccs_append, List.length_append]; exact h1) (h2.below hbase fun k hk => (owns_lt hown k hk).1) h2 h3
  rwa [List.length_append] at this
end
theorem BdA.same {b : Nat} : ∀ {n : Nat} {T U : List Nd}, BdA b n T → sameT n T U → BdA b n U
  | 0, _, _, h, hs => by rw [hs.2]; exact Nat.zero_le _
  | n + 1, T, U, h, hs => by
    obtain ⟨hl, he⟩ := hs
    refine ⟨by rw [← hl]; exact h.1, fun y hy => ?_⟩
    obtain ⟨i, hi⟩ := List.getElem?_of_mem hy
    have hi2 := (List.getElem?_eq_some_iff.1 hi).1
    obtain ⟨x, hx⟩ : ∃ x, T[i]? = some x := ⟨T[i]'(by omega), List.getElem?_eq_getElem (by omega)⟩
    obtain ⟨_, h2, h3⟩ := he i x y hx hi
    obtain ⟨k1, k2, k3⟩ := h.2 x (List.mem_of_getElem? hx)
    refine ⟨?_, fun v hv => ?_, BdA.same k3 h3⟩
    · have := congrArg List.length h2
      simp at this
      omega
    · have h4 : v.l ∈ x.ls.map (·.l) := by rw [h2]; exact List.mem_map.2 ⟨v, hv, rfl⟩
      obtain ⟨u, hu, e⟩ := List.mem_map.1 h4
      rw [← e]
      exact k2 u hu
theorem five_at {W : World} {b : Nat} {a0 a1 a2 a3 a4 : Value} {t : TypeId} (h : W.heap[b]? = some (.cells #[a0, a1, a2, a3, a4] t (0, 0))) (x0 x1 x2 x3 x4 : Value) :
    (((((W.setCell ⟨b, 0, none⟩ x0).setCell ⟨b, 1, none⟩ x1).setCell ⟨b, 2, none⟩ x2).setCell ⟨b, 3, none⟩ x3).setCell ⟨b, 4, none⟩ x4).heap[b]? = some (.cells #[x0, x1, x2, x3, x4] t (0, 0)) := by
  have h6 := Go.heap_setCell_same _ b 4 _ t x4 (Go.heap_setCell_same _ b 3 _ t x3 (Go.heap_setCell_same _ b 2 _ t x2 (Go.heap_setCell_same _ b 1 _ t x1 (Go.heap_setCell_same W b 0 _ t x0 h))))
  simp only [List.setIfInBounds_toArray, List.set_cons_zero, List.set_cons_succ] at h6
  exact h6
set_option maxRecDepth 100000 in
set_option maxHeartbeats 8000000 in
theorem base_G (pg mb : Nat) (w0 : World) (m : Nat) (b : Bw) (L : List Cw) (va : Option Addr) (vc : Nat) (vv : List Dt) (w : World) (h : GrAt w pg mb w0 m b L va vc vv) (ht : TrRd w0 3 b.ra b.rc b.b.tr) (hB : BdA 1100000 3 b.b.tr) :
    Calls Tryz.prog 44 #[.pointer (some ⟨pg, 0, none⟩)] w (OwnBTo w b.b) := by
  have hfm := h.fmax
  have htm := h.tmax
  have H3 : Hid (BwAt w 3 b) := Lib.hid (BwAt.below ⟨h.base.f, h.base.tips, ht, h.base.okf, h.base.okt, h.base.num, h.base.t⟩ h.bel)
  have HBl := Lib.hid h.blk
  have HBd := Lib.hid hB
  clear h ht hB
  obtain ⟨⟨num, F, tips, t, tr⟩, fa, fc, ta, tc, ra, rc⟩ := b
  dsimp only at hfm htm
  have E0 : Hid (BoxE 32 w (w.alloc (.cells #[.int .u64 0, .slice none 0 0, .slice none 0 0, .int .u64 0, .slice none 0 0] 32)) #[.int .u64 0, .slice none 0 0, .slice none 0 0, .int .u64 0, .slice none 0 0]) := Lib.hid ⟨heap_new _ _, (Below.refl _ _).alloc (Nat.le_refl _) _⟩
  have G0 := Lib.hid ((E0.out.bel.block _ (heap_lt HBl.out)).trans HBl.out)
  have g0 := cells_at G0.out
  simp only [gcells] at g0
  have hpg := heap_lt HBl.out
  go_enter Tryz.func44, Tryz.ntmps44
  go_wp2_with fail
  refine (none_some pg mb _ ?c5).mono ?_
  case c5 => exact cells_at G0.out 5
  rintro e w1 ⟨rfl, rfl⟩
  go_wp2_with fail
  refine (ownBase_any ⟨⟨num, F, tips, t, tr⟩, fa, fc, ta, tc, ra, rc⟩ _ (H3.out.below E0.out.bel) (by dsimp only; omega) (by dsimp only; omega) HBd.out).mono ?_
  rintro e w2 ⟨⟨⟨num', F', tips', t', U⟩, a1, c1, a2, c2, a3, c3⟩, rfl, hs, ho, hb2⟩
  have Hs := Lib.hid hs
  have Ho := Lib.hid ho
  have E := Lib.hid (E0.out.step hb2)
  have hz2 := hb2.size
  have hz1 := E0.out.bel.size
  clear hs ho hb2 E0 G0 g0
  have d0 := cells_at E.out.blk
  have f0 := free_at E.out.blk
  have z0 := heap_lt E.out.blk
  simp only [bwcells]
  go_wp2_with fail
  have hC : Chg [w.heap.size] w2 (((((w2.setCell ⟨w.heap.size, 0, none⟩ (.int .u64 num')).setCell ⟨w.heap.size, 1, none⟩ (.slice a1 F'.length c1)).setCell ⟨w.heap.size, 2, none⟩ (.slice a2 tips'.length c2)).setCell ⟨w.heap.size, 3, none⟩ (.int .u64 t')).setCell ⟨w.heap.size, 4, none⟩ (.slice a3 U.length c3)) := (((((Chg.refl _ _).put _ _ (by simp)).put _ _ (by simp)).put _ _ (by simp)).put _ _ (by simp)).put _ _ (by simp)
  have h5 := five_at E.out.blk (.int .u64 num') (.slice a1 F'.length c1) (.slice a2 tips'.length c2) (.int .u64 t') (.slice a3 U.length c3)
  generalize (((((w2.setCell ⟨w.heap.size, 0, none⟩ (.int .u64 num')).setCell ⟨w.heap.size, 1, none⟩ (.slice a1 F'.length c1)).setCell ⟨w.heap.size, 2, none⟩ (.slice a2 tips'.length c2)).setCell ⟨w.heap.size, 3, none⟩ (.int .u64 t')).setCell ⟨w.heap.size, 4, none⟩ (.slice a3 U.length c3)) = w4 at *
  clear d0 f0
  have d0 := cells_at h5
  have hfar : ∀ k ∈ [w.heap.size], k < w.heap.size + 1 := fun k hk => by simp at hk; omega
  have hszA : (w.alloc (.cells #[.int .u64 0, .slice none 0 0, .slice none 0 0, .int .u64 0, .slice none 0 0] 32)).heap.size = w.heap.size + 1 := by simp
  have o1 := OwnD.base (base' := w.heap.size) (owns_chg Ho.out.f hC (fun k hk hm => by have := (owns_lt Ho.out.f k hk).1; simp at hm; omega)) (by omega)
  have o2 := OwnD.base (base' := w.heap.size) (owns_chg Ho.out.tips hC (fun k hk hm => by have := (owns_lt Ho.out.tips k hk).1; simp at hm; omega)) (by omega)
  have o3 := OwnT.base (b2 := w.heap.size) (by omega) (OwnT.chg hC (fun k hk => by simp at hk; omega) Ho.out.tr)
  have hB4 : Below w.heap.size w w4 := E.out.bel.trans (hC.below E.out.bel.size (by simp))
  exact bodyPost_ret (v := .agg (basecells num' a1 F'.length c1 a2 tips'.length c2 t' a3 U.length c3)) (by simp [results, Tryz.results44, go_sem, d0]; try rfl) rfl ⟨⟨⟨num', F', tips', t', U⟩, a1, c1, a2, c2, a3, c3⟩, rfl, Hs.out, ⟨o1, o2, o3⟩, hB4⟩
theorem ltCb_or (a b : Cm) : ltCb a b = true ↔ a.t < b.t ∨ a.t = b.t ∧ lessD a.d b.d = true := by
  unfold ltCb
  simp
theorem ltC_b (x y : Cm) : ltC x y ↔ ltCb x y = true := by
  first | exact Iff.rfl | (rw [ltCb_or]; rfl) | (rw [ltCb_or]; unfold ltC; simp)
set_option maxRecDepth 100000 in
set_option maxHeartbeats 8000000 in
theorem same11_any (u v : Cw) (w : World) (hu : CwAt w u) (hv : CwAt w v) (hb : CwB u) (he : u.c = v.c) :
    Calls Tryz.prog 53 #[.agg (cwcells u), .agg (cwcells v)] w fun e w' => e = .returned (.bool true) ∧ Below w.heap.size w w' := by
  obtain ⟨⟨⟨⟨r, i⟩, s⟩, ps, uu, t, ⟨k, n, x, p, ds⟩⟩, qa, qc, ua, uc, pa, pc, da, dc⟩ := u
  obtain ⟨c', qa', qc', ua', uc', pa', pc', da', dc'⟩ := v
  dsimp only at he
  subst he
  have HU := Lib.hid hu
  have HV := Lib.hid hv
  obtain ⟨b1, b2, b3, b4⟩ := hb
  dsimp only at b1 b2 b3 b4
  have E : Hid (Below w.heap.size w ((w.alloc (.cells (ccells r i s qa ps.length qc ua uu.length uc t k pa p.length pc n x da ds.length dc) 57)).alloc (.cells (ccells r i s qa' ps.length qc' ua' uu.length uc' t k pa' p.length pc' n x da' ds.length dc') 57)) ∧ ((w.alloc (.cells (ccells r i s qa ps.length qc ua uu.length uc t k pa p.length pc n x da ds.length dc) 57)).alloc (.cells (ccells r i s qa' ps.length qc' ua' uu.length uc' t k pa' p.length pc' n x da' ds.length dc') 57)).heap[w.heap.size]? = some (.cells (ccells r i s qa ps.length qc ua uu.length uc t k pa p.length pc n x da ds.length dc) 57 (0, 0)) ∧ ((w.alloc (.cells (ccells r i s qa ps.length qc ua uu.length uc t k pa p.length pc n x da ds.length dc) 57)).alloc (.cells (ccells r i s qa' ps.length qc' ua' uu.length uc' t k pa' p.length pc' n x da' ds.length dc') 57)).heap[w.heap.size + 1]? = some (.cells (ccells r i s qa' ps.length qc' ua' uu.length uc' t k pa' p.length pc' n x da' ds.length dc') 57 (0, 0))) :=
    Lib.hid ⟨((Below.refl _ _).alloc (Nat.le_refl _) _).alloc (by simp) _, (heap_old _ _ (by simp)).trans (heap_new _ _), heap_new2 _ _ _⟩
  clear hu hv
  simp only [cwcells]
  go_enter Tryz.func53, Tryz.ntmps53
  go_upto_region 1 with (fail)
  obtain ⟨wa, hwa⟩ : ∃ wa, wa = ((w.alloc (.cells (ccells r i s qa ps.length qc ua uu.length uc t k pa p.length pc n x da ds.length dc) 57)).alloc (.cells (ccells r i s qa' ps.length qc' ua' uu.length uc' t k pa' p.length pc' n x da' ds.length dc') 57)) := ⟨_, rfl⟩
  simp only [ccells] at hwa
  have E2 := E.out
  clear E
  simp only [ccells] at E2
  rw [← hwa] at E2 ⊢
  clear hwa
  have E := Lib.hid E2
  clear E2
  have d0 := cells_at E.out.2.1
  have d1 := cells_at E.out.2.2
  have z0 := heap_lt E.out.2.1
  have z1 := heap_lt E.out.2.2
  have x1 : eqD ((r, i), s) ((r, i), s) = true := (eqD_iff _ _).2 rfl
  go_wp2_with fail
  refine (same_any qa qa' qc qc' ps ps _ (HU.out.ps.below E.out.1) (HV.out.ps.below E.out.1) b1 b1).mono ?_
  rintro e w1 ⟨rfl, hb1⟩
  have B1 := Lib.hid (below2 E.out.1 hb1 E.out.1.size)
  have F1 := Lib.hid ((hb1.block _ z0).trans E.out.2.1)
  have G1 := Lib.hid ((hb1.block _ z1).trans E.out.2.2)
  clear hb1 E d0 d1 z0 z1
  have d0 := cells_at F1.out
  have d1 := cells_at G1.out
  have z0 := heap_lt F1.out
  have z1 := heap_lt G1.out
  have x2 : decide (ps = ps) = true := decide_eq_true rfl
  go_wp2_with fail
  refine (same_any ua ua' uc uc' uu uu _ (HU.out.vv.below B1.out) (HV.out.vv.below B1.out) b2 b2).mono ?_
  rintro e w2 ⟨rfl, hb1⟩
  have B2 := Lib.hid (below2 B1.out hb1 B1.out.size)
  have F2 := Lib.hid ((hb1.block _ z0).trans F1.out)
  have G2 := Lib.hid ((hb1.block _ z1).trans G1.out)
  clear hb1 d0 d1 z0 z1 B1 F1 G1
  have d0 := cells_at F2.out
  have d1 := cells_at G2.out
  have z0 := heap_lt F2.out
  have z1 := heap_lt G2.out
  have x3 : decide (uu = uu) = true := decide_eq_true rfl
  go_wp2_with fail
  refine (rsameO_any ⟨⟨k, n, x, p, ds⟩, pa, pc, da, dc⟩ ⟨⟨k, n, x, p, ds⟩, pa', pc', da', dc'⟩ _ (HU.out.below B2.out).op (HV.out.below B2.out).op b3 b4 b3 b4).mono ?_
  rintro e w3 ⟨q, rfl, hq, hb1⟩
  obtain rfl : q = true := hq.2 rfl
  have B3 := Lib.hid (below2 B2.out hb1 B2.out.size)
  clear hb1 hq
  go_wp2_with fail
  go_ret
  exact ⟨rfl, B3.out⟩
set_option maxRecDepth 100000 in
set_option maxHeartbeats 8000000 in
theorem sameAll11_any (a a' : Option Addr) (c c' : Nat) (l l' : List Cw) (w : World) (h : Cms w a c l) (h' : Cms w a' c' l') (hb : ∀ v ∈ l, CwB v) (he : cms l = cms l') (hl : l.length ≤ 1000) :
    Calls Tryz.prog 17 #[.slice a l.length c, .slice a' l'.length c'] w fun e w' => e = .returned (.bool true) ∧ Below w.heap.size w w' := by
  have hll : l'.length = l.length := by have h1 := congrArg List.length he; unfold cms at h1; simpa using h1.symm
  have H := Lib.hid h
  have H' := Lib.hid h'
  have Hb := Lib.hid hb
  have He := Lib.hid he
  rw [hll]
  have Hll := Lib.hid hll
  clear h h' hb he hll
  go_enter Tryz.func17, Tryz.ntmps17
  go_wp2_with fail
  go_loopw [5] (fun j wr => ∃ k : Nat, k ≤ l.length ∧ j = .int .i64 k ∧ Hid (Below w.heap.size w wr)) (fun j _ => l.length - (intOf j).toNat)
  case atStart => exact ⟨0, Nat.zero_le _, rfl, Lib.hid (Below.refl _ _)⟩
  case round =>
    obtain ⟨k, hk, rfl, B⟩ := hrel
    by_cases hlt : k < l.length
    · obtain ⟨x, hx⟩ : ∃ v, l[k]? = some v := ⟨l[k], by simp [hlt]⟩
      obtain ⟨y, hy⟩ : ∃ v, l'[k]? = some v := ⟨l'[k]'(by rw [Hll.out]; exact hlt), by simp⟩
      have hxy : x.c = y.c := by
        have h1 := cms_i hx
        rw [He.out, cms_i hy] at h1
        exact (Option.some.inj h1).symm
      have HX := Lib.hid ((H.out.each x (List.mem_of_getElem? hx)).below B.out)
      have HY := Lib.hid ((H'.out.each y (List.mem_of_getElem? hy)).below B.out)
      have HB := Lib.hid (Hb.out x (List.mem_of_getElem? hx))
      have Hxy := Lib.hid hxy
      obtain ⟨ad, had, ⟨c0, c1, c2, c3, c4, c5, c6, c7, c8, c9, c10⟩, hlb⟩ := (H.out.below B.out).at_ hx
      obtain ⟨ae, hae, ⟨e0, e1, e2, e3, e4, e5, e6, e7, e8, e9, e10⟩, hlb2⟩ := (H'.out.below B.out).at_ hy
      have B0 : Hid (Below w.heap.size w wr.drew) := Lib.hid (B.out.trans (((Below.refl wr.heap.size wr).drew).mono B.out.size))
      subst had
      subst hae
      clear hx hy hxy
      obtain ⟨⟨⟨⟨r, i1⟩, s⟩, ps, uu, t, ⟨kk, n, x1, p, ds⟩⟩, qa, qc, ua, uc, pa, pc, da, dc⟩ := x
      obtain ⟨⟨⟨⟨r', i'⟩, s'⟩, ps', uu', t', ⟨k', n', x', p', ds'⟩⟩, qa', qc', ua', uc', pa', pc', da', dc'⟩ := y
      dsimp only at c0 c1 c2 c3 c4 c5 c6 c7 c8 c9 c10 e0 e1 e2 e3 e4 e5 e6 e7 e8 e9 e10
      go_wp2_with fail
      refine region_text [([0, 1, 2, 3, 4, 5, 6, 7, 8, 9], false)] mixed (by kernel_rfl) ?_
      simp only [wpSegs, List.map_cons, List.map_nil, List.getD_cons_succ, List.getD_cons_zero]
      go_wp2_with fail
      refine (same11_any ⟨⟨((r, i1), s), ps, uu, t, ⟨kk, n, x1, p, ds⟩⟩, qa, qc, ua, uc, pa, pc, da, dc⟩ ⟨⟨((r', i'), s'), ps', uu', t', ⟨k', n', x', p', ds'⟩⟩, qa', qc', ua', uc', pa', pc', da', dc'⟩ _ (HX.out.below (Below.refl _ _).drew) (HY.out.below (Below.refl _ _).drew) HB.out Hxy.out).mono ?_
      rintro e w1 ⟨rfl, hb⟩
      have HB1 := Lib.hid (below2 B0.out hb B0.out.size)
      clear hb c0 c1 c2 c3 c4 c5 c6 c7 c8 c9 c10 e0 e1 e2 e3 e4 e5 e6 e7 e8 e9 e10
      go_wp2_with fail
      refine And.intro (by kernel_rfl) ?_
      go_wp2_with fail
      go_roundw
      case rel => exact ⟨k + 1, by omega, by go_num, HB1⟩
      case measure => simp [intOf]; omega
    · go_wp2_with fail
      go_ret
      exact ⟨rfl, B.out⟩
/-- within, place by place, and as many -/
def withinI (a b : List Int) : Bool := decide (a.length = b.length) && (a.zip b).all fun x => decide (x.1 ≤ x.2)
theorem zip_at {a b : List Int} {k : Nat} {x y : Int} (hx : a[k]? = some x) (hy : b[k]? = some y) : (x, y) ∈ a.zip b := by
  refine List.mem_of_getElem? (i := k) ?_
  rw [List.getElem?_zip_eq_some]; exact ⟨hx, hy⟩
theorem withinI_iff (a b : List Int) : withinI a b = true ↔ a.length = b.length ∧ ∀ (k : Nat) (x y : Int), a[k]? = some x → b[k]? = some y → x ≤ y := by
  simp only [withinI, Bool.and_eq_true, decide_eq_true_eq, List.all_eq_true]
  refine and_congr_right fun hl => ⟨fun h k x y hx hy => h _ (zip_at hx hy), fun h p hp => ?_⟩
  obtain ⟨k, hk⟩ := List.mem_iff_getElem?.1 hp
  obtain ⟨h1, h2⟩ := List.getElem?_zip_eq_some.1 hk
  exact h k _ _ h1 h2
theorem withinI_refl (a : List Int) : withinI a a = true := (withinI_iff a a).2 ⟨rfl, fun k x y h1 h2 => by rw [h1] at h2; cases h2; exact Int.le_refl _⟩
theorem withinI_anti {a b : List Int} (h : withinI a b = true) (g : withinI b a = true) : a = b := by
  rw [withinI_iff] at *
  refine List.ext_getElem? fun k => ?_
  by_cases hk : k < a.length
  · have hkb : k < b.length := by omega
    have h1 : a[k]? = some a[k] := by simp [hk]
    have h2 : b[k]? = some b[k] := by simp [hkb]
    have := h.2 k _ _ h1 h2
    have := g.2 k _ _ h2 h1
    rw [h1, h2]; congr 1; omega
  · rw [List.getElem?_eq_none (by omega), List.getElem?_eq_none (by omega)]
theorem ucells_one (l : List Int) : ∀ u ∈ ucells l, u.oneCell' = true := by
  intro u hu; obtain ⟨b, _, rfl⟩ := List.mem_map.1 hu; rfl
theorem withinI_false {a b : List Int} {k : Nat} {x y : Int} (hx : a[k]? = some x) (hy : b[k]? = some y) (h : ¬ x ≤ y) : withinI a b = false := by
  cases e : withinI a b with
  | false => rfl
  | true => exact absurd (((withinI_iff a b).1 e).2 k x y hx hy) h
theorem withinI_short {a b : List Int} (h : a.length ≠ b.length) : withinI a b = false := by simp [withinI, h]
def upToI (a b : List Int) (k : Nat) : Prop := ∀ j x y, j < k → a[j]? = some x → b[j]? = some y → x ≤ y
theorem upToI.snoc {a b : List Int} {k : Nat} (h : upToI a b k) {x y : Int} (hx : a[k]? = some x) (hy : b[k]? = some y) (hl : x ≤ y) : upToI a b (k + 1) := by
  intro j x' y' hj h1 h2
  rcases Nat.lt_succ_iff_lt_or_eq.1 hj with h3 | rfl
  · exact h j x' y' h3 h1 h2
  · rw [hx] at h1; rw [hy] at h2; cases h1; cases h2; exact hl
theorem upToI.all {a b : List Int} {k : Nat} (h : upToI a b k) (hk : a.length ≤ k) : withinI a b = decide (a.length = b.length) := by
  by_cases e : a.length = b.length
  · rw [decide_eq_true e]; exact (withinI_iff a b).2 ⟨e, fun j x y hx hy => h j x y (by have := (List.getElem?_eq_some_iff.1 hx).1; omega) hx hy⟩
  · rw [withinI_short e, decide_eq_false e]
theorem Tryz.info_u32 : (Tryz.prog.info? 22).map (fun i => (i.zero, i.size, i.bytes)) = some (some (.int .u32 0), 1, 4) := by kernel_rfl
/-- a call returns the numbers l in memory of its own -/
def IncTo (w : World) (l : List Int) (e : Ending) (w' : World) : Prop :=
  ∃ a c, e = .returned (.slice a l.length c) ∧ w'.ownsRow w.heap.size 22 1 (.slice a l.length c) l.length (ucells l) ∧ Below w.heap.size w w'
set_option maxRecDepth 100000 in
set_option maxHeartbeats 1000000 in
theorem clone_any (a : Option Addr) (c : Nat) (l : List Int) (w : World) (hv : U32 w a c l) (hn : l.length ≤ 1100000) :
    Calls Tryz.prog 43 #[.slice a l.length c] w (IncTo w l) := by
  obtain ⟨i0, hi0, hz0, hz1, hz2⟩ := info_parts Tryz.info_u32
  have Hv := Lib.hid hv
  have heq := fun (w : World) (a : Option Addr) (n c : Nat) => Lib.run_eql_slice_nil (P := Tryz.prog) w 25 22 a n c 0 0 Tryz.underlying25
  cases a with
  | none =>
    obtain ⟨h1, h2, h3, ⟨_, h4, h5⟩ | ⟨b, hb, _⟩⟩ := hv
    · subst h5
      obtain rfl : l = [] := List.eq_nil_of_length_eq_zero h4
      clear h1 h2 h3 h4 Hv
      go_enter Tryz.func43, Tryz.ntmps43
      go_wp2_with fail
      go_ret
      exact ⟨none, 0, rfl, ⟨rfl, .inl ⟨rfl, rfl⟩⟩, Below.refl _ _⟩
    · cases hb
  | some ad =>
    clear hv
    go_enter Tryz.func43, Tryz.ntmps43
    go_wp2_with (at_builtin; go_must (refine wpList_append_sl rfl _ _ 25 rfl w.heap.size 22 i0 (.int .u32 0) 1 4 Tryz.underlying25 hi0 hz0 hz1 hz2 rfl (by decide) (some ⟨w.heap.size, 0, none⟩) 0 0 [] rfl ?o1 (some ad) l.length c (ucells l) rfl ?s1 ?t1 ?c1 ?d1 ?e1 ?_))
    case o1 => exact World.ownsRow_made w #[] 0 (Nat.le_refl _) (by decide) rfl
    case s1 => exact Hv.out.below ((Below.refl _ _).alloc (Nat.le_refl _) _)
    case t1 => exact ucells_one _
    case c1 => unfold maxLen; omega
    case d1 => omega
    case e1 => simp
    intro a1 c1 w1 ho1 hC1 hob1
    try simp only [Nat.zero_add, List.nil_append] at ho1
    have HB1 : Hid (Below w.heap.size w w1) := Lib.hid (((Below.refl _ _).alloc (Nat.le_refl _) _).trans (hC1.below (by simp) (by simp [ob])))
    have Ho1 := Lib.hid ho1
    clear ho1 hC1
    go_wp2_with fail
    go_ret
    exact ⟨a1, c1, by simp, Ho1.out, HB1.out⟩

/-- two leaves' blocks came first -/
structure SM (w : World) (A B : Array Value) (W : World) : Prop where
  g : W.heap[w.heap.size]? = some (.cells A 183 (0, 0))
  h : W.heap[w.heap.size + 1]? = some (.cells B 183 (0, 0))
  bel : Below w.heap.size w W
  BEL : Below ((w.alloc (.cells A 183)).alloc (.cells B 183)).heap.size ((w.alloc (.cells A 183)).alloc (.cells B 183)) W
theorem SM.of {w W : World} {A B : Array Value} (h : Below ((w.alloc (.cells A 183)).alloc (.cells B 183)).heap.size ((w.alloc (.cells A 183)).alloc (.cells B 183)) W) : SM w A B W := ⟨(new2 h).1, (new2 h).2.1, (new2 h).2.2.2, h⟩
theorem SM.step {w W W' : World} {A B : Array Value} (h : SM w A B W) (hb : Below W.heap.size W W') : SM w A B W' := SM.of (below2 h.BEL hb h.BEL.size)
set_option maxRecDepth 100000 in
set_option maxHeartbeats 4000000 in
theorem rsameL_any (l m : Lf) (ia ta ja ua : Option Addr) (ic tc jc uc : Nat) (w : World) (hl : LfAt w l ia ic ta tc) (hm : LfAt w m ja jc ua uc) :
    Calls Tryz.prog 155 #[lval l ia ic ta tc, lval m ja jc ua uc] w fun e w' => ∃ q : Bool, e = .returned (.bool q) ∧ (q = true ↔ l = m) ∧ Below w.heap.size w w' := by
  obtain ⟨k, n, t, ⟨⟨r, i⟩, s⟩, x, is, ts⟩ := l
  obtain ⟨k', n', t', ⟨⟨r', i'⟩, s'⟩, x', is', ts'⟩ := m
  have hn1 := hl.li
  have hn2 := hm.li
  have hn3 := hl.lt
  have hn4 := hm.lt
  dsimp only at hn1 hn2 hn3 hn4
  have Hl := Lib.hid hl
  have Hm := Lib.hid hm
  clear hl hm
  simp only [lval]
  cases h0 : (k == k') with
  | false =>
    have He := Lib.hid (show ¬ (k = k') from by simpa using h0)
    have g0 : (k != k') = true := by rw [bne, h0]; rfl
    go_enter Tryz.func155, Tryz.ntmps155
    go_wp2_with fail
    go_ret
    exact ⟨false, rfl, ⟨fun h => (by cases h), fun h => absurd (show k = k' from congrArg Lf.k h) He.out⟩, ((Below.refl _ _).alloc (Nat.le_refl _) _).alloc (by simp) _⟩
  | true =>
    have g0 : (k != k') = false := by rw [bne, h0]; rfl
    cases h1 : (n == n') with
    | false =>
      have He := Lib.hid (show ¬ (n = n') from by simpa using h1)
      have g1 : (n != n') = true := by rw [bne, h1]; rfl
      go_enter Tryz.func155, Tryz.ntmps155
      go_wp2_with fail
      go_ret
      exact ⟨false, rfl, ⟨fun h => (by cases h), fun h => absurd (show n = n' from congrArg Lf.n h) He.out⟩, ((Below.refl _ _).alloc (Nat.le_refl _) _).alloc (by simp) _⟩
    | true =>
      have g1 : (n != n') = false := by rw [bne, h1]; rfl
      cases h2 : (t == t') with
      | false =>
        have He := Lib.hid (show ¬ (t = t') from by simpa using h2)
        have g2 : (t != t') = true := by rw [bne, h2]; rfl
        go_enter Tryz.func155, Tryz.ntmps155
        go_wp2_with fail
        go_ret
        exact ⟨false, rfl, ⟨fun h => (by cases h), fun h => absurd (show t = t' from congrArg Lf.t h) He.out⟩, ((Below.refl _ _).alloc (Nat.le_refl _) _).alloc (by simp) _⟩
      | true =>
        have g2 : (t != t') = false := by rw [bne, h2]; rfl
        cases h3 : eqD ((r, i), s) ((r', i'), s') with
        | false =>
          have He := Lib.hid (show ¬ (((r, i), s) = ((r', i'), s')) from fun e => by rw [(eqD_iff _ _).2 e] at h3; cases h3)
          go_enter Tryz.func155, Tryz.ntmps155
          go_wp2_with fail
          go_ret
          exact ⟨false, rfl, ⟨fun h => (by cases h), fun h => absurd (show ((r, i), s) = ((r', i'), s') from congrArg Lf.d h) He.out⟩, ((Below.refl _ _).alloc (Nat.le_refl _) _).alloc (by simp) _⟩
        | true =>
          cases h4 : (x.toList == x'.toList) with
          | false =>
            have He := Lib.hid (show ¬ (x = x') from fun e => by subst e; simp at h4)
            have g4 : (x.toList != x'.toList) = true := by rw [bne, h4]; rfl
            go_enter Tryz.func155, Tryz.ntmps155
            go_wp2_with fail
            go_ret
            exact ⟨false, rfl, ⟨fun h => (by cases h), fun h => absurd (show x = x' from congrArg Lf.x h) He.out⟩, ((Below.refl _ _).alloc (Nat.le_refl _) _).alloc (by simp) _⟩
          | true =>
            have g4 : (x.toList != x'.toList) = false := by rw [bne, h4]; rfl
            cases h5 : ((is.length : Int) == (is'.length : Int)) with
            | false =>
              have He := Lib.hid (show ¬ (is = is') from fun e => by subst e; simp at h5)
              have g5 : ((is.length : Int) != (is'.length : Int)) = true := by rw [bne, h5]; rfl
              go_enter Tryz.func155, Tryz.ntmps155
              go_wp2_with fail
              go_ret
              exact ⟨false, rfl, ⟨fun h => (by cases h), fun h => absurd (show is = is' from congrArg Lf.items h) He.out⟩, ((Below.refl _ _).alloc (Nat.le_refl _) _).alloc (by simp) _⟩
            | true =>
              have g5 : ((is.length : Int) != (is'.length : Int)) = false := by rw [bne, h5]; rfl
              cases h6 : ((ts.length : Int) == (ts'.length : Int)) with
              | false =>
                have He := Lib.hid (show ¬ (ts = ts') from fun e => by subst e; simp at h6)
                have g6 : ((ts.length : Int) != (ts'.length : Int)) = true := by rw [bne, h6]; rfl
                go_enter Tryz.func155, Tryz.ntmps155
                go_wp2_with fail
                go_ret
                exact ⟨false, rfl, ⟨fun h => (by cases h), fun h => absurd (show ts = ts' from congrArg Lf.tombs h) He.out⟩, ((Below.refl _ _).alloc (Nat.le_refl _) _).alloc (by simp) _⟩
              | true =>
                have g6 : ((ts.length : Int) != (ts'.length : Int)) = false := by rw [bne, h6]; rfl
                have E0 := Lib.hid (show k = k' by simpa using h0)
                have E1 := Lib.hid (show n = n' by simpa using h1)
                have E2 := Lib.hid (show t = t' by simpa using h2)
                have E3 := Lib.hid ((eqD_iff _ _).1 h3)
                have E4 := Lib.hid (show x = x' by rw [beq_bytes] at h4; simpa using h4)
                have E5 := Lib.hid (show is.length = is'.length by simp at h5; omega)
                have E6 := Lib.hid (show ts.length = ts'.length by simp at h6; omega)
                go_enter Tryz.func155, Tryz.ntmps155
                go_wp2_with fail
                go_loopw [5] (fun j wr => ∃ q : Nat, q ≤ is.length ∧ j = .int .i64 q ∧ Hid (is.take q = is'.take q) ∧ Hid (SM w (lcells ⟨k, n, t, ((r, i), s), x, is, ts⟩ ia ic ta tc) (lcells ⟨k', n', t', ((r', i'), s'), x', is', ts'⟩ ja jc ua uc) wr)) (fun j _ => is.length - (intOf j).toNat)
                case atStart => exact ⟨0, Nat.zero_le _, rfl, Lib.hid (by simp), Lib.hid (SM.of (Below.refl _ _))⟩
                case round =>
                  clear h0 h1 h2 h3 h4 h5 h6 g0 g1 g2 g4 g5 g6
                  obtain ⟨q, hq, rfl, hle, hE⟩ := hrel
                  have E := Lib.hid hE.out
                  have d0 := cells_at E.out.g
                  have d1 := cells_at E.out.h
                  simp only [lcells] at d0 d1
                  clear hE
                  by_cases hlt : q < is.length
                  · obtain ⟨⟨yt, ⟨⟨yr, yi⟩, ys⟩, yx⟩, hx⟩ : ∃ x, is[q]? = some x := ⟨is[q], by simp [hlt]⟩
                    obtain ⟨⟨zt, ⟨⟨zr, zi⟩, zs⟩, zx⟩, hy⟩ : ∃ y, is'[q]? = some y := ⟨is'[q]'(by have := E5.out; omega), List.getElem?_eq_getElem _⟩
                    obtain ⟨ad, had, ⟨c0, c1, c2, c3, c4⟩, hl0⟩ := (Hl.out.its.below E.out.bel).at hx
                    obtain ⟨ae, hae, ⟨e0, e1, e2, e3, e4⟩, hl1⟩ := (Hm.out.its.below E.out.bel).at hy
                    subst had hae
                    dsimp only at c0 c1 c2 c3 c4 e0 e1 e2 e3 e4
                    have Hx := Lib.hid hx
                    have Hy := Lib.hid hy
                    have hlm : q < is'.length := by have := E5.out; omega
                    clear hx hy
                    cases hq' : eqI ⟨yt, ((yr, yi), ys), yx⟩ ⟨zt, ((zr, zi), zs), zx⟩ with
                    | true =>
                      go_wp2_with fail
                      refine region_text [([0, 1, 2, 3, 4, 5, 6, 7, 8, 9, 10], false)] mixed (by kernel_rfl) ?_
                      simp only [wpSegs, List.map_cons, List.map_nil, List.getD_cons_succ, List.getD_cons_zero]
                      go_wp2_with fail
                      refine And.intro (by kernel_rfl) ?_
                      go_wp2_with fail
                      go_roundw
                      case rel => exact ⟨q + 1, by omega, by go_num, Lib.hid (by rw [take_snoc' Hx.out, take_snoc' Hy.out, hle.out, (eqI_iff _ _).1 hq']), Lib.hid (E.out.step (Below.refl _ _).drew)⟩
                      case measure => simp [intOf]; omega
                    | false =>
                      have He := Lib.hid (show ¬ is = is' by intro e; subst e; have := Hx.out.symm.trans Hy.out; rw [Option.some.injEq, ← eqI_iff, hq'] at this; cases this)
                      go_wp2_with fail
                      refine region_text [([0, 1, 2, 3, 4, 5, 6, 7, 8, 9, 10], false)] mixed (by kernel_rfl) ?_
                      simp only [wpSegs, List.map_cons, List.map_nil, List.getD_cons_succ, List.getD_cons_zero]
                      go_wp2_with fail
                      refine And.intro (by kernel_rfl) ?_
                      go_wp2_with fail
                      go_ret
                      exact ⟨false, rfl, ⟨fun h => (by cases h), fun h => absurd (show is = is' from congrArg Lf.items h) He.out⟩, E.out.bel.drew⟩
                  · have EI := Lib.hid (show is = is' from take_ext q E5.out (by omega) hle.out)
                    go_wp2_with fail
                    go_loopw [6] (fun j wr => ∃ q : Nat, q ≤ ts.length ∧ j = .int .i64 q ∧ Hid (ts.take q = ts'.take q) ∧ Hid (SM w (lcells ⟨k, n, t, ((r, i), s), x, is, ts⟩ ia ic ta tc) (lcells ⟨k', n', t', ((r', i'), s'), x', is', ts'⟩ ja jc ua uc) wr)) (fun j _ => ts.length - (intOf j).toNat)
                    case atStart => exact ⟨0, Nat.zero_le _, rfl, Lib.hid (by simp), E⟩
                    case round =>
                      clear E d0 d1 hlt hq hle
                      obtain ⟨q, hq, rfl, hle, hE⟩ := hrel
                      have E := Lib.hid hE.out
                      have d0 := cells_at E.out.g
                      have d1 := cells_at E.out.h
                      simp only [lcells] at d0 d1
                      clear hE
                      by_cases hlt : q < ts.length
                      · obtain ⟨⟨⟨yr, yi⟩, ys⟩, hx⟩ : ∃ x, ts[q]? = some x := ⟨ts[q], by simp [hlt]⟩
                        obtain ⟨⟨⟨zr, zi⟩, zs⟩, hy⟩ : ∃ y, ts'[q]? = some y := ⟨ts'[q]'(by have := E6.out; omega), List.getElem?_eq_getElem _⟩
                        obtain ⟨ad, had, c0, c1, c2, hl0⟩ := (Hl.out.tms.below E.out.bel).at hx
                        obtain ⟨ae, hae, e0, e1, e2, hl1⟩ := (Hm.out.tms.below E.out.bel).at hy
                        subst had hae
                        dsimp only at c0 c1 c2 e0 e1 e2
                        have Hx := Lib.hid hx
                        have Hy := Lib.hid hy
                        have hlm : q < ts'.length := by have := E6.out; omega
                        clear hx hy
                        cases hq' : eqD ((yr, yi), ys) ((zr, zi), zs) with
                        | true =>
                          go_wp2_with fail
                          refine region_text [([0, 1, 2, 3, 4, 5, 6, 7, 8, 9, 10], false)] mixed (by kernel_rfl) ?_
                          simp only [wpSegs, List.map_cons, List.map_nil, List.getD_cons_succ, List.getD_cons_zero]
                          go_wp2_with fail
                          refine And.intro (by kernel_rfl) ?_
                          go_wp2_with fail
                          go_roundw
                          case rel => exact ⟨q + 1, by omega, by go_num, Lib.hid (by rw [take_snoc' Hx.out, take_snoc' Hy.out, hle.out, (eqD_iff _ _).1 hq']), Lib.hid (E.out.step (Below.refl _ _).drew)⟩
                          case measure => simp [intOf]; omega
                        | false =>
                          have He := Lib.hid (show ¬ ts = ts' by intro e; subst e; have := Hx.out.symm.trans Hy.out; rw [Option.some.injEq, ← eqD_iff, hq'] at this; cases this)
                          go_wp2_with fail
                          refine region_text [([0, 1, 2, 3, 4, 5, 6, 7, 8, 9, 10], false)] mixed (by kernel_rfl) ?_
                          simp only [wpSegs, List.map_cons, List.map_nil, List.getD_cons_succ, List.getD_cons_zero]
                          go_wp2_with fail
                          refine And.intro (by kernel_rfl) ?_
                          go_wp2_with fail
                          go_ret
                          exact ⟨false, rfl, ⟨fun h => (by cases h), fun h => absurd (show ts = ts' from congrArg Lf.tombs h) He.out⟩, E.out.bel.drew⟩
                      · have ET := Lib.hid (show ts = ts' from take_ext q E6.out (by omega) hle.out)
                        go_wp2_with fail
                        go_ret
                        exact ⟨true, rfl, true_iff' (Lf.ext' E0.out E1.out E2.out E3.out E4.out EI.out ET.out), E.out.bel⟩
set_option maxRecDepth 100000 in
set_option maxHeartbeats 16000000 in
theorem sameTr_any (n : Nat) : ∀ (m m' : Nat) (a a' : Option Addr) (c c' : Nat) (T U : List Nd) (w : World), TrRd w m a c T → TrRd w m' a' c' U → BdA 1100000 n T → sameT n T U →
    Calls Tryz.prog 112 #[.slice a T.length c, .slice a' U.length c'] w fun e w' => e = .returned (.bool true) ∧ Below w.heap.size w w' := by
  induction n with
  | zero =>
    intro m m' a a' c c' T U w hT hU hB hs
    obtain ⟨rfl, rfl⟩ := hs
    clear hT hU hB
    go_enter Tryz.func112, Tryz.ntmps112
    go_wp2_with fail
    refine wp_loop_rounds 1 ?_
    rw [rounds_succ]
    go_wp2_with fail
    go_ret
    exact ⟨rfl, Below.refl _ _⟩
  | succ n ih =>
    intro m m' a a' c c' T U w hT hU hB hs
    have HT := Lib.hid hT
    have HU := Lib.hid hU
    have HBd := Lib.hid hB
    have Hs := Lib.hid hs
    have hcap := hT.sl.2.2.1
    have hlen := hT.sl.2.1
    have hll := hs.1
    rw [← hll]
    have Hll := Lib.hid hll
    unfold maxLen at hcap
    clear hT hU hB hs hll
    go_enter Tryz.func112, Tryz.ntmps112
    go_wp2_with fail
    go_loopw [5] (fun j wr => ∃ q : Nat, q ≤ T.length ∧ j = .int .i64 q ∧ Hid (Below w.heap.size w wr)) (fun j _ => T.length - (intOf j).toNat)
    case atStart => exact ⟨0, Nat.zero_le _, rfl, Lib.hid (Below.refl _ _)⟩
    case round =>
      obtain ⟨q, hq, rfl, B⟩ := hrel
      by_cases hlt : q < T.length
      · obtain ⟨x, hx⟩ : ∃ x, T[q]? = some x := ⟨T[q], by simp [hlt]⟩
        obtain ⟨y, hy⟩ : ∃ y, U[q]? = some y := ⟨U[q]'(by rw [← Hll.out]; exact hlt), by simp⟩
        cases m with
        | zero => exact absurd HT.out.1 (by intro e; rw [e] at hlt; cases hlt)
        | succ m =>
        cases m' with
        | zero => exact absurd HU.out.1 (by intro e; rw [e] at hy; cases hy)
        | succ m' =>
        obtain ⟨hn, hls, hks⟩ := Hs.out.2 q x y hx hy
        obtain ⟨HLx, HKx⟩ := HT.out.2 x (List.mem_of_getElem? hx)
        obtain ⟨HLy, HKy⟩ := HU.out.2 y (List.mem_of_getElem? hy)
        obtain ⟨b1, b2, b3⟩ := HBd.out.2 x (List.mem_of_getElem? hx)
        have HB3 := Lib.hid b3
        have HB2 := Lib.hid b2
        have hlsl : y.ls.length = x.ls.length := by have h1 := congrArg List.length hls; simpa using h1.symm
        have HLS := Lib.hid hls
        have HKS := Lib.hid hks
        have HX1 := Lib.hid HLx
        have HX2 := Lib.hid HKx
        have HY1 := Lib.hid HLy
        have HY2 := Lib.hid HKy
        have HXX : Hid (∀ W, Below w.heap.size w W → ∃ ad, a = some ad ∧ NdAt W (ad.add (q * 3)) x ∧ ad.block < W.heap.size) := Lib.hid (fun W hW => nds_at (HT.out.below hW).sl hx)
        have HYY : Hid (∀ W, Below w.heap.size w W → ∃ ad, a' = some ad ∧ NdAt W (ad.add (q * 3)) y ∧ ad.block < W.heap.size) := Lib.hid (fun W hW => nds_at (HU.out.below hW).sl hy)
        have BD := Lib.hid (show Below w.heap.size w wr.drew from B.out.trans (((Below.refl wr.heap.size wr).drew).mono B.out.size))
        obtain ⟨ad, had, ⟨c0, c1, c2⟩, hlb⟩ := HXX.out wr B.out
        obtain ⟨ae, hae, ⟨e0, e1, e2⟩, hlb2⟩ := HYY.out wr B.out
        rw [← hn] at e0
        rw [hlsl] at e1
        subst had
        subst hae
        have Hlsl := Lib.hid hlsl
        clear hx hy hn hls hks HLx HKx HLy HKy b2 b3 hlsl
        go_wp2_with fail
        refine region_text [([0, 1, 2, 3, 4, 5, 6, 7, 8, 9, 10, 11, 12, 13, 14, 15, 16, 17, 18, 19, 20, 21, 22, 23, 24, 25, 26, 27, 28, 29, 30, 31, 32, 33, 34, 35, 36, 37, 38, 39], false)] mixed (by kernel_rfl) ?_
        simp only [wpSegs, List.map_cons, List.map_nil, List.getD_cons_succ, List.getD_cons_zero]
        go_wp2_with fail
        refine (ih m m' x.ba y.ba x.bc y.bc x.kids y.kids _ (HX2.out.below BD.out) (HY2.out.below BD.out) HB3.out HKS.out).mono ?_
        rintro e w2 ⟨rfl, hb⟩
        have B2 := Lib.hid (below2 BD.out hb BD.out.size)
        clear hb c0 c1 c2 e0 e1 e2 hlb hlb2
        go_wp2_with fail
        refine And.intro (by kernel_rfl) ?_
        go_wp2_with fail
        generalize hxl : x.ls.length = xl
        have hxl9 : xl ≤ 2000000 := by omega
        go_loopw [6] (fun j wx => ∃ r : Nat, r ≤ xl ∧ j = .int .i64 r ∧ Hid (Below w.heap.size w wx)) (fun j _ => xl - (intOf j).toNat)
        case atStart => exact ⟨0, Nat.zero_le _, rfl, B2⟩
        case round =>
          obtain ⟨r, hr, rfl, G⟩ := hrel
          clear B2
          obtain ⟨ad1, had, ⟨c0, c1, c2⟩, hlb⟩ := HXX.out wr G.out
          obtain ⟨ae1, hae, ⟨e0, e1, e2⟩, hlb2⟩ := HYY.out wr G.out
          obtain rfl := Option.some.inj had
          obtain rfl := Option.some.inj hae
          rw [Hlsl.out, hxl] at e1
          rw [hxl] at c1
          clear had hae c0 c2 e0 e2
          by_cases hrl : r < xl
          · obtain ⟨u, hu⟩ : ∃ u, x.ls[r]? = some u := ⟨x.ls[r]'(by omega), by simp⟩
            obtain ⟨v, hv⟩ : ∃ v, y.ls[r]? = some v := ⟨y.ls[r]'(by rw [Hlsl.out]; omega), by simp⟩
            have huv : u.l = v.l := by
              have h1 : (x.ls.map (·.l))[r]? = some u.l := by rw [List.getElem?_map, hu]; rfl
              have h2 : (y.ls.map (·.l))[r]? = some v.l := by rw [List.getElem?_map, hv]; rfl
              rw [HLS.out, h2] at h1
              exact (Option.some.inj h1).symm
            have Huv := Lib.hid huv
            obtain ⟨i1, i2⟩ := HB2.out u (List.mem_of_getElem? hu)
            have LU := (HX1.out.below G.out).2 u (List.mem_of_getElem? hu)
            have LV := (HY1.out.below G.out).2 v (List.mem_of_getElem? hv)
            have HLU := Lib.hid (show LfAt wr u.l u.ia u.ic u.ta u.tc from ⟨LU.1.its, LU.1.tms, i1, i2⟩)
            have HLV := Lib.hid (show LfAt wr v.l v.ia v.ic v.ta v.tc from ⟨LV.1.its, LV.1.tms, by rw [← huv]; exact i1, by rw [← huv]; exact i2⟩)
            obtain ⟨al, hal, ⟨f0, f1, f2, f3, f4, f5, f6, f7, f8⟩, hlb3⟩ := (HX1.out.below G.out).at hu
            obtain ⟨am, ham, ⟨g0, g1, g2, g3, g4, g5, g6, g7, g8⟩, hlb4⟩ := (HY1.out.below G.out).at hv
            rw [hal] at c1
            rw [ham] at e1
            have GD := Lib.hid (show Below w.heap.size w wr.drew from G.out.trans (((Below.refl wr.heap.size wr).drew).mono G.out.size))
            clear hu hv huv LU LV i1 i2 hxl
            go_wp2_with fail
            refine region_text [([0, 1, 2, 3, 4, 5, 6, 7, 8, 9, 10, 11, 12, 13, 14, 15, 16, 17], false)] mixed (by kernel_rfl) ?_
            simp only [wpSegs, List.map_cons, List.map_nil, List.getD_cons_succ, List.getD_cons_zero]
            go_wp2_with fail
            refine (rsameL_any u.l v.l u.ia u.ta v.ia v.ta u.ic u.tc v.ic v.tc _ (HLU.out.below (Below.refl _ _).drew) (HLV.out.below (Below.refl _ _).drew)).mono ?_
            rintro e w3 ⟨z, rfl, hz, hb⟩
            obtain rfl : z = true := hz.2 Huv.out
            have G3 := Lib.hid (below2 GD.out hb GD.out.size)
            clear hb hz c1 e1 f0 f1 f2 f3 f4 f5 f6 f7 f8 g0 g1 g2 g3 g4 g5 g6 g7 g8 hal ham
            go_wp2_with fail
            refine And.intro (by kernel_rfl) ?_
            go_wp2_with fail
            go_roundw
            case rel => exact ⟨r + 1, by omega, by go_num, G3⟩
            case measure => simp [intOf]; omega
          · go_wp2_with fail
            go_roundw
            case rel => exact ⟨q + 1, by omega, by go_num, G⟩
            case measure => simp [intOf]; omega
      · go_wp2_with fail
        go_ret
        exact ⟨rfl, B.out⟩
set_option maxRecDepth 100000 in
set_option maxHeartbeats 8000000 in
theorem sameBase_any (u v : Bw) (m m' : Nat) (w : World) (hu : BwAt w m u) (hv : BwAt w m' v) (hs : SameBw u.b v.b) (hB : BdA 1100000 3 u.b.tr) (hf : u.b.f.length ≤ 1100000) (ht : u.b.tips.length ≤ 1100000) :
    Calls Tryz.prog 52 #[.agg (bwcells u), .agg (bwcells v)] w fun e w' => e = .returned (.bool true) ∧ Below w.heap.size w w' := by
  obtain ⟨⟨num, F, tips, t, tr⟩, fa, fc, ta, tc, ra, rc⟩ := u
  obtain ⟨⟨num', F', tips', t', tr'⟩, fa', fc', ta', tc', ra', rc'⟩ := v
  have HU := Lib.hid hu
  have HV := Lib.hid hv
  have HBd := Lib.hid hB
  have HT := Lib.hid hs.tr
  obtain rfl : num' = num := hs.num
  obtain rfl : F' = F := hs.f
  obtain rfl : tips' = tips := hs.tips
  obtain rfl : t' = t := hs.t
  dsimp only at hf ht
  have E : Hid (Below w.heap.size w ((w.alloc (.cells (basecells num' fa F'.length fc ta tips'.length tc t' ra tr.length rc) 32)).alloc (.cells (basecells num' fa' F'.length fc' ta' tips'.length tc' t' ra' tr'.length rc') 32)) ∧ ((w.alloc (.cells (basecells num' fa F'.length fc ta tips'.length tc t' ra tr.length rc) 32)).alloc (.cells (basecells num' fa' F'.length fc' ta' tips'.length tc' t' ra' tr'.length rc') 32)).heap[w.heap.size]? = some (.cells (basecells num' fa F'.length fc ta tips'.length tc t' ra tr.length rc) 32 (0, 0)) ∧ ((w.alloc (.cells (basecells num' fa F'.length fc ta tips'.length tc t' ra tr.length rc) 32)).alloc (.cells (basecells num' fa' F'.length fc' ta' tips'.length tc' t' ra' tr'.length rc') 32)).heap[w.heap.size + 1]? = some (.cells (basecells num' fa' F'.length fc' ta' tips'.length tc' t' ra' tr'.length rc') 32 (0, 0))) :=
    Lib.hid ⟨((Below.refl _ _).alloc (Nat.le_refl _) _).alloc (by simp) _, (heap_old _ _ (by simp)).trans (heap_new _ _), heap_new2 _ _ _⟩
  clear hu hv hs hB
  simp only [bwcells]
  go_enter Tryz.func52, Tryz.ntmps52
  go_upto_region 1 with (fail)
  generalize ((w.alloc (.cells (basecells num' fa F'.length fc ta tips'.length tc t' ra tr.length rc) 32)).alloc (.cells (basecells num' fa' F'.length fc' ta' tips'.length tc' t' ra' tr'.length rc') 32)) = wa at E ⊢
  have d0 := cells_at E.out.2.1
  have d1 := cells_at E.out.2.2
  have z0 := heap_lt E.out.2.1
  have z1 := heap_lt E.out.2.2
  simp only [basecells] at d0 d1
  go_wp2_with fail
  refine (same_any fa fa' fc fc' F' F' _ (HU.out.f.below E.out.1) (HV.out.f.below E.out.1) hf hf).mono ?_
  rintro e w1 ⟨rfl, hb1⟩
  have B1 := Lib.hid (below2 E.out.1 hb1 E.out.1.size)
  have F1 := Lib.hid ((hb1.block _ z0).trans E.out.2.1)
  have G1 := Lib.hid ((hb1.block _ z1).trans E.out.2.2)
  clear hb1 E d0 d1 z0 z1
  have d0 := cells_at F1.out
  have d1 := cells_at G1.out
  have z0 := heap_lt F1.out
  have z1 := heap_lt G1.out
  simp only [basecells] at d0 d1
  have x2 : decide (F' = F') = true := decide_eq_true rfl
  go_wp2_with fail
  refine (same_any ta ta' tc tc' tips' tips' _ (HU.out.tips.below B1.out) (HV.out.tips.below B1.out) ht ht).mono ?_
  rintro e w2 ⟨rfl, hb1⟩
  have B2 := Lib.hid (below2 B1.out hb1 B1.out.size)
  have F2 := Lib.hid ((hb1.block _ z0).trans F1.out)
  have G2 := Lib.hid ((hb1.block _ z1).trans G1.out)
  clear hb1 d0 d1 z0 z1 B1 F1 G1
  have d0 := cells_at F2.out
  have d1 := cells_at G2.out
  have z0 := heap_lt F2.out
  have z1 := heap_lt G2.out
  simp only [basecells] at d0 d1
  have x3 : decide (tips' = tips') = true := decide_eq_true rfl
  go_wp2_with fail
  refine (sameTr_any 3 m m' ra ra' rc rc' tr tr' _ (HU.out.tr.below B2.out) (HV.out.tr.below B2.out) HBd.out HT.out).mono ?_
  rintro e w3 ⟨rfl, hb1⟩
  have B3 := Lib.hid (below2 B2.out hb1 B2.out.size)
  clear hb1
  go_wp2_with fail
  go_ret
  exact ⟨rfl, B3.out⟩
theorem sameT.trans : ∀ {n : Nat} {T U V : List Nd}, sameT n T U → sameT n U V → sameT n T V
  | 0, _, _, _, h, k => ⟨h.1, k.2⟩
  | n + 1, T, U, V, h, k => ⟨h.1.trans k.1, fun i x z hx hz => by
      have hi := (List.getElem?_eq_some_iff.1 hx).1
      have hy : U[i]? = some (U[i]'(by rw [← h.1]; exact hi)) := List.getElem?_eq_getElem _
      obtain ⟨a1, a2, a3⟩ := h.2 i x _ hx hy
      obtain ⟨b1, b2, b3⟩ := k.2 i _ z hy hz
      exact ⟨a1.trans b1, a2.trans b2, sameT.trans a3 b3⟩⟩
theorem SameBw.trans {u v x : Bs} (h : SameBw u v) (k : SameBw v x) : SameBw u x := ⟨k.num.trans h.num, k.f.trans h.f, k.tips.trans h.tips, k.t.trans h.t, h.tr.trans k.tr⟩
theorem HistP.perm {F : List Dt} {L M : List Cm} {vv : List Dt} (h : HistP F L vv) (hp : L.Perm M) : HistP F M vv := by
  have e := findC_perm hp h.nodup
  refine ⟨h.okF, h.canon, (hp.map _).nodup_iff.1 h.nodup, fun c hc => h.may c (hp.mem_iff.2 hc), fun c hc => h.out c (hp.mem_iff.2 hc), h.base, fun c hc => h.up c (hp.mem_iff.2 hc), ?_, fun c hc p hpp => ?_, fun c hc y hy => h.anc c (hp.mem_iff.2 hc) y (hp.mem_iff.2 hy)⟩
  · rw [← e]; exact h.low
  · rcases h.par c (hp.mem_iff.2 hc) p hpp with h1 | ⟨y, hy, h1⟩
    · exact .inl h1
    · exact .inr ⟨y, hp.mem_iff.1 hy, h1⟩
/-- who is ahead stands ahead -/
theorem sorted_before {S : List Cm} (hs : SortedC S) {q : Nat} {c y : Cm} (hc : S[q]? = some c) (hy : y ∈ S) (hlt : ltC y c) : y ∈ S.take q := by
  obtain ⟨k, hk⟩ := List.getElem?_of_mem hy
  by_cases hkq : k < q
  · refine List.mem_of_getElem? (i := k) ?_
    rw [List.getElem?_take, if_pos hkq]
    exact hk
  · exfalso
    by_cases e : k = q
    · subst e
      rw [hc] at hk; cases hk
      exact ltC_irrefl _ hlt
    · obtain ⟨h1, rfl⟩ := List.getElem?_eq_some_iff.1 hk
      obtain ⟨h2, rfl⟩ := List.getElem?_eq_some_iff.1 hc
      have h3 := List.pairwise_iff_getElem.1 hs q k h2 h1 (by omega)
      exact ltC_irrefl _ (ltC_trans hlt h3)
/-- the next one in the document's order can be inserted -/
theorem ins_prefix {F : List Dt} {S : List Cm} {vv : List Dt} (hi : HistI F S) (h : HistP F S vv) (hs : SortedC S) {q : Nat} {c : Cm} (hc : S[q]? = some c) (hq : q < 200) : insE F (findC (S.take q)) q c = 0 := by
  have hcS := List.mem_of_getElem? hc
  have hnt : ((S.take q).map (·.d)).Nodup := h.nodup.sublist ((List.take_sublist _ _).map _)
  have hfn : findC (S.take q) c.d = none := by
    rw [findC_none]
    intro y hy e
    have h1 := h.eq_of (List.mem_of_mem_take hy) hcS e
    subst h1
    obtain ⟨k, hk⟩ := List.getElem?_of_mem hy
    rw [List.getElem?_take] at hk
    by_cases hkq : k < q
    · rw [if_pos hkq] at hk
      obtain ⟨h1, e1⟩ := List.getElem?_eq_some_iff.1 hk
      obtain ⟨h2, e2⟩ := List.getElem?_eq_some_iff.1 hc
      have h3 := List.pairwise_iff_getElem.1 hs k q h1 h2 hkq
      rw [e1, e2] at h3
      exact ltC_irrefl _ h3
    · rw [if_neg hkq] at hk; cases hk
  have he : ∀ p ∈ c.ps, findC S p = findC (S.take q) p := fun p hp => by
    rcases h.ahead (List.Perm.refl S) hs hc hp with ⟨h1, h2⟩ | ⟨y, hy, h1, h2, _⟩
    · rw [h2, findC_none]
      intro y hy e
      have h3 := h.out y hy
      rw [e, h1] at h3; cases h3
    · rw [h2, ← h1]
      exact findC_mem h.nodup (List.mem_of_mem_take hy)
  have ho : 1 < c.d.2 → hasG F (findC S) (aheadD c.d) = true → hasG F (findC (S.take q)) (aheadD c.d) = true := fun h1 h2 => by
    rcases hasG_cases h2 with ⟨y, hy, e, _⟩ | h3
    · have hym := (may_iff _).1 (h.may y hy).dot
      have hv : hasV c.vv y.d = true := by
        rw [hasV_iff]
        refine ⟨(h.may y hy).dot, ?_⟩
        rw [e]
        show c.d.2 - 1 ≤ getN c.vv c.d.1
        rw [(h.may c hcS).own]; omega
      have hne : y.d ≠ c.d := by
        rw [e]
        intro e2
        have : (aheadD c.d).2 = c.d.2 := by rw [e2]
        have h4 : c.d.2 - 1 = c.d.2 := this
        omega
      have h5 := (h.anc c hcS y hy hne hv).2
      have h6 := sorted_before hs hc hy ((ltC_b _ _).2 ((ltCb_or _ _).2 (.inl h5)))
      unfold hasG
      rw [← e, findC_mem hnt h6]; rfl
    · unfold hasG
      rw [h3]; simp
  have hI := (hi c hcS).congr he ho
  refine insE_ok (h.may c hcS) ?_ hI.gap ⟨hI.low, hI.fol⟩ hq
  unfold hasG
  rw [hfn, h.out c hcS]; rfl
end Go.Proofs.YtbeblbgbngplhaaGreat
