/- levels.of: the contract. | The page's example of levels, plainly: four commits. No program in sight. | Rows of levels, plainly: what they are when all dots are laid and each row is sorted. | levels.Levels: the contract. | levels.beside, Pairs: contracts. | levels of a graph that is not there, or was not made. -/
import Derived.Test.YthdmoplclllhjaaGreatWitA
import Derived.Test.YthdmoplclllhjaaGreatGraV
import Derived.Test.YthdmoplclllhjaaGreatGraQ
/- LevB -/
/- LevB -/
namespace Go.Proofs.YthdmoplclllhjaaGreat
open Go.RowKit
set_option linter.unusedVariables false
set_option linter.unusedSimpArgs false

/-- a graph whose commits are told -/
structure Coms (w : World) (g : Value) (L : List Cm) : Prop where
  coms : ∀ W, Below w.heap.size w W → Calls Tryz.prog 20 #[g] W (ComsTo W L)
  nodup : (L.map (·.d)).Nodup
  may : ∀ c ∈ L, CmP c
  max : L.length ≤ 200
theorem Coms.of {w : World} {pg mb : Nat} {w0 : World} {m : Nat} {b : Bw} {L : List Cw} {va : Option Addr} {vc : Nat} {vv : List Dt} (h : GrAt w pg mb w0 m b L va vc vv) : Coms w (.pointer (some ⟨pg, 0, none⟩)) (cms L) :=
  ⟨fun W hW => commits_G pg mb w0 m b L va vc vv W (h.below hW), h.nodup, fun c hc => (by obtain ⟨v, hv, rfl⟩ := List.mem_map.1 hc; exact h.may v hv), by unfold cms; rw [List.length_map]; exact h.max⟩
/-- levels as a map's elements -/
def lvV (S : List Cm) : Dt → Option Value := fun d => (lvF S d).map fun n => .int .i64 (n : Nat)
/-- the levels of a graph's commits by dots -/
def OfLTo (w : World) (L : List Cm) (e : Ending) (w' : World) : Prop :=
  ∃ (mb : Nat) (S : List Cm), e = .returned (.map (some mb)) ∧ S.Perm L ∧ SortedC S ∧ (∀ c ∈ S, okC c) ∧ w.heap.size ≤ mb ∧ MapN w' mb S.length (lvV S) ∧ Below w.heap.size w w'
/-- while levels are laid -/
structure LvO (w wr : World) (mb : Nat) (a : Option Addr) (c : Nat) (ss : List Cw) (q : Nat) : Prop where
  map : MapN wr mb q (lvV (cms (ss.take q)))
  row : OwnC wr w.heap.size a c ss
  each : ∀ v ∈ ss, CwOwn wr w.heap.size v
  lo : w.heap.size ≤ mb
  bel : Below w.heap.size w wr
theorem LvO.below {w wr w2 : World} {mb : Nat} {a : Option Addr} {c : Nat} {ss : List Cw} {q : Nat} (h : LvO w wr mb a c ss q) (hb : Below wr.heap.size wr w2) : LvO w w2 mb a c ss q :=
  ⟨h.map.below hb, h.row.below hb, fun v hv => (h.each v hv).below hb, h.lo, below2 h.bel hb h.bel.size⟩
theorem cms_take_snoc {ss : List Cw} {q : Nat} {v : Cw} (h : ss[q]? = some v) : cms (ss.take (q + 1)) = cms (ss.take q) ++ [v.c] := by rw [take_snoc' h]; simp [cms]
theorem lvV_snoc (S : List Cm) (c : Cm) (d : Dt) : lvV (S ++ [c]) d = if d = c.d then some (.int .i64 ((lvMax (lvF S) c.ps + 1 : Nat) : Int)) else lvV S d := by
  unfold lvV
  rw [lvF_snoc]
  unfold lvStep
  by_cases e : d = c.d
  · simp [e]
  · simp [e]
theorem LvO.step {w wr w2 : World} {mb : Nat} {a : Option Addr} {c : Nat} {ss : List Cw} {q : Nat} {v : Cw} (h : LvO w wr mb a c ss q) (hv : ss[q]? = some v)
    (hm : MapN w2 mb (q + 1) (fun d => if d = v.c.d then some (.int .i64 ((lvMax (lvF (cms (ss.take q))) v.c.ps + 1 : Nat) : Int)) else lvV (cms (ss.take q)) d)) (hc : Chg [mb] wr w2) : LvO w w2 mb a c ss (q + 1) := by
  have hn := noRow_map h.map
  refine ⟨hm.congr fun d _ => by rw [cms_take_snoc hv, lvV_snoc], h.row.chg hc (fun k hk hm => ?_), fun v hv => (h.each v hv).chg hc hn, h.lo, h.bel.trans (hc.below h.bel.size (by simpa using h.lo))⟩
  obtain ⟨C, fr, hh⟩ := ob_row h.row k hk
  obtain ⟨es, clock, h2⟩ := h.map.block
  simp at hm
  subst hm
  rw [hh] at h2; cases h2
theorem OwnC.ptr {w : World} {base : Nat} {a : Option Addr} {c : Nat} {M : List Cw} (h : OwnC w base a c M) (h0 : 0 < M.length) : ∃ g, a = some ⟨g, 0, none⟩ := by
  rcases h.2 with ⟨h1, h2⟩ | ⟨g, cap, cur, h1, _⟩
  · simp at h1; omega
  · simp at h1; exact ⟨g, h1.1⟩
theorem zeroInt (w : World) : (zeroValue 3).run Tryz.prog w = .ok (.int .i64 0) w := by kernel_rfl
theorem lv_look {w W : World} {mb n : Nat} {S : List Cm} (h : MapN w mb n (lvV S)) (hb : Below w.heap.size w W) {r i s : Int} (hd : okD ((r, i), s)) :
    (Instr.lookup 63 (.map (some mb)) (.agg #[.int .u8 r, .int .u32 i, .int .u64 s]) false).run Tryz.prog W = .ok (.int .i64 (((lvF S ((r, i), s)).getD 0 : Nat) : Int)) W := by
  rw [(h.below hb).look Tryz.underlying63 zeroInt hd, lvV]
  cases lvF S ((r, i), s) <;> rfl
theorem fresh_at {ss : List Cw} (hn : ((cms ss).map (·.d)).Nodup) {q : Nat} {v : Cw} (hv : ss[q]? = some v) : lvV (cms (ss.take q)) v.c.d = none := by
  unfold lvV
  rw [Option.map_eq_none_iff, lvF_none]
  intro c hc e
  obtain ⟨u, hu, rfl⟩ := List.mem_map.1 hc
  obtain ⟨i, hi⟩ := List.getElem?_of_mem hu
  rw [List.getElem?_take] at hi
  split at hi
  · rename_i hlt
    obtain ⟨h1, rfl⟩ := List.getElem?_eq_some_iff.1 hi
    obtain ⟨h2, rfl⟩ := List.getElem?_eq_some_iff.1 hv
    unfold cms at hn
    rw [List.map_map] at hn
    have h3 := List.pairwise_iff_getElem.1 hn i q (by simpa using h1) (by simpa using h2) hlt
    simp at h3
    exact h3 e
  · cases hi
set_option maxRecDepth 100000 in
set_option maxHeartbeats 8000000 in
theorem levOf_any (g : Value) (L : List Cm) (w : World) (h : Coms w g L) : Calls Tryz.prog 121 #[g] w (OfLTo w L) := by
  have hmm := @run_makeMap Tryz.prog
  have H := Lib.hid h
  clear h
  go_enter Tryz.func121, Tryz.ntmps121
  go_wp2_with fail
  refine (H.out.coms _ ((Below.refl _ _).alloc (Nat.le_refl _) _)).mono ?_
  rintro e w1 ⟨a, c, ss, rfl, hp, hs, ho, hc, hb⟩
  have hl : ss.length ≤ 200 := by have := hp.length_eq; unfold cms at this; rw [List.length_map] at this; have := H.out.max; omega
  have hn : ((cms ss).map (·.d)).Nodup := (hp.map _).nodup_iff.2 H.out.nodup
  have hE : LvO w w1 w.heap.size a c ss 0 := by
    obtain ⟨hx, hz, hB⟩ := new1 hb
    exact ⟨(MapN.made w).below hb, owns_base ho (by simp), fun v hv => (hc v hv).base (by simp), Nat.le_refl _, hB⟩
  have HE := Lib.hid hE
  have HP := Lib.hid hp
  have HS := Lib.hid hs
  have HN := Lib.hid hn
  clear hp hs ho hc hb hE hn
  go_wp2_with fail
  go_loopw [13] (fun j wr => ∃ q : Nat, q ≤ ss.length ∧ j = .int .i64 q ∧ LvO w wr w.heap.size a c ss q) (fun j _ => ss.length - (intOf j).toNat)
  case atStart => exact ⟨0, Nat.zero_le _, rfl, HE.out⟩
  case round =>
    obtain ⟨q, hq, rfl, hE⟩ := hrel
    have E := Lib.hid hE
    clear hE HE
    by_cases hlt : q < ss.length
    · obtain ⟨g, rfl⟩ := E.out.row.ptr (by omega)
      obtain ⟨v, hv⟩ : ∃ v, ss[q]? = some v := ⟨ss[q], by simp [hlt]⟩
      have hmem := List.mem_of_getElem? hv
      have HR := Lib.hid (E.out.row.range hv)
      have HA := Lib.hid (E.out.each v hmem).at_
      have HM := Lib.hid (H.out.may v.c (HP.out.mem_iff.1 (List.mem_map.2 ⟨v, hmem, rfl⟩)))
      have HF := Lib.hid (fresh_at HN.out hv)
      have hpl : v.c.ps.length ≤ 64 := HM.out.few
      have HV := Lib.hid hv
      clear hv hmem
      obtain ⟨⟨⟨⟨r, i⟩, s⟩, ps, uu, t, ⟨k, n, x, p, ds⟩⟩, qa, qc, ua, uc, pa, pc, da, dc⟩ := v
      dsimp only at hpl
      have B0 : Hid (BoxE 46 wr (wr.alloc (.cells (ccells r i s qa ps.length qc ua uu.length uc t k pa p.length pc n x da ds.length dc) 46)) (ccells r i s qa ps.length qc ua uu.length uc t k pa p.length pc n x da ds.length dc)) := Lib.hid ⟨heap_new _ _, (Below.refl _ _).alloc (Nat.le_refl _) _⟩
      go_wp2_with (refine wpList_load_cw rfl _ rfl g (q * 11) (by first | rfl | simp [Addr.add]) ⟨⟨((r, i), s), ps, uu, t, ⟨k, n, x, p, ds⟩⟩, qa, qc, ua, uc, pa, pc, da, dc⟩ HR.out ?_; simp only [cwcells])
      go_loopw [6, 20] (fun nv j wx => ∃ (z m : Nat), z ≤ ps.length ∧ j = .int .i64 z ∧ nv = .int .i64 (m : Nat) ∧ m ≤ 200 ∧ Hid (m = lvMax (lvF (cms (ss.take q))) (ps.take z)) ∧ BoxE 46 wr wx (ccells r i s qa ps.length qc ua uu.length uc t k pa p.length pc n x da ds.length dc)) (fun _ j _ => ps.length - (intOf j).toNat)
      case atStart => exact ⟨0, 0, Nat.zero_le _, rfl, rfl, by decide, Lib.hid rfl, B0.out⟩
      case round =>
        obtain ⟨z, m, hz, rfl, rfl, hm, HMx, hB⟩ := hrel
        have B := Lib.hid hB
        have d0 := cells_at hB.blk
        simp only [ccells] at d0
        have z0 := heap_lt hB.blk
        clear hB B0
        by_cases hlt2 : z < ps.length
        · obtain ⟨⟨⟨r', i'⟩, s'⟩, hx⟩ : ∃ y, ps[z]? = some y := ⟨ps[z], by simp [hlt2]⟩
          obtain ⟨ad, had, e0, e1, e2, hl0⟩ := (HA.out.ps.below B.out.bel).at hx
          subst had
          dsimp only at e0 e1 e2
          have hd : okD ((r', i'), s') := HA.out.ok.ps _ (List.mem_of_getElem? hx)
          have hW : Below wr.heap.size wr (wr.alloc (.cells #[.int .u8 r', .int .u32 i', .int .u64 s'] 41)) := (Below.refl _ _).alloc (Nat.le_refl _) _
          have HW := Lib.hid hW
          have l1 := lv_look (E.out.map.below B.out.bel) hW hd
          obtain ⟨u, hu⟩ : ∃ u, u = (lvF (cms (ss.take q)) ((r', i'), s')).getD 0 := ⟨_, rfl⟩
          rw [← hu] at l1
          have hub : u ≤ 200 := by
            rw [hu]
            cases hh : lvF (cms (ss.take q)) ((r', i'), s') with
            | none => simp
            | some y =>
              have := (lvF_le hh).2
              have h5 : (cms (ss.take q)).length ≤ ss.length := by unfold cms; rw [List.length_map, List.length_take]; omega
              simp; omega
          have HNx := Lib.hid (show max m u = lvMax (lvF (cms (ss.take q))) (ps.take (z + 1)) by rw [take_snoc' hx, lvMax_snoc, ← HMx.out, ← hu])
          clear hx hW hu hd
          go_wp2_with fail
          go_roundw
          case rel => exact ⟨z + 1, max m u, by omega, by go_num, congrArg (Value.int .i64) (by omega), by omega, HNx, B.out.step HW.out⟩
          case measure => simp [intOf]; omega
        · have hzz : z = ps.length := by omega
          have HMy := Lib.hid (show m = lvMax (lvF (cms (ss.take q))) ps by have := HMx.out; rwa [List.take_of_length_le (l := ps) (by omega)] at this)
          obtain ⟨w9, hr9, hm9, hc9⟩ := (E.out.map.below B.out.bel).update Tryz.underlying63 (by unfold maxLen; omega) HA.out.ok.d HF.out (.int .i64 ((m : Int) + 1))
          have HM9 := Lib.hid hm9
          have HC9 := Lib.hid hc9
          clear hm9 hc9 HMx
          go_wp2_with fail
          go_roundw
          case rel =>
            refine ⟨q + 1, by omega, by go_num, (E.out.below B.out.bel).step HV.out ?_ HC9.out⟩
            have h5 := HM9.out
            have e5 : ((m : Int) + 1) = ((lvMax (lvF (cms (ss.take q))) ps + 1 : Nat) : Int) := by rw [← HMy.out]; omega
            rw [e5] at h5
            exact h5
          case measure => simp [intOf]; omega
    · have hqe : q = ss.length := by omega
      subst hqe
      have HD := Lib.hid (show MapN wr w.heap.size (cms ss).length (lvV (cms ss)) from by
        have := E.out.map
        rw [List.take_length] at this
        unfold cms at this ⊢
        rwa [List.length_map])
      go_wp2_with fail
      go_ret
      exact ⟨w.heap.size, cms ss, rfl, HP.out, HS.out, fun c hc => by obtain ⟨v, hv, rfl⟩ := List.mem_map.1 hc; exact (E.out.each v hv).ok, Nat.le_refl _, HD.out, E.out.bel⟩
end Go.Proofs.YthdmoplclllhjaaGreat

/- LevQ -/
namespace Go.Proofs.YthdmoplclllhjaaGreat
open Go.RowKit
set_option linter.unusedVariables false
set_option linter.unusedSimpArgs false

def lA : Dt := ((0, 1), 1)
def lB : Dt := ((1, 1), 1)
def lC : Dt := ((2, 1), 1)
def lD : Dt := ((3, 1), 1)
def lO : Opn := ⟨1, 0, ⟨#[]⟩, [⟨#[97]⟩], []⟩
def mA : Cm := ⟨lA, [], [lA], 1, lO⟩
def mB : Cm := ⟨lB, [lA], [lA, lB], 2, lO⟩
def mC : Cm := ⟨lC, [lA], [lA, lC], 2, lO⟩
def mD : Cm := ⟨lD, [lB, lC], [lA, lB, lC, lD], 3, lO⟩
def mL : List Cm := [mA, mB, mC, mD]
theorem lO_may : MayOpn lO := by
  refine ⟨by decide, ⟨by decide, by decide, fun s hs => ?_⟩, by decide, by decide, fun _ => ⟨by decide, by decide, by decide, rfl⟩, fun h => absurd rfl h⟩
  simp [lO] at hs
  subst hs
  refine ⟨by decide, by decide, fun j hj => ?_⟩
  have : j = 0 := by have h2 : j < 1 := hj; omega
  subst this
  left; exact ⟨by show 97 ≤ (97 : UInt8).toNat; decide, by show (97 : UInt8).toNat ≤ 122; decide⟩
theorem mA_may : CmP mA := ⟨by decide, by decide, by decide, lO_may, by decide +kernel, by decide +kernel, by decide, ⟨List.Pairwise.nil, fun x hx => by cases hx⟩, ⟨List.Pairwise.nil, fun x hx => by cases hx⟩⟩
theorem mB_may : CmP mB := by
  refine ⟨by decide, by decide, by decide, lO_may, by decide +kernel, by decide +kernel, by decide, ⟨List.pairwise_singleton _ _, fun x hx => ?_⟩, ⟨List.Pairwise.nil, fun x hx => by cases hx⟩⟩
  simp [mB] at hx
  subst hx
  exact ⟨by decide, by decide +kernel⟩
theorem mC_may : CmP mC := by
  refine ⟨by decide, by decide, by decide, lO_may, by decide +kernel, by decide +kernel, by decide, ⟨List.pairwise_singleton _ _, fun x hx => ?_⟩, ⟨List.Pairwise.nil, fun x hx => by cases hx⟩⟩
  simp [mC] at hx
  subst hx
  exact ⟨by decide, by decide +kernel⟩
theorem ltBC : ltD lB lC := by unfold ltD; decide
theorem mD_may : CmP mD := by
  refine ⟨by decide, by decide, by decide, lO_may, by decide +kernel, by decide +kernel, by decide, ⟨?_, fun x hx => ?_⟩, ⟨List.Pairwise.nil, fun x hx => by cases hx⟩⟩
  · exact List.pairwise_cons.2 ⟨fun x hx => by simp at hx; subst hx; exact ltBC, List.pairwise_singleton _ _⟩
  · simp [mD] at hx
    rcases hx with rfl | rfl
    · exact ⟨by decide, by decide +kernel⟩
    · exact ⟨by decide, by decide +kernel⟩
theorem getN_two (a b : Dt) (x : Ac) : getN [a, b] x = max (getN [a] x) (getN [b] x) := getN_append [a] [b] x
theorem getN_three (a b c : Dt) (x : Ac) : getN [a, b, c] x = max (getN [a] x) (max (getN [b] x) (getN [c] x)) := by
  rw [show [a, b, c] = [a] ++ [b, c] from rfl, getN_append, getN_two]
theorem getN_four (a b c d : Dt) (x : Ac) : getN [a, b, c, d] x = max (getN [a] x) (max (getN [b] x) (max (getN [c] x) (getN [d] x))) := by
  rw [show [a, b, c, d] = [a] ++ [b, c, d] from rfl, getN_append, getN_three]
theorem knLA (x : Ac) : knN [] (findC []) mA mA.ps x = getN mA.vv x := by
  show max (min (getN [lA] x) (getN [] x)) (getN [lA] x) = getN [lA] x
  have := (getN_bd [lA] x).1
  have h : getN [] x = 0 := rfl
  omega
theorem knLB (x : Ac) : knN [] (findC [mA]) mB mB.ps x = getN mB.vv x := by
  show max (max (min (getN [lA, lB] x) (getN [] x)) (getN [lB, lA] x)) (getN [lA] x) = getN [lA, lB] x
  have := (getN_bd [lA] x).1
  have := (getN_bd [lB] x).1
  have h : getN [] x = 0 := rfl
  rw [getN_two, getN_two]
  omega
theorem knLC (x : Ac) : knN [] (findC [mA, mB]) mC mC.ps x = getN mC.vv x := by
  show max (max (min (getN [lA, lC] x) (getN [] x)) (getN [lC, lA] x)) (getN [lA] x) = getN [lA, lC] x
  have := (getN_bd [lA] x).1
  have := (getN_bd [lC] x).1
  have h : getN [] x = 0 := rfl
  rw [getN_two, getN_two]
  omega
theorem knLD (x : Ac) : knN [] (findC [mA, mB, mC]) mD mD.ps x = getN mD.vv x := by
  show max (max (max (min (getN [lA, lB, lC, lD] x) (getN [] x)) (getN [lD, lB, lC] x)) (getN [lA, lB] x)) (getN [lA, lC] x) = getN [lA, lB, lC, lD] x
  have := (getN_bd [lA] x).1
  have := (getN_bd [lB] x).1
  have := (getN_bd [lC] x).1
  have := (getN_bd [lD] x).1
  have h : getN [] x = 0 := rfl
  rw [getN_four, getN_three, getN_two, getN_two]
  omega
theorem mA_ok : insE [] (findC []) 0 mA = 0 :=
  insE_ok mA_may (hasG_nil _) ⟨fun p hp => (by cases hp), fun h => absurd h (by decide), fun x => Int.le_of_eq (knLA x).symm⟩ ⟨fun x => Int.le_of_eq (knLA x), ⟨.inl rfl, fun p hp => (by cases hp)⟩⟩ (by decide)
theorem mB_ok : insE [] (findC [mA]) 1 mB = 0 := by
  refine insE_ok mB_may (by decide +kernel) ⟨fun p hp => ?_, fun h => absurd h (by decide), fun x => Int.le_of_eq (knLB x).symm⟩ ⟨fun x => Int.le_of_eq (knLB x), ⟨.inl rfl, fun p hp y hy => ?_⟩⟩ (by decide)
  · simp [mB] at hp; subst hp; decide +kernel
  · simp [mB] at hp
    subst hp
    have e : findC [mA] lA = some mA := rfl
    rw [e] at hy
    cases hy
    exact ⟨fun q hq hne => (by simp [mB] at hq; exact absurd hq hne), by decide⟩
theorem mC_ok : insE [] (findC [mA, mB]) 2 mC = 0 := by
  refine insE_ok mC_may (by decide +kernel) ⟨fun p hp => ?_, fun h => absurd h (by decide), fun x => Int.le_of_eq (knLC x).symm⟩ ⟨fun x => Int.le_of_eq (knLC x), ⟨.inl rfl, fun p hp y hy => ?_⟩⟩ (by decide)
  · simp [mC] at hp; subst hp; decide +kernel
  · simp [mC] at hp
    subst hp
    have e : findC [mA, mB] lA = some mA := rfl
    rw [e] at hy
    cases hy
    exact ⟨fun q hq hne => (by simp [mC] at hq; exact absurd hq hne), by decide⟩
theorem mD_ok : insE [] (findC [mA, mB, mC]) 3 mD = 0 := by
  refine insE_ok mD_may (by decide +kernel) ⟨fun p hp => ?_, fun h => absurd h (by decide), fun x => Int.le_of_eq (knLD x).symm⟩ ⟨fun x => Int.le_of_eq (knLD x), ⟨.inl rfl, fun p hp y hy => ?_⟩⟩ (by decide)
  · simp [mD] at hp
    rcases hp with rfl | rfl <;> decide +kernel
  · simp [mD] at hp
    rcases hp with rfl | rfl
    · have e : findC [mA, mB, mC] lB = some mB := rfl
      rw [e] at hy
      cases hy
      refine ⟨fun q hq hne => ?_, by decide⟩
      simp [mD] at hq
      rcases hq with rfl | rfl
      · exact absurd rfl hne
      · decide +kernel
    · have e : findC [mA, mB, mC] lC = some mC := rfl
      rw [e] at hy
      cases hy
      refine ⟨fun q hq hne => ?_, by decide⟩
      simp [mD] at hq
      rcases hq with rfl | rfl
      · decide +kernel
      · exact absurd rfl hne
theorem mL_sorted : SortedC mL := by
  refine List.pairwise_cons.2 ⟨fun x hx => ?_, List.pairwise_cons.2 ⟨fun x hx => ?_, List.pairwise_cons.2 ⟨fun x hx => ?_, List.pairwise_singleton _ _⟩⟩⟩
  · simp at hx
    rcases hx with rfl | rfl | rfl <;> exact .inl (by decide)
  · simp at hx
    rcases hx with rfl | rfl
    · exact .inr ⟨rfl, by decide⟩
    · exact .inl (by decide)
  · simp at hx
    subst hx; exact .inl (by decide)
theorem mL_uniq {S : List Cm} (hp : S.Perm mL) (hs : SortedC S) : S = mL := rising_ext (lt := ltC) ltC_irrefl (fun h k => ltC_trans h k) hs mL_sorted fun a => hp.mem_iff
def lvI (d : Dt) : Option Nat := if d = lA then some 1 else if d = lB then some 2 else if d = lC then some 2 else if d = lD then some 3 else none
theorem lv_mL (d : Dt) : lvF mL d = lvI d := by
  have e1 : lvF [] = fun _ => none := rfl
  have e2 : ∀ d, lvF [mA] d = if d = lA then some 1 else none := fun d => rfl
  have e3 : ∀ d, lvF [mA, mB] d = if d = lB then some 2 else lvF [mA] d := fun d => by
    rw [show [mA, mB] = [mA] ++ [mB] from rfl, lvF_snoc]; rfl
  have e4 : ∀ d, lvF [mA, mB, mC] d = if d = lC then some 2 else lvF [mA, mB] d := fun d => by
    rw [show [mA, mB, mC] = [mA, mB] ++ [mC] from rfl, lvF_snoc]; rfl
  have e5 : ∀ d, lvF mL d = if d = lD then some 3 else lvF [mA, mB, mC] d := fun d => by
    rw [show mL = [mA, mB, mC] ++ [mD] from rfl, lvF_snoc]; rfl
  rw [e5, e4, e3, e2]
  unfold lvI
  by_cases hA : d = lA
  · subst hA; decide
  · by_cases hB : d = lB
    · subst hB; decide
    · by_cases hC : d = lC
      · subst hC; decide
      · rw [if_neg hA, if_neg hB, if_neg hC, if_neg hA, if_neg hB, if_neg hC]
/-- what levels are: sorted rows -/
structure LevP (g : Dt → Option Nat) (V : List (List Dt)) : Prop where
  rise : ∀ l ∈ V, l.Pairwise ltD
  on : ∀ i l, V[i]? = some l → ∀ d, d ∈ l ↔ g d = some (i + 1)
  top : ∀ d n, g d = some n → n ≤ V.length
  tight : V.length = 0 ∨ ∃ d, g d = some V.length
theorem LevP.known {V : List (List Dt)} (h : LevP (lvF mL) V) : V = [[lA], [lB, lC], [lD]] := by
  have hl : V.length = 3 := by
    have h1 := h.top lD 3 (by rw [lv_mL]; decide)
    rcases h.tight with h2 | ⟨d, h2⟩
    · omega
    · rw [lv_mL] at h2
      unfold lvI at h2
      split at h2
      · injection h2 with h2; omega
      · split at h2
        · injection h2 with h2; omega
        · split at h2
          · injection h2 with h2; omega
          · split at h2
            · injection h2 with h2; omega
            · cases h2
  match V, hl with
  | [r0, r1, r2], _ =>
    have e0 : r0 = [lA] := rising_ext (lt := ltD) ltD_irrefl (fun h k => ltD_trans h k) (h.rise _ (by simp)) (List.pairwise_singleton _ _) fun d => by
      rw [h.on 0 r0 rfl d, lv_mL]
      unfold lvI
      by_cases e : d = lA
      · subst e; simp
      · by_cases e2 : d = lB
        · subst e2; decide
        · by_cases e3 : d = lC
          · subst e3; decide
          · by_cases e4 : d = lD
            · subst e4; decide
            · simp [e, e2, e3, e4]
    have e1 : r1 = [lB, lC] := rising_ext (lt := ltD) ltD_irrefl (fun h k => ltD_trans h k) (h.rise _ (by simp)) (List.pairwise_cons.2 ⟨fun x hx => by simp at hx; subst hx; exact ltBC, List.pairwise_singleton _ _⟩) fun d => by
      rw [h.on 1 r1 rfl d, lv_mL]
      unfold lvI
      by_cases e : d = lA
      · subst e; decide
      · by_cases e2 : d = lB
        · subst e2; simp; decide
        · by_cases e3 : d = lC
          · subst e3; simp; decide
          · by_cases e4 : d = lD
            · subst e4; decide
            · simp [e, e2, e3, e4]
    have e2 : r2 = [lD] := rising_ext (lt := ltD) ltD_irrefl (fun h k => ltD_trans h k) (h.rise _ (by simp)) (List.pairwise_singleton _ _) fun d => by
      rw [h.on 2 r2 rfl d, lv_mL]
      unfold lvI
      by_cases e : d = lA
      · subst e; decide
      · by_cases e2 : d = lB
        · subst e2; decide
        · by_cases e3 : d = lC
          · subst e3; decide
          · by_cases e4 : d = lD
            · subst e4; simp; decide
            · simp [e, e2, e3, e4]
    subst e0 e1 e2
    rfl
/-- are two commits beside each other -/
def besideP (a b : Cm) : Bool := !hasV a.vv b.d && !hasV b.vv a.d
def pairsAt (S : List Cm) (k : Nat) : Nat := match S[k]? with | some a => ((S.take k).filter fun b => besideP a b).length | none => 0
/-- how many pairs are beside each other -/
def pairsP (S : List Cm) (k : Nat) : Nat := ((List.range k).map (pairsAt S)).sum
theorem pairs_mL : pairsP mL 4 = 1 := by decide +kernel
end Go.Proofs.YthdmoplclllhjaaGreat

/- LevR -/
namespace Go.Proofs.YthdmoplclllhjaaGreat
open Go.RowKit
set_option linter.unusedVariables false
set_option linter.unusedSimpArgs false

theorem lvFoldM (g : Dt → Option Nat) : ∀ (T : List Dt) (m : Nat), m ≤ T.foldl (fun n p => max n ((g p).getD 0)) m ∧ (∀ d ∈ T, ∀ n, g d = some n → n ≤ T.foldl (fun n p => max n ((g p).getD 0)) m) ∧
    (T.foldl (fun n p => max n ((g p).getD 0)) m = m ∨ ∃ d ∈ T, g d = some (T.foldl (fun n p => max n ((g p).getD 0)) m))
  | [], m => ⟨Nat.le_refl _, fun d hd => (by cases hd), .inl rfl⟩
  | p :: T, m => by
    obtain ⟨h1, h2, h3⟩ := lvFoldM g T (max m ((g p).getD 0))
    rw [List.foldl_cons]
    refine ⟨by omega, fun d hd n hn => ?_, ?_⟩
    · rcases List.mem_cons.1 hd with rfl | hd
      · rw [hn] at h1 ⊢
        simp only [Option.getD_some] at h1 ⊢
        omega
      · exact h2 d hd n hn
    · rcases h3 with h3 | ⟨d, hd, h3⟩
      · rw [h3]
        by_cases e : (g p).getD 0 ≤ m
        · left; omega
        · right
          cases hp : g p with
          | none => rw [hp] at e; simp at e
          | some n =>
            rw [hp] at e
            simp only [Option.getD_some] at e
            exact ⟨p, by simp, by rw [hp, Option.getD_some, Nat.max_eq_right (by omega)]⟩
      · exact .inr ⟨d, by simp [hd], h3⟩
theorem lvMax_ge {g : Dt → Option Nat} {T : List Dt} {d : Dt} {n : Nat} (hd : d ∈ T) (hg : g d = some n) : n ≤ lvMax g T := (lvFoldM g T 0).2.1 d hd n hg
theorem lvMax_has (g : Dt → Option Nat) (T : List Dt) : lvMax g T = 0 ∨ ∃ d ∈ T, g d = some (lvMax g T) := (lvFoldM g T 0).2.2
/-- rows of dots, and which of them are sorted -/
structure LvS (base : Nat) (w0 wr : World) (a : Option Addr) (c : Nat) (R0 R : List Rd) (q : Nat) : Prop where
  len : R.length = R0.length
  row : OwnL wr base a c R
  each : ∀ r ∈ R, OwnD wr base r.a r.c r.v
  apart : R.Pairwise (fun x y => ∀ k ∈ ob x.a, k ∉ ob y.a)
  same : ∀ i r0 r, R0[i]? = some r0 → R[i]? = some r → r.v.Perm r0.v ∧ (i < q → r.v.Pairwise fun x y => lessD y x = false)
  lo : base ≤ wr.heap.size
  bel : Below base w0 wr
theorem rdcells_at {R : List Rd} {i : Nat} {r : Rd} (h : R[i]? = some r) : (rdcells R)[i]? = some (.slice r.a r.v.length r.c) := by rw [rdcells_map, List.getElem?_map, h]; rfl
theorem LvS.sorted {base : Nat} {w0 wr w2 : World} {a : Option Addr} {c : Nat} {R0 R : List Rd} {q : Nat} {r : Rd} {v' : List Dt} (h : LvS base w0 wr a c R0 R q) (hr : R[q]? = some r) (hl : v'.length = r.v.length) (hp : v'.Perm r.v) (hs : v'.Pairwise fun x y => lessD y x = false)
    (ho : OwnD w2 base r.a r.c v') (hc : Chg (ob r.a) wr w2) : LvS base w0 w2 a c R0 (R.set q ⟨r.a, r.c, v'⟩) (q + 1) := by
  obtain ⟨hq, rfl⟩ := List.getElem?_eq_some_iff.1 hr
  have hmem := List.getElem_mem hq
  have hrow : OwnL w2 base a c R := owns_chg h.row hc (fun k hk hk2 => owns_dif h.row (h.each _ hmem) sd_ne k hk hk2)
  have hold : ∀ j y, R[j]? = some y → j ≠ q → OwnD w2 base y.a y.c y.v := fun j y hy hj => owns_chg (h.each y (List.mem_of_getElem? hy)) hc (pairwise_apart h.apart hy hr hj)
  refine ⟨by rw [List.length_set]; exact h.len, ?_, fun y hy => ?_, ?_, fun i r0 y h0 hy => ?_, Nat.le_trans h.lo hc.size, h.bel.trans (hc.below h.lo (fun k hk => (owns_lt (h.each _ hmem) k hk).1))⟩
  · have e : rdcells (R.set q ⟨R[q].a, R[q].c, v'⟩) = rdcells R := by
      rw [rdcells_map, rdcells_map, List.map_set]
      dsimp only
      rw [hl]
      apply List.ext_getElem?
      intro k
      rw [List.getElem?_set, List.getElem?_map]
      by_cases e : q = k
      · subst e; simp [hq]
      · rw [if_neg e]
    unfold OwnL
    rw [List.length_set, e]
    exact hrow
  · obtain ⟨j, hj⟩ := List.getElem?_of_mem hy
    rw [List.getElem?_set] at hj
    by_cases e : q = j
    · subst e
      rw [if_pos rfl, if_pos hq] at hj
      cases hj; exact ho
    · rw [if_neg e] at hj
      exact hold j y hj (fun e' => e e'.symm)
  · rw [List.pairwise_iff_getElem]
    intro j k hj hk hjk
    simp only [List.length_set] at hj hk
    have e : ∀ i (hi : i < R.length), ((R.set q ⟨R[q].a, R[q].c, v'⟩)[i]'(by simpa using hi)).a = R[i].a := fun i hi => by
      rw [List.getElem_set]
      by_cases e : q = i
      · subst e; rw [if_pos rfl]
      · rw [if_neg e]
    rw [e j hj, e k hk]
    exact List.pairwise_iff_getElem.1 h.apart j k hj hk hjk
  · rw [List.getElem?_set] at hy
    by_cases e : q = i
    · subst e
      rw [if_pos rfl, if_pos hq] at hy
      cases hy
      have h1 := (h.same q r0 _ h0 hr).1
      exact ⟨hp.trans h1, fun _ => hs⟩
    · rw [if_neg e] at hy
      have h1 := h.same i r0 y h0 hy
      exact ⟨h1.1, fun hi => h1.2 (by omega)⟩
theorem LvS.start {base : Nat} {wr : World} {a : Option Addr} {c : Nat} {R : List Rd} (h1 : OwnL wr base a c R) (h2 : ∀ r ∈ R, OwnD wr base r.a r.c r.v) (h3 : R.Pairwise (fun x y => ∀ k ∈ ob x.a, k ∉ ob y.a)) (hb : base ≤ wr.heap.size) : LvS base wr wr a c R R 0 :=
  ⟨rfl, h1, h2, h3, fun i r0 r e1 e2 => by rw [e1] at e2; cases e2; exact ⟨.refl _, fun h => absurd h (Nat.not_lt_zero _)⟩, hb, (Below.refl _ _).mono hb⟩
/-- all dots of the levels, on their rows, each row sorted -/
theorem levP_of {base : Nat} {w wr w2 wr2 : World} {a a2 : Option Addr} {c c2 : Nat} {R0 R : List Rd} {g : Dt → Option Nat} {T : List Dt} (hE : LvE w wr a c R0 g T) (hn : T.Nodup) (hT : ∀ d, d ∈ T ↔ (g d).isSome) (ht : R0.length = lvMax g T)
    (h1 : ∀ d n, g d = some n → 1 ≤ n) (hS : LvS base w2 wr2 a2 c2 R0 R R0.length) : LevP g (R.map (·.v)) := by
  have hrow : ∀ (i : Nat) (l : List Dt), (R.map (·.v))[i]? = some l → l.Perm (onLv g T i) ∧ l.Pairwise fun x y => lessD y x = false := by
    intro i l hl
    rw [List.getElem?_map, Option.map_eq_some_iff] at hl
    obtain ⟨r, hr, rfl⟩ := hl
    have hi : i < R0.length := by have := (List.getElem?_eq_some_iff.1 hr).1; rw [hS.len] at this; exact this
    have h0 := List.getElem?_eq_getElem hi
    have h3 := hS.same i _ _ h0 hr
    rw [hE.on i _ h0] at h3
    exact ⟨h3.1, h3.2 hi⟩
  refine ⟨fun l hl => ?_, fun i l hl d => ?_, fun d n hd => ?_, ?_⟩
  · obtain ⟨i, hi⟩ := List.getElem?_of_mem hl
    obtain ⟨h3, h4⟩ := hrow i l hi
    exact strict_of h4 (h3.nodup_iff.2 (hn.filter _))
  · rw [(hrow i l hl).1.mem_iff]
    unfold onLv
    rw [List.mem_filter, hT]
    constructor
    · rintro ⟨_, h⟩; simpa using h
    · intro h; exact ⟨by rw [h]; rfl, by simpa using h⟩
  · rw [List.length_map, hS.len, ht]
    exact lvMax_ge ((hT d).2 (by rw [hd]; rfl)) hd
  · rw [List.length_map, hS.len, ht]
    rcases lvMax_has g T with h | ⟨d, _, h⟩
    · exact .inl h
    · exact .inr ⟨d, h⟩
end Go.Proofs.YthdmoplclllhjaaGreat

/- LevC -/
/- LevC -/
namespace Go.Proofs.YthdmoplclllhjaaGreat
open Go.RowKit
set_option linter.unusedVariables false
set_option linter.unusedSimpArgs false

/-- a slice's length -/
def lenLV : Value → Nat
  | .slice _ n _ => n
  | _ => 0
/-- the levels of a graph, in rows of one's own -/
def LevTo (w : World) (L : List Cm) (e : Ending) (w' : World) : Prop :=
  ∃ (a : Option Addr) (c : Nat) (R : List Rd) (S : List Cm), e = .returned (.slice a R.length c) ∧ S.Perm L ∧ SortedC S ∧ LevP (lvF S) (R.map (·.v)) ∧ OwnL w' w.heap.size a c R ∧ (∀ r ∈ R, OwnD w' w.heap.size r.a r.c r.v) ∧
    R.Pairwise (fun x y => ∀ k ∈ ob x.a, k ∉ ob y.a) ∧ R.length ≤ 200 ∧ (∀ r ∈ R, r.v.length ≤ 200) ∧ Below w.heap.size w w'
/-- while dots are laid -/
structure LvJ (w1 wa wr : World) (S : List Cm) (a : Option Addr) (c : Nat) (R : List Rd) (T : List Dt) (left : Dt → Bool) : Prop where
  e : LvE wa wr a c R (lvF S) T
  nd : T.Nodup
  mem : ∀ d, d ∈ T ↔ (lvF S d).isSome ∧ left d = false
  top : R.length = lvMax (lvF S) T
  lo : wa.heap.size ≤ wr.heap.size
  bel : Below w1.heap.size w1 wr
/-- the rest of what is known while a row is sought -/
structure DxE (w1 wa w3 wx : World) (S : List Cm) (mb : Nat) (d : Dt) (left : Dt → Bool) (cnt : Nat) : Prop where
  rng : RangeF wx Tryz.prog 41 mkD mb w1.heap.size S.length (lvV S) left cnt
  box : wx.heap[w3.heap.size]? = some (.cells #[.int .u8 d.1.1, .int .u32 d.1.2, .int .u64 d.2] 41 (0, 0))
  lo : wa.heap.size ≤ wx.heap.size
  bel : Below w1.heap.size w1 wx
theorem lvF_mem {S : List Cm} {d : Dt} (h : (lvF S d).isSome) : ∃ c ∈ S, c.d = d := by
  refine Classical.byContradiction fun hn => ?_
  have : lvF S d = none := lvF_none.2 fun c hc e => hn ⟨c, hc, e⟩
  rw [this] at h; cases h
theorem lvF_is {S : List Cm} {c : Cm} (h : c ∈ S) : (lvF S c.d).isSome := by
  cases hf : lvF S c.d with
  | some n => rfl
  | none => exact absurd rfl (lvF_none.1 hf c h)
theorem nodup_le_of_sub : ∀ {T U : List Dt}, T.Nodup → (∀ d ∈ T, d ∈ U) → T.length ≤ U.length
  | [], U, _, _ => Nat.zero_le _
  | d :: T, U, h, hs => by
    rw [List.nodup_cons] at h
    have hd := hs d (by simp)
    have h1 := nodup_le_of_sub (T := T) (U := U.erase d) h.2 (fun x hx => (List.mem_erase_of_ne (fun e => h.1 (by rw [← e]; exact hx))).2 (hs x (by simp [hx])))
    rw [List.length_erase_of_mem hd] at h1
    have := List.length_pos_of_mem hd
    simp only [List.length_cons]; omega
theorem RangeF.own {w w2 wa : World} {mb it n cnt : Nat} {f : Dt → Option Value} {left : Dt → Bool} {a : Option Addr} {c m : Nat} {e : TypeId} {size : Nat} {xs : List Value} (h : RangeF w Tryz.prog 41 mkD mb it n f left cnt) (ho : w.ownsRow wa.heap.size e size (.slice a m c) m xs) (hm : mb < wa.heap.size) (hi : it < wa.heap.size) (hc : Chg (ob a) w w2) : RangeF w2 Tryz.prog 41 mkD mb it n f left cnt :=
  h.chg hc (fun hk => by have := (owns_lt ho mb hk).1; omega) (fun hk => by have := (owns_lt ho it hk).1; omega)
theorem OwnL.ptr {w : World} {base : Nat} {a : Option Addr} {c : Nat} {R : List Rd} (h : OwnL w base a c R) (h0 : 0 < R.length) : ∃ g, a = some ⟨g, 0, none⟩ := by
  rcases h.2 with ⟨h1, h2⟩ | ⟨g, cap, cur, h1, _⟩
  · simp at h1; omega
  · simp at h1; exact ⟨g, h1.1⟩
theorem OwnL.cell {w : World} {base g c q : Nat} {R : List Rd} {r : Rd} (h : OwnL w base (some ⟨g, 0, none⟩) c R) (hr : R[q]? = some r) : w.cell? ⟨g, q, none⟩ = some (.slice r.a r.v.length r.c) := by
  have hq : q < R.length := (List.getElem?_eq_some_iff.1 hr).1
  have := World.ownsRow.cellAt h q (by rw [Nat.mul_one]; exact hq)
  rw [this, rdcells_at hr]
set_option maxRecDepth 100000 in
set_option maxHeartbeats 8000000 in
theorem levels_any (g : Value) (L : List Cm) (w : World) (h : Coms w g L) : Calls Tryz.prog 57 #[g] w (LevTo w L) := by
  have H := Lib.hid h
  clear h
  go_enter Tryz.func57, Tryz.ntmps57
  go_wp2_with fail
  refine (levOf_any g L _ H.out).mono ?_
  rintro e w1 ⟨mb, S, rfl, hp, hs, hok, hlo, hm, hb⟩
  have HP := Lib.hid hp
  have HS := Lib.hid hs
  have HOk := Lib.hid hok
  have HB := Lib.hid hb
  have HM := Lib.hid hm.mapF
  have hmb := hm.lt
  have hSl : S.length ≤ 200 := by rw [hp.length_eq]; exact H.out.max
  have hw1 := hb.size
  clear hp hs hok hm hb
  go_wp2_with (at_range; go_must (refine wpList_range_F keysD rfl _ _ rfl _ Tryz.underlying63 mb S.length (lvV S) rfl HM.out ?_))
  intro wa cnt0 hrg0 hcn0 hg0 hs0
  have hb0 : Below w1.heap.size w1 wa := (Below.refl _ _).grown hg0 (Nat.le_refl _) (by simp)
  have hit : w1.heap.size < wa.heap.size := hrg0.lt
  have hmw : mb < wa.heap.size := by omega
  have HB0 := Lib.hid hb0
  have Hrg0 := Lib.hid hrg0
  clear hg0 hs0 hb0 hrg0
  go_wp2_with fail
  go_loopw [2, 10] (fun ov _ wr => ∃ (left : Dt → Bool) (cnt : Nat) (T : List Dt) (a : Option Addr) (c : Nat) (R : List Rd), ov = .slice a (List.length R) c ∧ RangeF wr Tryz.prog 41 mkD mb w1.heap.size S.length (lvV S) left cnt ∧ LvJ w1 wa wr S a c R T left) (fun _ _ wr => wr.rangeLeft mb w1.heap.size)
  case atStart => exact ⟨_, cnt0, [], none, 0, [], rfl, Hrg0.out, LvE.start _ _ _, .nil, fun d => ⟨fun h => (by cases h), fun h => (by have h2 := h.2; simp only [lvV, Option.isSome_map] at h2; rw [h.1] at h2; cases h2)⟩, rfl, Nat.le_refl _, HB0.out⟩
  case round =>
    obtain ⟨left, cnt, T, a, c, R, rfl, hrg, hJ⟩ := hrel
    have J := Lib.hid hJ
    have Hrg := Lib.hid hrg
    have hlo := hJ.lo
    have hTl : T.length ≤ 200 := by
      have := nodup_le_of_sub (U := S.map (·.d)) hJ.nd (fun d hd => by obtain ⟨c, hc, rfl⟩ := lvF_mem ((hJ.mem d).1 hd).1; exact List.mem_map.2 ⟨c, hc, rfl⟩)
      rw [List.length_map] at this; omega
    have hRl : R.length ≤ 200 := by
      rw [hJ.top]
      rcases lvMax_has (lvF S) T with h | ⟨d, _, h⟩
      · omega
      · have := (lvF_le h).2; omega
    clear hJ Hrg0 hcn0
    go_wp2_with (at_next; go_must (refine wpList_next_D rfl _ rfl _ _ _ _ _ _ rfl hrg ?_ ?_))
    · intro hl
      clear hrg
      have HT := Lib.hid (show ∀ d, d ∈ T ↔ (lvF S d).isSome from fun d => by
        rw [J.out.mem]
        refine ⟨fun h => h.1, fun h => ⟨h, ?_⟩⟩
        obtain ⟨c, hc, rfl⟩ := lvF_mem h
        exact hl _ (HOk.out c hc).d)
      have E0 := Lib.hid (LvS.start J.out.e.row J.out.e.each J.out.e.apart hlo)
      clear hl
      go_wp2_with fail
      go_loopw [36] (fun j wx => ∃ (q : Nat) (R' : List Rd), q ≤ R.length ∧ j = .int .i64 q ∧ LvS wa.heap.size wr wx a c R R' q) (fun j _ => R.length - (intOf j).toNat)
      case atStart => exact ⟨0, R, Nat.zero_le _, rfl, E0.out⟩
      case round =>
        obtain ⟨q, R', hq, rfl, hE⟩ := hrel
        have E := Lib.hid hE
        have hlR := hE.len
        have HlR := Lib.hid hlR
        by_cases hlt : q < R.length
        · obtain ⟨g, rfl⟩ := hE.row.ptr (by omega)
          obtain ⟨⟨ra, rc, rv⟩, hr⟩ : ∃ r, R'[q]? = some r := ⟨R'[q], by simp⟩
          have d0 := hE.row.cell hr
          have HR := Lib.hid hr
          have hrl : rv.length ≤ 200 := by
            have h0 := List.getElem?_eq_getElem hlt
            have h1 := (hE.same q _ _ h0 hr).1.length_eq
            rw [J.out.e.on q _ h0] at h1
            have : (onLv (lvF S) T q).length ≤ T.length := List.length_filter_le _ _
            dsimp only at h1
            omega
          dsimp only at d0
          clear hE hr hlR
          go_wp2_with fail
          refine (sortD_any ra rc wa.heap.size rv _ (E.out.each _ (List.mem_of_getElem? HR.out)) (by omega)).mono ?_
          rintro e w9 ⟨rfl, v', hl', hp', hs', ho', hc'⟩
          have E9 := Lib.hid (E.out.sorted HR.out hl' hp' hs' ho' hc')
          clear hl' hp' hs' ho' hc' d0
          go_wp2_with fail
          go_roundw
          case rel => exact ⟨q + 1, _, by omega, by go_num, E9.out⟩
          case measure => simp [intOf]; omega
        · have hqe : q = R.length := by omega
          subst hqe
          clear hE hlR
          have HL := Lib.hid (levP_of J.out.e J.out.nd HT.out J.out.top (fun d n h => (lvF_le h).1) E.out)
          have Hlr := Lib.hid (show ∀ r ∈ R', r.v.length ≤ 200 from fun r hr => by
            obtain ⟨i, hi⟩ := List.getElem?_of_mem hr
            have hi' : i < R.length := by have := (List.getElem?_eq_some_iff.1 hi).1; rw [HlR.out] at this; exact this
            have h0 := List.getElem?_eq_getElem hi'
            have h1 := (E.out.same i _ _ h0 hi).1.length_eq
            rw [J.out.e.on i _ h0] at h1
            have : (onLv (lvF S) T i).length ≤ T.length := List.length_filter_le _ _
            omega)
          go_wp2_with fail
          go_ret
          exact ⟨a, c, R', S, (by rw [HlR.out]; rfl), HP.out, HS.out, HL.out, owns_base E.out.row (by omega), fun r hr => owns_base (E.out.each r hr) (by omega), E.out.apart, by rw [HlR.out]; exact hRl, Hlr.out, (HB.out.trans (J.out.bel.mono hw1)).trans (E.out.bel.mono (by omega))⟩
    · intro rr ii qq xv w3 cnt1 hX hen
      clear hrg
      have hlt1 := hX.lt
      have hokd := hX.ok
      obtain ⟨i, hi, hxv⟩ : ∃ i : Nat, lvF S ((rr, ii), qq) = some (i + 1) ∧ xv = .int .i64 ((i : Int) + 1) := by
        have hv := hX.val
        unfold lvV at hv
        cases hf : lvF S ((rr, ii), qq) with
        | none => rw [hf] at hv; cases hv
        | some n =>
          rw [hf] at hv
          have h1 := (lvF_le hf).1
          have hv := Option.some.inj hv
          exact ⟨n - 1, by rw [Nat.sub_add_cancel h1], by rw [← hv]; exact congrArg (Value.int .i64) (by omega)⟩
      subst hxv
      have hil : i + 1 ≤ S.length := (lvF_le hi).2
      have hs3 := hX.size
      have hw3 : wa.heap.size ≤ w3.heap.size := by omega
      have hc3 := Chg.grown hX.grown
      simp only [Option.toList_some] at hc3
      obtain ⟨o, ho, how⟩ := Hrg.out.iter_walk
      have hNC : NoCell wr [w1.heap.size] := fun k hk C t fr hh => by
        rw [List.mem_singleton] at hk
        subst hk
        rw [ho] at hh
        cases hh; cases how
      have hE3 := J.out.e.chg hc3 hNC
      have hB3 : Below w1.heap.size w1 w3 := J.out.bel.trans (hc3.below J.out.bel.size (by simp))
      have E4 := Lib.hid (hE3.below ((Below.refl _ _).alloc (Nat.le_refl _) (.cells #[.int .u8 rr, .int .u32 ii, .int .u64 qq] 41)))
      have D4 : Hid (DxE w1 wa w3 (w3.alloc (.cells #[.int .u8 rr, .int .u32 ii, .int .u64 qq] 41)) S mb ((rr, ii), qq) (fun y => left y && !decide (y = ((rr, ii), qq))) cnt1) := Lib.hid ⟨hX.rng.alloc _, heap_new _ _, by simp; omega, hB3.alloc hB3.size _⟩
      have Hi := Lib.hid hi
      have Was := Lib.hid hX.was
      have Htop := Lib.hid J.out.top
      have hMx : lvMax (lvF S) T ≤ 200 := by rw [← J.out.top]; exact hRl
      have Hokd := Lib.hid hokd
      clear hX ho how hNC hE3 hB3 hc3 hi hs3 hokd
      go_wp2_with fail
      go_loopw [2] (fun ov wx => ∃ (a : Option Addr) (c : Nat) (R : List Rd), ov = .slice a (List.length R) c ∧ LvE wa wx a c R (lvF S) T ∧ R.length ≤ max (lvMax (lvF S) T) (i + 1) ∧ DxE w1 wa w3 wx S mb ((rr, ii), qq) (fun y => left y && !decide (y = ((rr, ii), qq))) cnt1) (fun ov _ => i + 1 - lenLV ov)
      case atStart => exact ⟨a, c, R, rfl, E4.out, by rw [Htop.out]; omega, D4.out⟩
      case round =>
        obtain ⟨a, c, R, rfl, hE, hle, hD⟩ := hrel
        have E := Lib.hid hE
        have D := Lib.hid hD
        have hR4 : R.length ≤ 400 := by omega
        have z0 := heap_lt hD.box
        clear hE hD E4 D4 Htop
        by_cases hlt : R.length < i + 1
        · go_wp2_with (at_builtin; go_must (refine wpList_appL rfl _ _ rfl wa.heap.size a c R rfl ?o1 (some ⟨wr.heap.size, 0, none⟩) 1 [⟨none, 0, []⟩] rfl ?s1 ?n1 ?b1 ?_))
          case o1 => exact (E.out.below ((Below.refl _ _).alloc (Nat.le_refl _) _)).row
          case s1 => exact Sl.blk (n := 1) (size := 1) (heap_new _ _) rfl (by decide)
          case n1 => simp; omega
          case b1 => have := D.out.lo; simp; omega
          intro v' a' c' w5 hv' ho5 hb5 hch5
          have hA : Below wr.heap.size wr (wr.alloc (.cells #[.slice none 0 0] 23)) := (Below.refl _ _).alloc (Nat.le_refl _) _
          have hrow := (E.out.below hA).row
          have E5 := Lib.hid ((E.out.below hA).push hch5 (hv' ▸ ho5))
          have D5 : Hid (DxE w1 wa w3 w5 S mb ((rr, ii), qq) (fun y => left y && !decide (y = ((rr, ii), qq))) cnt1) := Lib.hid ⟨RangeF.own (D.out.rng.alloc _) hrow hmw hit hch5,
            heap_chg ((hA.block _ (heap_lt D.out.box)).trans D.out.box) hch5 (fun hk => by
              obtain ⟨C, fr, hh⟩ := ob_row hrow _ hk
              rw [(hA.block _ (heap_lt D.out.box)).trans D.out.box] at hh
              injection hh with hh
              injection hh with _ h2
              exact sd_ne h2.symm), by have := D.out.lo; have h9 := hb5.size; simp at h9; omega, (D.out.bel.trans (hA.mono D.out.bel.size)).trans (hb5.mono (by omega))⟩
          have Hv := Lib.hid hv'
          have hl' : v'.length = R.length + 1 := by rw [hv']; simp
          have Hl' := Lib.hid hl'
          clear hv' ho5 hb5 hch5 hA hrow hl'
          go_wp2_with fail
          go_roundw
          case rel => exact ⟨a', c', R ++ [⟨none, 0, []⟩], (by rw [← Hv.out]), E5.out, (by rw [← Hv.out, Hl'.out]; omega), D5.out⟩
          case measure => simp only [lenLV]; rw [Hl'.out]; omega
        · obtain ⟨⟨ra, rc, rv⟩, hr⟩ : ∃ r, R[i]? = some r := ⟨R[i]'(by omega), by simp⟩
          obtain ⟨g', rfl⟩ := E.out.row.ptr (by omega)
          have d0 := E.out.row.cell hr
          have x0 := cells_at D.out.box
          have HR := Lib.hid hr
          clear hr
          dsimp only at d0 x0
          go_upto_region 6 with (fail)
          refine region_text [([0, 1, 2, 3, 4, 5, 6, 7, 8, 9, 10, 11, 12], false)] mixed (by kernel_rfl) ?_
          simp only [wpSegs, List.map_cons, List.map_nil, List.getD_cons_succ, List.getD_cons_zero]
          go_wp2_with (at_builtin; go_must (refine wpList_appD3 rfl _ _ rfl wa.heap.size ra rc rv rfl ?o2 (some ⟨wr.heap.size, 0, none⟩) 1 [((rr, ii), qq)] rfl ?s2 ?n2 ?b2 ?_))
          case o2 => exact (E.out.below (((Below.refl _ _).alloc (Nat.le_refl _) _).drew)).each _ (List.mem_of_getElem? HR.out)
          case s2 => exact Sl.blk (n := 1) (size := 3) (heap_new _ _) rfl (by decide)
          case n2 =>
            have h1 := E.out.on i _ HR.out
            have h2 : (onLv (lvF S) T i).length ≤ T.length := List.length_filter_le _ _
            rw [← h1] at h2
            dsimp only at h2
            simp; omega
          case b2 => have := D.out.lo; simp; omega
          have hA : Below wr.heap.size wr (wr.alloc (.cells #[.int .u8 rr, .int .u32 ii, .int .u64 qq] 41)).drew := ((Below.refl _ _).alloc (Nat.le_refl _) _).drew
          have hE6 := E.out.below hA
          intro v' a' c' w5 hv' ho5 hb5 hch5 hn5
          have hown := hE6.each _ (List.mem_of_getElem? HR.out)
          have hrow5 := owns_chg hE6.row hch5 (fun k hk hk2 => owns_dif hE6.row hown sd_ne k hk hk2)
          have d5 := OwnL.cell hrow5 HR.out
          have f5 := fun o => World.ownsRow.frozenAt hrow5 o
          have hgl := owns_lt hE6.row g' (by simp [ob])
          have Hv := Lib.hid hv'
          have E7 := Lib.hid (hE6.put HR.out Hi.out hch5 (hv' ▸ ho5) (by simpa using hn5))
          have R7 := Lib.hid (RangeF.chg (RangeF.own ((D.out.rng.alloc (.cells #[.int .u8 rr, .int .u32 ii, .int .u64 qq] 41)).drew') hown hmw hit hch5) (Chg.setCell w5 ⟨g', i, none⟩ (.slice a' (rv ++ [((rr, ii), qq)]).length c')) (by simp; omega) (by simp; omega))
          have B7 := Lib.hid (show Below w1.heap.size w1 (w5.setCell ⟨g', i, none⟩ (.slice a' (rv ++ [((rr, ii), qq)]).length c')) from ((D.out.bel.trans (hA.mono D.out.bel.size)).trans (hb5.mono (by omega))).trans ((Chg.setCell w5 ⟨g', i, none⟩ _).below (by have h9 := hb5.size; have := D.out.bel.size; simp at h9; omega) (by simp; omega)))
          have L7 := Lib.hid (show wa.heap.size ≤ (w5.setCell ⟨g', i, none⟩ (.slice a' (rv ++ [((rr, ii), qq)]).length c')).heap.size from by have h9 := hb5.size; have := D.out.lo; simp at h9 ⊢; omega)
          have M7 := Lib.hid (show ∀ d, d ∈ T ++ [((rr, ii), qq)] ↔ (lvF S d).isSome ∧ (left d && !decide (d = ((rr, ii), qq))) = false from fun d => by
            rw [List.mem_append, J.out.mem, List.mem_singleton]
            by_cases e : d = ((rr, ii), qq)
            · subst e; simp [Hi.out]
            · simp [e])
          have N7 := Lib.hid (show (T ++ [((rr, ii), qq)]).Nodup from List.nodup_append.2 ⟨J.out.nd, by simp, fun x hx y hy e => by
            rw [List.mem_singleton] at hy
            subst e hy
            have := ((J.out.mem _).1 hx).2
            rw [Was.out] at this; cases this⟩)
          have T7 := Lib.hid (show (R.set i ⟨a', c', rv ++ [((rr, ii), qq)]⟩).length = lvMax (lvF S) (T ++ [((rr, ii), qq)]) from by
            rw [List.length_set, lvMax_snoc, Hi.out, Option.getD_some]
            have := E.out.max
            omega)
          clear hv' ho5 hb5 hch5 hn5 hA hE6 hown hrow5 d0 x0
          go_wp2_with fail
          refine And.intro (by kernel_rfl) ?_
          go_wp2_with fail
          go_roundw
          case rel =>
            rw [Hv.out]
            exact ⟨_, cnt1, T ++ [((rr, ii), qq)], some ⟨g', 0, none⟩, c, R.set i ⟨a', c', rv ++ [((rr, ii), qq)]⟩, (by rw [List.length_set]), R7.out, E7.out, N7.out, M7.out, T7.out, L7.out, B7.out⟩
          case measure => rw [Hv.out, R7.out.left_eq, Hrg.out.left_eq]; exact hlt1
end Go.Proofs.YthdmoplclllhjaaGreat

/- LevD -/
namespace Go.Proofs.YthdmoplclllhjaaGreat
open Go.RowKit
set_option linter.unusedVariables false
set_option linter.unusedSimpArgs false

set_option maxRecDepth 100000 in
set_option maxHeartbeats 4000000 in
theorem besideC_any (u v : Cw) (w : World) (hu : CwAt w u) (hv : CwAt w v) (h1 : u.c.vv.length ≤ 1100000) (h2 : v.c.vv.length ≤ 1100000) :
    Calls Tryz.prog 124 #[.agg (cwcells u), .agg (cwcells v)] w fun e w' => e = .returned (.bool (besideP u.c v.c)) ∧ Below w.heap.size w w' := by
  obtain ⟨⟨⟨⟨r, i⟩, s⟩, ps, uu, t, ⟨k, n, x, p, ds⟩⟩, qa, qc, ua, uc, pa, pc, da, dc⟩ := u
  obtain ⟨⟨⟨⟨r', i'⟩, s'⟩, ps', uu', t', ⟨k', n', x', p', ds'⟩⟩, qa', qc', ua', uc', pa', pc', da', dc'⟩ := v
  have HU := Lib.hid hu
  have HV := Lib.hid hv
  dsimp only at h1 h2
  clear hu hv
  simp only [cwcells]
  go_enter Tryz.func124, Tryz.ntmps124
  go_wp2_with fail
  refine (has_any ua uc uu r' i' s' _ (HU.out.vv.below (((Below.refl _ _).alloc (Nat.le_refl _) _).alloc (by simp) _)) h1 HU.out.ok.vv HV.out.ok.d.1).mono ?_
  rintro e w1 ⟨rfl, hb⟩
  obtain ⟨x0, x1, hz, hB⟩ := new2 hb
  have HB := Lib.hid hB
  have d0 := cells_at x0
  have d1 := cells_at x1
  try simp only [ccells] at d0 d1
  clear x0 x1 hB hb
  cases hh : hasV uu ((r', i'), s') with
  | true =>
    have Hr := Lib.hid (show besideP ⟨((r, i), s), ps, uu, t, ⟨k, n, x, p, ds⟩⟩ ⟨((r', i'), s'), ps', uu', t', ⟨k', n', x', p', ds'⟩⟩ = false by simp [besideP, hh])
    go_wp2_with fail
    go_ret
    exact ⟨by rw [Hr.out]; rfl, HB.out⟩
  | false =>
    have Hr := Lib.hid (show besideP ⟨((r, i), s), ps, uu, t, ⟨k, n, x, p, ds⟩⟩ ⟨((r', i'), s'), ps', uu', t', ⟨k', n', x', p', ds'⟩⟩ = !hasV uu' ((r, i), s) by simp [besideP, hh])
    go_wp2_with fail
    refine (has_any ua' uc' uu' r i s _ (HV.out.vv.below HB.out) h2 HV.out.ok.vv HU.out.ok.d.1).mono ?_
    rintro e w2 ⟨rfl, hb⟩
    have HB2 := Lib.hid (below2 HB.out hb HB.out.size)
    clear hb
    go_wp2_with fail
    go_ret
    exact ⟨by rw [Hr.out]; rfl, HB2.out⟩
theorem slice_hiC (oa : Option Addr) (n oc j : Nat) (hj : j ≤ oc) (W : World) : (Instr.sliceAt 29 (.slice oa n oc) none (some (.int .i64 (j : Int))) none).run Tryz.prog W = .ok (.slice oa j oc) W := by
  simp [go_sem, Instr.sliceAt, Instr.slice, run_underlying Tryz.underlying29]
  omega
/-- commits in rows of one's own, all in a row -/
structure ComR (w wr : World) (a : Option Addr) (c : Nat) (ss : List Cw) : Prop where
  row : OwnC wr w.heap.size a c ss
  each : ∀ v ∈ ss, CwOwn wr w.heap.size v
  bel : Below w.heap.size w wr
theorem ComR.below {w wr w2 : World} {a : Option Addr} {c : Nat} {ss : List Cw} (h : ComR w wr a c ss) (hb : Below wr.heap.size wr w2) : ComR w w2 a c ss :=
  ⟨h.row.below hb, fun v hv => (h.each v hv).below hb, below2 h.bel hb h.bel.size⟩
theorem pairsP_succ (S : List Cm) (q : Nat) : pairsP S (q + 1) = pairsP S q + pairsAt S q := by unfold pairsP; rw [List.range_succ, List.map_append, List.sum_append]; simp
theorem pairsAt_of {S : List Cm} {q : Nat} {a : Cm} (h : S[q]? = some a) : pairsAt S q = ((S.take q).filter fun b => besideP a b).length := by unfold pairsAt; rw [h]
def PairsTo (w : World) (L : List Cm) (e : Ending) (w' : World) : Prop := ∃ S : List Cm, S.Perm L ∧ SortedC S ∧ e = .returned (.int .i64 ((pairsP S S.length : Nat) : Int)) ∧ Below w.heap.size w w'
set_option maxRecDepth 100000 in
set_option maxHeartbeats 8000000 in
theorem pairs_any (g : Value) (L : List Cm) (w : World) (h : Coms w g L) : Calls Tryz.prog 64 #[g] w (PairsTo w L) := by
  have H := Lib.hid h
  clear h
  go_enter Tryz.func64, Tryz.ntmps64
  go_wp2_with fail
  refine (H.out.coms _ (Below.refl _ _)).mono ?_
  rintro e w1 ⟨a, c, ss, rfl, hp, hs, ho, hc, hb⟩
  have hl : ss.length ≤ 200 := by have := hp.length_eq; unfold cms at this; rw [List.length_map] at this; have := H.out.max; omega
  have HE := Lib.hid (ComR.mk ho hc hb)
  have HP := Lib.hid hp
  have HS := Lib.hid hs
  have hcl : (cms ss).length = ss.length := by unfold cms; rw [List.length_map]
  have Hcl := Lib.hid hcl
  have hcap : ss.length ≤ c := (Sl.of_owns ho).2.1
  clear hp hs ho hc hb hcl
  go_wp2_with fail
  go_loopw [2, 12] (fun nv j wr => ∃ (q m : Nat), q ≤ ss.length ∧ j = .int .i64 q ∧ nv = .int .i64 (m : Nat) ∧ m ≤ q * 200 ∧ Hid (m = pairsP (cms ss) q) ∧ ComR w wr a c ss) (fun _ j _ => ss.length - (intOf j).toNat)
  case atStart => exact ⟨0, 0, Nat.zero_le _, rfl, rfl, by decide, Lib.hid rfl, HE.out⟩
  case round =>
    obtain ⟨q, m, hq, rfl, rfl, hm, HM, hE⟩ := hrel
    have E := Lib.hid hE
    clear hE HE
    by_cases hlt : q < ss.length
    · obtain ⟨g, rfl⟩ := E.out.row.ptr (by omega)
      obtain ⟨v, hv⟩ : ∃ v, ss[q]? = some v := ⟨ss[q], by simp [hlt]⟩
      have hmem := List.mem_of_getElem? hv
      have HR := Lib.hid (E.out.row.range hv)
      have HA := Lib.hid (E.out.each v hmem).at_
      have HMay := Lib.hid (H.out.may v.c (HP.out.mem_iff.1 (List.mem_map.2 ⟨v, hmem, rfl⟩)))
      have hvl : v.c.vv.length ≤ 64 := canon_few HMay.out.canon
      have hvc : (cms ss)[q]? = some v.c := by unfold cms; rw [List.getElem?_map, hv]; rfl
      have HPq := Lib.hid (pairsAt_of hvc)
      clear hv hmem hvc
      have hrun := slice_hiC (some ⟨g, 0, none⟩) ss.length c q (by omega)
      obtain ⟨⟨⟨⟨r, i⟩, s⟩, ps, uu, t, ⟨k, n, x, p, ds⟩⟩, qa, qc, ua, uc, pa, pc, da, dc⟩ := v
      dsimp only at hvl
      have B0 : Hid (BoxE 46 wr (wr.alloc (.cells (ccells r i s qa ps.length qc ua uu.length uc t k pa p.length pc n x da ds.length dc) 46)) (ccells r i s qa ps.length qc ua uu.length uc t k pa p.length pc n x da ds.length dc)) := Lib.hid ⟨heap_new _ _, (Below.refl _ _).alloc (Nat.le_refl _) _⟩
      go_wp2_with (refine wpList_load_cw rfl _ rfl g (q * 11) (by first | rfl | simp [Addr.add]) ⟨⟨((r, i), s), ps, uu, t, ⟨k, n, x, p, ds⟩⟩, qa, qc, ua, uc, pa, pc, da, dc⟩ HR.out ?_; simp only [cwcells])
      go_loopw [2, 21] (fun nv j wx => ∃ (z y : Nat), z ≤ q ∧ j = .int .i64 z ∧ nv = .int .i64 (y : Nat) ∧ y ≤ m + z ∧ Hid (y = m + (((cms ss).take z).filter fun b => besideP ⟨((r, i), s), ps, uu, t, ⟨k, n, x, p, ds⟩⟩ b).length) ∧ BoxE 46 wr wx (ccells r i s qa ps.length qc ua uu.length uc t k pa p.length pc n x da ds.length dc)) (fun _ j _ => q - (intOf j).toNat)
      case atStart => exact ⟨0, m, Nat.zero_le _, rfl, rfl, by omega, Lib.hid (by simp), B0.out⟩
      case round =>
        obtain ⟨z, y, hz, rfl, rfl, hy, HY, hB⟩ := hrel
        have B := Lib.hid hB
        have d0 := cells_at hB.blk
        simp only [ccells] at d0
        have z0 := heap_lt hB.blk
        clear hB B0
        by_cases hlt2 : z < q
        · obtain ⟨v2, hv2⟩ : ∃ v, ss[z]? = some v := ⟨ss[z], by simp⟩
          have hmem2 := List.mem_of_getElem? hv2
          have E2 := Lib.hid (E.out.below B.out.bel)
          have HR2 := Lib.hid (E2.out.row.range hv2)
          have HA2 := Lib.hid (E2.out.each v2 hmem2).at_
          have HMay2 := Lib.hid (H.out.may v2.c (HP.out.mem_iff.1 (List.mem_map.2 ⟨v2, hmem2, rfl⟩)))
          have hvl2 : v2.c.vv.length ≤ 64 := canon_few HMay2.out.canon
          have hvc2 : (cms ss)[z]? = some v2.c := by unfold cms; rw [List.getElem?_map, hv2]; rfl
          have HY2 := Lib.hid (show (((cms ss).take (z + 1)).filter fun b => besideP ⟨((r, i), s), ps, uu, t, ⟨k, n, x, p, ds⟩⟩ b).length = (((cms ss).take z).filter fun b => besideP ⟨((r, i), s), ps, uu, t, ⟨k, n, x, p, ds⟩⟩ b).length + if besideP ⟨((r, i), s), ps, uu, t, ⟨k, n, x, p, ds⟩⟩ v2.c = true then 1 else 0 by
            rw [take_snoc' hvc2, List.filter_append, List.length_append]
            cases hbz : besideP ⟨((r, i), s), ps, uu, t, ⟨k, n, x, p, ds⟩⟩ v2.c <;> simp [hbz])
          clear hv2 hmem2 hvc2
          obtain ⟨⟨⟨⟨r', i'⟩, s'⟩, ps', uu', t', ⟨k', n', x', p', ds'⟩⟩, qa', qc', ua', uc', pa', pc', da', dc'⟩ := v2
          dsimp only at hvl2
          have B2 := Lib.hid (B.out.step ((Below.refl _ _).alloc (Nat.le_refl _) (.cells (ccells r' i' s' qa' ps'.length qc' ua' uu'.length uc' t' k' pa' p'.length pc' n' x' da' ds'.length dc') 46)))
          go_wp2_with (refine wpList_load_cw rfl _ rfl g (z * 11) (by first | rfl | simp [Addr.add]) ⟨⟨((r', i'), s'), ps', uu', t', ⟨k', n', x', p', ds'⟩⟩, qa', qc', ua', uc', pa', pc', da', dc'⟩ HR2.out ?_; simp only [cwcells])
          refine (besideC_any ⟨⟨((r, i), s), ps, uu, t, ⟨k, n, x, p, ds⟩⟩, qa, qc, ua, uc, pa, pc, da, dc⟩ ⟨⟨((r', i'), s'), ps', uu', t', ⟨k', n', x', p', ds'⟩⟩, qa', qc', ua', uc', pa', pc', da', dc'⟩ _ (HA.out.below B2.out.bel) (HA2.out.below ((Below.refl _ _).alloc (Nat.le_refl _) _)) (by dsimp only; omega) (by dsimp only; omega)).mono ?_
          rintro e w9 ⟨rfl, hb9⟩
          have B9 := Lib.hid (B2.out.step hb9)
          clear hb9 d0 z0
          cases hbe : besideP ⟨((r, i), s), ps, uu, t, ⟨k, n, x, p, ds⟩⟩ ⟨((r', i'), s'), ps', uu', t', ⟨k', n', x', p', ds'⟩⟩ with
          | true =>
            have HY3 := Lib.hid (show y + 1 = m + (((cms ss).take (z + 1)).filter fun b => besideP ⟨((r, i), s), ps, uu, t, ⟨k, n, x, p, ds⟩⟩ b).length by rw [HY2.out, HY.out, hbe, if_pos rfl]; omega)
            clear hbe
            go_wp2_with fail
            go_roundw
            case rel => exact ⟨z + 1, y + 1, by omega, by go_num, congrArg (Value.int .i64) (by omega), by omega, HY3, B9.out⟩
            case measure => simp [intOf]; omega
          | false =>
            have HY3 := Lib.hid (show y = m + (((cms ss).take (z + 1)).filter fun b => besideP ⟨((r, i), s), ps, uu, t, ⟨k, n, x, p, ds⟩⟩ b).length by rw [HY2.out, hbe, if_neg (by simp)]; exact HY.out)
            clear hbe
            go_wp2_with fail
            go_roundw
            case rel => exact ⟨z + 1, y, by omega, by go_num, rfl, by omega, HY3, B9.out⟩
            case measure => simp [intOf]; omega
        · have hzz : z = q := by omega
          subst hzz
          have HY3 := Lib.hid (show y = pairsP (cms ss) (z + 1) by rw [pairsP_succ, HPq.out, ← HM.out]; exact HY.out)
          go_wp2_with fail
          go_roundw
          case rel => exact ⟨z + 1, y, by omega, by go_num, rfl, by omega, HY3, E.out.below B.out.bel⟩
          case measure => simp [intOf]; omega
    · have hqe : q = ss.length := by omega
      subst hqe
      have HMy := Lib.hid (show m = pairsP (cms ss) (cms ss).length by rw [Hcl.out]; exact HM.out)
      go_wp2_with fail
      go_ret
      exact ⟨cms ss, HP.out, HS.out, (by rw [← HMy.out]; rfl), E.out.bel⟩
end Go.Proofs.YthdmoplclllhjaaGreat

/- LevE -/
namespace Go.Proofs.YthdmoplclllhjaaGreat
open Go.RowKit
set_option linter.unusedVariables false
set_option linter.unusedSimpArgs false

end Go.Proofs.YthdmoplclllhjaaGreat
