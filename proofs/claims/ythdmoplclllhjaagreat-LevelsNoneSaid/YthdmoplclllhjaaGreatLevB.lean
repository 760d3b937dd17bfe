/- levels.of: the contract. | The page's example of levels, plainly: four commits. No program in sight. | Rows of levels, plainly: what they are when all dots are laid and each row is sorted. -/
import Derived.Test.YthdmoplclllhjaaGreatLevA
import Derived.Test.YthdmoplclllhjaaGreatGraV
import Derived.Test.YthdmoplclllhjaaGreatGraQ
/- LevB -/
namespace Go.Proofs.YthdmoplclllhjaaGreat
open Go.RowKit
set_option linter.unusedVariables false
set_option linter.unusedSimpArgs false

/-- a graph whose commits are told -/
structure Coms (w : World) (g : Value) (L : List Cm) : Prop where
  coms : ∀ W, Below w.heap.size w W → Calls Tryz.prog 20 #[g] W (ComsTo W L)
  nodup : (L.map (·.d)).Nodup
  may : ∀ c ∈ L, CmP c
  max : L.length ≤ 200
theorem Coms.below {w w' : World} {g : Value} {L : List Cm} (h : Coms w g L) (hb : Below w.heap.size w w') : Coms w' g L := ⟨fun W hW => h.coms W (below2 hb hW hb.size), h.nodup, h.may, h.max⟩
theorem Coms.of {w : World} {pg mb : Nat} {w0 : World} {m : Nat} {b : Bw} {L : List Cw} {va : Option Addr} {vc : Nat} {vv : List Dt} (h : GrAt w pg mb w0 m b L va vc vv) : Coms w (.pointer (some ⟨pg, 0, none⟩)) (cms L) :=
  ⟨fun W hW => commits_G pg mb w0 m b L va vc vv W (h.below hW), h.nodup, fun c hc => (by obtain ⟨v, hv, rfl⟩ := List.mem_map.1 hc; exact h.may v hv), by unfold cms; rw [List.length_map]; exact h.max⟩
theorem Coms.no {w : World} {g : Value} (h : NoG w g) : Coms w g [] :=
  ⟨fun W hW => (commits_no g W (h.below hW)).mono fun e w' ⟨he, hw⟩ => by
    subst he hw
    exact ⟨none, 0, [], rfl, .refl _, .nil, World.ownsRow_nil _ _ _ _, by simp, Below.refl _ _⟩, List.nodup_nil, fun c hc => (by cases hc), by decide⟩
/-- levels as a map's elements -/
def lvV (S : List Cm) : Dt → Option Value := fun d => (lvF S d).map fun n => .int .i64 (n : Nat)
/-- the levels of a graph's commits by dots -/
def OfLTo (w : World) (L : List Cm) (e : Ending) (w' : World) : Prop :=
  ∃ (mb : Nat) (S : List Cm), e = .returned (.map (some mb)) ∧ S.Perm L ∧ SortedC S ∧ (∀ c ∈ S, okC c) ∧ w.heap.size ≤ mb ∧ MapN w' mb S.length (lvV S) ∧ Below w.heap.size w w'
/-- while levels are laid -/
structure LvO (w wr : World) (mb : Nat) (a : Option Addr) (c : Nat) (ss : List Cw) (q : Nat) : Prop where
  map : MapN wr mb q (lvV (cms (ss.take q)))
  row : OwnC wr w.heap.size a c ss
  each : ∀ v ∈ ss, CwOwn wr w.heap.size v
  lo : w.heap.size ≤ mb
  bel : Below w.heap.size w wr
theorem LvO.below {w wr w2 : World} {mb : Nat} {a : Option Addr} {c : Nat} {ss : List Cw} {q : Nat} (h : LvO w wr mb a c ss q) (hb : Below wr.heap.size wr w2) : LvO w w2 mb a c ss q :=
  ⟨h.map.below hb, h.row.below hb, fun v hv => (h.each v hv).below hb, h.lo, below2 h.bel hb h.bel.size⟩
theorem cms_take_snoc {ss : List Cw} {q : Nat} {v : Cw} (h : ss[q]? = some v) : cms (ss.take (q + 1)) = cms (ss.take q) ++ [v.c] := by rw [take_snoc' h]; simp [cms]
theorem lvV_snoc (S : List Cm) (c : Cm) (d : Dt) : lvV (S ++ [c]) d = if d = c.d then some (.int .i64 ((lvMax (lvF S) c.ps + 1 : Nat) : Int)) else lvV S d := by
  unfold lvV
  rw [lvF_snoc]
  unfold lvStep
  by_cases e : d = c.d
  · simp [e]
  · simp [e]
theorem LvO.step {w wr w2 : World} {mb : Nat} {a : Option Addr} {c : Nat} {ss : List Cw} {q : Nat} {v : Cw} (h : LvO w wr mb a c ss q) (hv : ss[q]? = some v)
    (hm : MapN w2 mb (q + 1) (fun d => if d = v.c.d then some (.int .i64 ((lvMax (lvF (cms (ss.take q))) v.c.ps + 1 : Nat) : Int)) else lvV (cms (ss.take q)) d)) (hc : Chg [mb] wr w2) : LvO w w2 mb a c ss (q + 1) := by
  have hn := noRow_map h.map
  refine ⟨hm.congr fun d _ => by rw [cms_take_snoc hv, lvV_snoc], h.row.chg hc (fun k hk hm => ?_), fun v hv => (h.each v hv).chg hc hn, h.lo, h.bel.trans (hc.below h.bel.size (by simpa using h.lo))⟩
  obtain ⟨C, fr, hh⟩ := ob_row h.row k hk
  obtain ⟨es, clock, h2⟩ := h.map.block
  simp at hm
  subst hm
  rw [hh] at h2; cases h2
theorem OwnC.ptr {w : World} {base : Nat} {a : Option Addr} {c : Nat} {M : List Cw} (h : OwnC w base a c M) (h0 : 0 < M.length) : ∃ g, a = some ⟨g, 0, none⟩ := by
  rcases h.2 with ⟨h1, h2⟩ | ⟨g, cap, cur, h1, _⟩
  · simp at h1; omega
  · simp at h1; exact ⟨g, h1.1⟩
theorem zeroInt (w : World) : (zeroValue 3).run Tryz.prog w = .ok (.int .i64 0) w := by kernel_rfl
theorem lv_look {w W : World} {mb n : Nat} {S : List Cm} (h : MapN w mb n (lvV S)) (hb : Below w.heap.size w W) {r i s : Int} (hd : okD ((r, i), s)) :
    (Instr.lookup 63 (.map (some mb)) (.agg #[.int .u8 r, .int .u32 i, .int .u64 s]) false).run Tryz.prog W = .ok (.int .i64 (((lvF S ((r, i), s)).getD 0 : Nat) : Int)) W := by
  rw [(h.below hb).look Tryz.underlying63 zeroInt hd, lvV]
  cases lvF S ((r, i), s) <;> rfl
theorem fresh_at {ss : List Cw} (hn : ((cms ss).map (·.d)).Nodup) {q : Nat} {v : Cw} (hv : ss[q]? = some v) : lvV (cms (ss.take q)) v.c.d = none := by
  unfold lvV
  rw [Option.map_eq_none_iff, lvF_none]
  intro c hc e
  obtain ⟨u, hu, rfl⟩ := List.mem_map.1 hc
  obtain ⟨i, hi⟩ := List.getElem?_of_mem hu
  rw [List.getElem?_take] at hi
  split at hi
  · rename_i hlt
    obtain ⟨h1, rfl⟩ := List.getElem?_eq_some_iff.1 hi
    obtain ⟨h2, rfl⟩ := List.getElem?_eq_some_iff.1 hv
    unfold cms at hn
    rw [List.map_map] at hn
    have h3 := List.pairwise_iff_getElem.1 hn i q (by simpa using h1) (by simpa using h2) hlt
    simp at h3
    exact h3 e
  · cases hi
set_option maxRecDepth 100000 in
set_option maxHeartbeats 8000000 in
theorem levOf_any (g : Value) (L : List Cm) (w : World) (h : Coms w g L) : Calls Tryz.prog 121 #[g] w (OfLTo w L) := by
  have hmm := @run_makeMap Tryz.prog
  have H := Lib.hid h
  clear h
  go_enter Tryz.func121, Tryz.ntmps121
  go_wp2_with fail
  refine (H.out.coms _ ((Below.refl _ _).alloc (Nat.le_refl _) _)).mono ?_
  rintro e w1 ⟨a, c, ss, rfl, hp, hs, ho, hc, hb⟩
  have hl : ss.length ≤ 200 := by have := hp.length_eq; unfold cms at this; rw [List.length_map] at this; have := H.out.max; omega
  have hn : ((cms ss).map (·.d)).Nodup := (hp.map _).nodup_iff.2 H.out.nodup
  have hE : LvO w w1 w.heap.size a c ss 0 := by
    obtain ⟨hx, hz, hB⟩ := new1 hb
    exact ⟨(MapN.made w).below hb, owns_base ho (by simp), fun v hv => (hc v hv).base (by simp), Nat.le_refl _, hB⟩
  have HE := Lib.hid hE
  have HP := Lib.hid hp
  have HS := Lib.hid hs
  have HN := Lib.hid hn
  clear hp hs ho hc hb hE hn
  go_wp2_with fail
  go_loopw [13] (fun j wr => ∃ q : Nat, q ≤ ss.length ∧ j = .int .i64 q ∧ LvO w wr w.heap.size a c ss q) (fun j _ => ss.length - (intOf j).toNat)
  case atStart => exact ⟨0, Nat.zero_le _, rfl, HE.out⟩
  case round =>
    obtain ⟨q, hq, rfl, hE⟩ := hrel
    have E := Lib.hid hE
    clear hE HE
    by_cases hlt : q < ss.length
    · obtain ⟨g, rfl⟩ := E.out.row.ptr (by omega)
      obtain ⟨v, hv⟩ : ∃ v, ss[q]? = some v := ⟨ss[q], by simp [hlt]⟩
      have hmem := List.mem_of_getElem? hv
      have HR := Lib.hid (E.out.row.range hv)
      have HA := Lib.hid (E.out.each v hmem).at_
      have HM := Lib.hid (H.out.may v.c (HP.out.mem_iff.1 (List.mem_map.2 ⟨v, hmem, rfl⟩)))
      have HF := Lib.hid (fresh_at HN.out hv)
      have hpl : v.c.ps.length ≤ 64 := HM.out.few
      have HV := Lib.hid hv
      clear hv hmem
      obtain ⟨⟨⟨⟨r, i⟩, s⟩, ps, uu, t, ⟨k, n, x, p, ds⟩⟩, qa, qc, ua, uc, pa, pc, da, dc⟩ := v
      dsimp only at hpl
      have B0 : Hid (BoxE 46 wr (wr.alloc (.cells (ccells r i s qa ps.length qc ua uu.length uc t k pa p.length pc n x da ds.length dc) 46)) (ccells r i s qa ps.length qc ua uu.length uc t k pa p.length pc n x da ds.length dc)) := Lib.hid ⟨heap_new _ _, (Below.refl _ _).alloc (Nat.le_refl _) _⟩
      go_wp2_with (refine wpList_load_cw rfl _ rfl g (q * 11) (by first | rfl | simp [Addr.add]) ⟨⟨((r, i), s), ps, uu, t, ⟨k, n, x, p, ds⟩⟩, qa, qc, ua, uc, pa, pc, da, dc⟩ HR.out ?_; simp only [cwcells])
      go_loopw [6, 20] (fun nv j wx => ∃ (z m : Nat), z ≤ ps.length ∧ j = .int .i64 z ∧ nv = .int .i64 (m : Nat) ∧ m ≤ 200 ∧ Hid (m = lvMax (lvF (cms (ss.take q))) (ps.take z)) ∧ BoxE 46 wr wx (ccells r i s qa ps.length qc ua uu.length uc t k pa p.length pc n x da ds.length dc)) (fun _ j _ => ps.length - (intOf j).toNat)
      case atStart => exact ⟨0, 0, Nat.zero_le _, rfl, rfl, by decide, Lib.hid rfl, B0.out⟩
      case round =>
        obtain ⟨z, m, hz, rfl, rfl, hm, HMx, hB⟩ := hrel
        have B := Lib.hid hB
        have d0 := cells_at hB.blk
        simp only [ccells] at d0
        have z0 := heap_lt hB.blk
        clear hB B0
        by_cases hlt2 : z < ps.length
        · obtain ⟨⟨⟨r', i'⟩, s'⟩, hx⟩ : ∃ y, ps[z]? = some y := ⟨ps[z], by simp [hlt2]⟩
          obtain ⟨ad, had, e0, e1, e2, hl0⟩ := (HA.out.ps.below B.out.bel).at hx
          subst had
          dsimp only at e0 e1 e2
          have hd : okD ((r', i'), s') := HA.out.ok.ps _ (List.mem_of_getElem? hx)
          have hW : Below wr.heap.size wr (wr.alloc (.cells #[.int .u8 r', .int .u32 i', .int .u64 s'] 41)) := (Below.refl _ _).alloc (Nat.le_refl _) _
          have HW := Lib.hid hW
          have l1 := lv_look (E.out.map.below B.out.bel) hW hd
          obtain ⟨u, hu⟩ : ∃ u, u = (lvF (cms (ss.take q)) ((r', i'), s')).getD 0 := ⟨_, rfl⟩
          rw [← hu] at l1
          have hub : u ≤ 200 := by
            rw [hu]
            cases hh : lvF (cms (ss.take q)) ((r', i'), s') with
            | none => simp
            | some y =>
              have := (lvF_le hh).2
              have h5 : (cms (ss.take q)).length ≤ ss.length := by unfold cms; rw [List.length_map, List.length_take]; omega
              simp; omega
          have HNx := Lib.hid (show max m u = lvMax (lvF (cms (ss.take q))) (ps.take (z + 1)) by rw [take_snoc' hx, lvMax_snoc, ← HMx.out, ← hu])
          clear hx hW hu hd
          go_wp2_with fail
          go_roundw
          case rel => exact ⟨z + 1, max m u, by omega, by go_num, congrArg (Value.int .i64) (by omega), by omega, HNx, B.out.step HW.out⟩
          case measure => simp [intOf]; omega
        · have hzz : z = ps.length := by omega
          have HMy := Lib.hid (show m = lvMax (lvF (cms (ss.take q))) ps by have := HMx.out; rwa [List.take_of_length_le (l := ps) (by omega)] at this)
          obtain ⟨w9, hr9, hm9, hc9⟩ := (E.out.map.below B.out.bel).update Tryz.underlying63 (by unfold maxLen; omega) HA.out.ok.d HF.out (.int .i64 ((m : Int) + 1))
          have HM9 := Lib.hid hm9
          have HC9 := Lib.hid hc9
          clear hm9 hc9 HMx
          go_wp2_with fail
          go_roundw
          case rel =>
            refine ⟨q + 1, by omega, by go_num, (E.out.below B.out.bel).step HV.out ?_ HC9.out⟩
            have h5 := HM9.out
            have e5 : ((m : Int) + 1) = ((lvMax (lvF (cms (ss.take q))) ps + 1 : Nat) : Int) := by rw [← HMy.out]; omega
            rw [e5] at h5
            exact h5
          case measure => simp [intOf]; omega
    · have hqe : q = ss.length := by omega
      subst hqe
      have HD := Lib.hid (show MapN wr w.heap.size (cms ss).length (lvV (cms ss)) from by
        have := E.out.map
        rw [List.take_length] at this
        unfold cms at this ⊢
        rwa [List.length_map])
      go_wp2_with fail
      go_ret
      exact ⟨w.heap.size, cms ss, rfl, HP.out, HS.out, fun c hc => by obtain ⟨v, hv, rfl⟩ := List.mem_map.1 hc; exact (E.out.each v hv).ok, Nat.le_refl _, HD.out, E.out.bel⟩
end Go.Proofs.YthdmoplclllhjaaGreat

/- LevQ -/
namespace Go.Proofs.YthdmoplclllhjaaGreat
open Go.RowKit
set_option linter.unusedVariables false
set_option linter.unusedSimpArgs false

def lA : Dt := ((0, 1), 1)
def lB : Dt := ((1, 1), 1)
def lC : Dt := ((2, 1), 1)
def lD : Dt := ((3, 1), 1)
def lO : Opn := ⟨1, 0, ⟨#[]⟩, [⟨#[97]⟩], []⟩
def mA : Cm := ⟨lA, [], [lA], 1, lO⟩
def mB : Cm := ⟨lB, [lA], [lA, lB], 2, lO⟩
def mC : Cm := ⟨lC, [lA], [lA, lC], 2, lO⟩
def mD : Cm := ⟨lD, [lB, lC], [lA, lB, lC, lD], 3, lO⟩
def mL : List Cm := [mA, mB, mC, mD]
theorem lO_may : MayOpn lO := by
  refine ⟨by decide, ⟨by decide, by decide, fun s hs => ?_⟩, by decide, by decide, fun _ => ⟨by decide, by decide, by decide, rfl⟩, fun h => absurd rfl h⟩
  simp [lO] at hs
  subst hs
  refine ⟨by decide, by decide, fun j hj => ?_⟩
  have : j = 0 := by have h2 : j < 1 := hj; omega
  subst this
  left; exact ⟨by show 97 ≤ (97 : UInt8).toNat; decide, by show (97 : UInt8).toNat ≤ 122; decide⟩
theorem mA_may : CmP mA := ⟨by decide, by decide, by decide, lO_may, by decide +kernel, by decide +kernel, by decide, ⟨List.Pairwise.nil, fun x hx => by cases hx⟩, ⟨List.Pairwise.nil, fun x hx => by cases hx⟩⟩
theorem mB_may : CmP mB := by
  refine ⟨by decide, by decide, by decide, lO_may, by decide +kernel, by decide +kernel, by decide, ⟨List.pairwise_singleton _ _, fun x hx => ?_⟩, ⟨List.Pairwise.nil, fun x hx => by cases hx⟩⟩
  simp [mB] at hx
  subst hx
  exact ⟨by decide, by decide +kernel⟩
theorem mC_may : CmP mC := by
  refine ⟨by decide, by decide, by decide, lO_may, by decide +kernel, by decide +kernel, by decide, ⟨List.pairwise_singleton _ _, fun x hx => ?_⟩, ⟨List.Pairwise.nil, fun x hx => by cases hx⟩⟩
  simp [mC] at hx
  subst hx
  exact ⟨by decide, by decide +kernel⟩
theorem ltBC : ltD lB lC := by unfold ltD; decide
theorem mD_may : CmP mD := by
  refine ⟨by decide, by decide, by decide, lO_may, by decide +kernel, by decide +kernel, by decide, ⟨?_, fun x hx => ?_⟩, ⟨List.Pairwise.nil, fun x hx => by cases hx⟩⟩
  · exact List.pairwise_cons.2 ⟨fun x hx => by simp at hx; subst hx; exact ltBC, List.pairwise_singleton _ _⟩
  · simp [mD] at hx
    rcases hx with rfl | rfl
    · exact ⟨by decide, by decide +kernel⟩
    · exact ⟨by decide, by decide +kernel⟩
theorem getN_two (a b : Dt) (x : Ac) : getN [a, b] x = max (getN [a] x) (getN [b] x) := getN_append [a] [b] x
theorem getN_three (a b c : Dt) (x : Ac) : getN [a, b, c] x = max (getN [a] x) (max (getN [b] x) (getN [c] x)) := by
  rw [show [a, b, c] = [a] ++ [b, c] from rfl, getN_append, getN_two]
theorem getN_four (a b c d : Dt) (x : Ac) : getN [a, b, c, d] x = max (getN [a] x) (max (getN [b] x) (max (getN [c] x) (getN [d] x))) := by
  rw [show [a, b, c, d] = [a] ++ [b, c, d] from rfl, getN_append, getN_three]
theorem knA (x : Ac) : knN [] (findC []) mA mA.ps x = getN mA.vv x := by
  show max (min (getN [lA] x) (getN [] x)) (getN [lA] x) = getN [lA] x
  have := (getN_bd [lA] x).1
  have h : getN [] x = 0 := rfl
  omega
theorem knB (x : Ac) : knN [] (findC [mA]) mB mB.ps x = getN mB.vv x := by
  show max (max (min (getN [lA, lB] x) (getN [] x)) (getN [lB, lA] x)) (getN [lA] x) = getN [lA, lB] x
  have := (getN_bd [lA] x).1
  have := (getN_bd [lB] x).1
  have h : getN [] x = 0 := rfl
  rw [getN_two, getN_two]
  omega
theorem knC (x : Ac) : knN [] (findC [mA, mB]) mC mC.ps x = getN mC.vv x := by
  show max (max (min (getN [lA, lC] x) (getN [] x)) (getN [lC, lA] x)) (getN [lA] x) = getN [lA, lC] x
  have := (getN_bd [lA] x).1
  have := (getN_bd [lC] x).1
  have h : getN [] x = 0 := rfl
  rw [getN_two, getN_two]
  omega
theorem knD (x : Ac) : knN [] (findC [mA, mB, mC]) mD mD.ps x = getN mD.vv x := by
  show max (max (max (min (getN [lA, lB, lC, lD] x) (getN [] x)) (getN [lD, lB, lC] x)) (getN [lA, lB] x)) (getN [lA, lC] x) = getN [lA, lB, lC, lD] x
  have := (getN_bd [lA] x).1
  have := (getN_bd [lB] x).1
  have := (getN_bd [lC] x).1
  have := (getN_bd [lD] x).1
  have h : getN [] x = 0 := rfl
  rw [getN_four, getN_three, getN_two, getN_two]
  omega
theorem mA_ok : insE [] (findC []) 0 mA = 0 :=
  insE_ok mA_may (hasG_nil _) ⟨fun p hp => (by cases hp), fun h => absurd h (by decide), fun x => Int.le_of_eq (knA x).symm⟩ ⟨fun x => Int.le_of_eq (knA x), ⟨.inl rfl, fun p hp => (by cases hp)⟩⟩ (by decide)
theorem mB_ok : insE [] (findC [mA]) 1 mB = 0 := by
  refine insE_ok mB_may (by decide +kernel) ⟨fun p hp => ?_, fun h => absurd h (by decide), fun x => Int.le_of_eq (knB x).symm⟩ ⟨fun x => Int.le_of_eq (knB x), ⟨.inl rfl, fun p hp y hy => ?_⟩⟩ (by decide)
  · simp [mB] at hp; subst hp; decide +kernel
  · simp [mB] at hp
    subst hp
    have e : findC [mA] lA = some mA := rfl
    rw [e] at hy
    cases hy
    exact ⟨fun q hq hne => (by simp [mB] at hq; exact absurd hq hne), by decide⟩
theorem mC_ok : insE [] (findC [mA, mB]) 2 mC = 0 := by
  refine insE_ok mC_may (by decide +kernel) ⟨fun p hp => ?_, fun h => absurd h (by decide), fun x => Int.le_of_eq (knC x).symm⟩ ⟨fun x => Int.le_of_eq (knC x), ⟨.inl rfl, fun p hp y hy => ?_⟩⟩ (by decide)
  · simp [mC] at hp; subst hp; decide +kernel
  · simp [mC] at hp
    subst hp
    have e : findC [mA, mB] lA = some mA := rfl
    rw [e] at hy
    cases hy
    exact ⟨fun q hq hne => (by simp [mC] at hq; exact absurd hq hne), by decide⟩
theorem mD_ok : insE [] (findC [mA, mB, mC]) 3 mD = 0 := by
  refine insE_ok mD_may (by decide +kernel) ⟨fun p hp => ?_, fun h => absurd h (by decide), fun x => Int.le_of_eq (knD x).symm⟩ ⟨fun x => Int.le_of_eq (knD x), ⟨.inl rfl, fun p hp y hy => ?_⟩⟩ (by decide)
  · simp [mD] at hp
    rcases hp with rfl | rfl <;> decide +kernel
  · simp [mD] at hp
    rcases hp with rfl | rfl
    · have e : findC [mA, mB, mC] lB = some mB := rfl
      rw [e] at hy
      cases hy
      refine ⟨fun q hq hne => ?_, by decide⟩
      simp [mD] at hq
      rcases hq with rfl | rfl
      · exact absurd rfl hne
      · decide +kernel
    · have e : findC [mA, mB, mC] lC = some mC := rfl
      rw [e] at hy
      cases hy
      refine ⟨fun q hq hne => ?_, by decide⟩
      simp [mD] at hq
      rcases hq with rfl | rfl
      · decide +kernel
      · exact absurd rfl hne
theorem mL_sorted : SortedC mL := by
  refine List.pairwise_cons.2 ⟨fun x hx => ?_, List.pairwise_cons.2 ⟨fun x hx => ?_, List.pairwise_cons.2 ⟨fun x hx => ?_, List.pairwise_singleton _ _⟩⟩⟩
  · simp at hx
    rcases hx with rfl | rfl | rfl <;> exact .inl (by decide)
  · simp at hx
    rcases hx with rfl | rfl
    · exact .inr ⟨rfl, by decide⟩
    · exact .inl (by decide)
  · simp at hx
    subst hx; exact .inl (by decide)
theorem mL_uniq {S : List Cm} (hp : S.Perm mL) (hs : SortedC S) : S = mL := rising_ext (lt := ltC) ltC_irrefl (fun h k => ltC_trans h k) hs mL_sorted fun a => hp.mem_iff
def lvI (d : Dt) : Option Nat := if d = lA then some 1 else if d = lB then some 2 else if d = lC then some 2 else if d = lD then some 3 else none
theorem lv_mL (d : Dt) : lvF mL d = lvI d := by
  have e1 : lvF [] = fun _ => none := rfl
  have e2 : ∀ d, lvF [mA] d = if d = lA then some 1 else none := fun d => rfl
  have e3 : ∀ d, lvF [mA, mB] d = if d = lB then some 2 else lvF [mA] d := fun d => by
    rw [show [mA, mB] = [mA] ++ [mB] from rfl, lvF_snoc]; rfl
  have e4 : ∀ d, lvF [mA, mB, mC] d = if d = lC then some 2 else lvF [mA, mB] d := fun d => by
    rw [show [mA, mB, mC] = [mA, mB] ++ [mC] from rfl, lvF_snoc]; rfl
  have e5 : ∀ d, lvF mL d = if d = lD then some 3 else lvF [mA, mB, mC] d := fun d => by
    rw [show mL = [mA, mB, mC] ++ [mD] from rfl, lvF_snoc]; rfl
  rw [e5, e4, e3, e2]
  unfold lvI
  by_cases hA : d = lA
  · subst hA; decide
  · by_cases hB : d = lB
    · subst hB; decide
    · by_cases hC : d = lC
      · subst hC; decide
      · rw [if_neg hA, if_neg hB, if_neg hC, if_neg hA, if_neg hB, if_neg hC]
/-- what levels are: sorted rows -/
structure LevP (g : Dt → Option Nat) (V : List (List Dt)) : Prop where
  rise : ∀ l ∈ V, l.Pairwise ltD
  on : ∀ i l, V[i]? = some l → ∀ d, d ∈ l ↔ g d = some (i + 1)
  top : ∀ d n, g d = some n → n ≤ V.length
  tight : V.length = 0 ∨ ∃ d, g d = some V.length
theorem LevP.known {V : List (List Dt)} (h : LevP (lvF mL) V) : V = [[lA], [lB, lC], [lD]] := by
  have hl : V.length = 3 := by
    have h1 := h.top lD 3 (by rw [lv_mL]; decide)
    rcases h.tight with h2 | ⟨d, h2⟩
    · omega
    · rw [lv_mL] at h2
      unfold lvI at h2
      split at h2
      · injection h2 with h2; omega
      · split at h2
        · injection h2 with h2; omega
        · split at h2
          · injection h2 with h2; omega
          · split at h2
            · injection h2 with h2; omega
            · cases h2
  match V, hl with
  | [r0, r1, r2], _ =>
    have e0 : r0 = [lA] := rising_ext (lt := ltD) ltD_irrefl (fun h k => ltD_trans h k) (h.rise _ (by simp)) (List.pairwise_singleton _ _) fun d => by
      rw [h.on 0 r0 rfl d, lv_mL]
      unfold lvI
      by_cases e : d = lA
      · subst e; simp
      · by_cases e2 : d = lB
        · subst e2; decide
        · by_cases e3 : d = lC
          · subst e3; decide
          · by_cases e4 : d = lD
            · subst e4; decide
            · simp [e, e2, e3, e4]
    have e1 : r1 = [lB, lC] := rising_ext (lt := ltD) ltD_irrefl (fun h k => ltD_trans h k) (h.rise _ (by simp)) (List.pairwise_cons.2 ⟨fun x hx => by simp at hx; subst hx; exact ltBC, List.pairwise_singleton _ _⟩) fun d => by
      rw [h.on 1 r1 rfl d, lv_mL]
      unfold lvI
      by_cases e : d = lA
      · subst e; decide
      · by_cases e2 : d = lB
        · subst e2; simp; decide
        · by_cases e3 : d = lC
          · subst e3; simp; decide
          · by_cases e4 : d = lD
            · subst e4; decide
            · simp [e, e2, e3, e4]
    have e2 : r2 = [lD] := rising_ext (lt := ltD) ltD_irrefl (fun h k => ltD_trans h k) (h.rise _ (by simp)) (List.pairwise_singleton _ _) fun d => by
      rw [h.on 2 r2 rfl d, lv_mL]
      unfold lvI
      by_cases e : d = lA
      · subst e; decide
      · by_cases e2 : d = lB
        · subst e2; decide
        · by_cases e3 : d = lC
          · subst e3; decide
          · by_cases e4 : d = lD
            · subst e4; simp; decide
            · simp [e, e2, e3, e4]
    subst e0 e1 e2
    rfl
/-- are two commits beside each other -/
def besideP (a b : Cm) : Bool := !hasV a.vv b.d && !hasV b.vv a.d
def pairsAt (S : List Cm) (k : Nat) : Nat := match S[k]? with | some a => ((S.take k).filter fun b => besideP a b).length | none => 0
/-- how many pairs are beside each other -/
def pairsP (S : List Cm) (k : Nat) : Nat := ((List.range k).map (pairsAt S)).sum
theorem pairs_mL : pairsP mL 4 = 1 := by decide +kernel
end Go.Proofs.YthdmoplclllhjaaGreat

/- LevR -/
namespace Go.Proofs.YthdmoplclllhjaaGreat
open Go.RowKit
set_option linter.unusedVariables false
set_option linter.unusedSimpArgs false

theorem lvFoldM (g : Dt → Option Nat) : ∀ (T : List Dt) (m : Nat), m ≤ T.foldl (fun n p => max n ((g p).getD 0)) m ∧ (∀ d ∈ T, ∀ n, g d = some n → n ≤ T.foldl (fun n p => max n ((g p).getD 0)) m) ∧
    (T.foldl (fun n p => max n ((g p).getD 0)) m = m ∨ ∃ d ∈ T, g d = some (T.foldl (fun n p => max n ((g p).getD 0)) m))
  | [], m => ⟨Nat.le_refl _, fun d hd => (by cases hd), .inl rfl⟩
  | p :: T, m => by
    obtain ⟨h1, h2, h3⟩ := lvFoldM g T (max m ((g p).getD 0))
    rw [List.foldl_cons]
    refine ⟨by omega, fun d hd n hn => ?_, ?_⟩
    · rcases List.mem_cons.1 hd with rfl | hd
      · rw [hn] at h1 ⊢
        simp only [Option.getD_some] at h1 ⊢
        omega
      · exact h2 d hd n hn
    · rcases h3 with h3 | ⟨d, hd, h3⟩
      · rw [h3]
        by_cases e : (g p).getD 0 ≤ m
        · left; omega
        · right
          cases hp : g p with
          | none => rw [hp] at e; simp at e
          | some n =>
            rw [hp] at e
            simp only [Option.getD_some] at e
            exact ⟨p, by simp, by rw [hp, Option.getD_some, Nat.max_eq_right (by omega)]⟩
      · exact .inr ⟨d, by simp [hd], h3⟩
theorem lvMax_ge {g : Dt → Option Nat} {T : List Dt} {d : Dt} {n : Nat} (hd : d ∈ T) (hg : g d = some n) : n ≤ lvMax g T := (lvFoldM g T 0).2.1 d hd n hg
theorem lvMax_has (g : Dt → Option Nat) (T : List Dt) : lvMax g T = 0 ∨ ∃ d ∈ T, g d = some (lvMax g T) := (lvFoldM g T 0).2.2
/-- rows of dots, and which of them are sorted -/
structure LvS (base : Nat) (w0 wr : World) (a : Option Addr) (c : Nat) (R0 R : List Rd) (q : Nat) : Prop where
  len : R.length = R0.length
  row : OwnL wr base a c R
  each : ∀ r ∈ R, OwnD wr base r.a r.c r.v
  apart : R.Pairwise (fun x y => ∀ k ∈ ob x.a, k ∉ ob y.a)
  same : ∀ i r0 r, R0[i]? = some r0 → R[i]? = some r → r.v.Perm r0.v ∧ (i < q → r.v.Pairwise fun x y => lessD y x = false)
  lo : base ≤ wr.heap.size
  bel : Below base w0 wr
theorem rdcells_at {R : List Rd} {i : Nat} {r : Rd} (h : R[i]? = some r) : (rdcells R)[i]? = some (.slice r.a r.v.length r.c) := by rw [rdcells_map, List.getElem?_map, h]; rfl
theorem LvS.sorted {base : Nat} {w0 wr w2 : World} {a : Option Addr} {c : Nat} {R0 R : List Rd} {q : Nat} {r : Rd} {v' : List Dt} (h : LvS base w0 wr a c R0 R q) (hr : R[q]? = some r) (hl : v'.length = r.v.length) (hp : v'.Perm r.v) (hs : v'.Pairwise fun x y => lessD y x = false)
    (ho : OwnD w2 base r.a r.c v') (hc : Chg (ob r.a) wr w2) : LvS base w0 w2 a c R0 (R.set q ⟨r.a, r.c, v'⟩) (q + 1) := by
  obtain ⟨hq, rfl⟩ := List.getElem?_eq_some_iff.1 hr
  have hmem := List.getElem_mem hq
  have hrow : OwnL w2 base a c R := owns_chg h.row hc (fun k hk hk2 => owns_dif h.row (h.each _ hmem) sd_ne k hk hk2)
  have hold : ∀ j y, R[j]? = some y → j ≠ q → OwnD w2 base y.a y.c y.v := fun j y hy hj => owns_chg (h.each y (List.mem_of_getElem? hy)) hc (pairwise_apart h.apart hy hr hj)
  refine ⟨by rw [List.length_set]; exact h.len, ?_, fun y hy => ?_, ?_, fun i r0 y h0 hy => ?_, Nat.le_trans h.lo hc.size, h.bel.trans (hc.below h.lo (fun k hk => (owns_lt (h.each _ hmem) k hk).1))⟩
  · have e : rdcells (R.set q ⟨R[q].a, R[q].c, v'⟩) = rdcells R := by
      rw [rdcells_map, rdcells_map, List.map_set]
      dsimp only
      rw [hl]
      apply List.ext_getElem?
      intro k
      rw [List.getElem?_set, List.getElem?_map]
      by_cases e : q = k
      · subst e; simp [hq]
      · rw [if_neg e]
    unfold OwnL
    rw [List.length_set, e]
    exact hrow
  · obtain ⟨j, hj⟩ := List.getElem?_of_mem hy
    rw [List.getElem?_set] at hj
    by_cases e : q = j
    · subst e
      rw [if_pos rfl, if_pos hq] at hj
      cases hj; exact ho
    · rw [if_neg e] at hj
      exact hold j y hj (fun e' => e e'.symm)
  · rw [List.pairwise_iff_getElem]
    intro j k hj hk hjk
    simp only [List.length_set] at hj hk
    have e : ∀ i (hi : i < R.length), ((R.set q ⟨R[q].a, R[q].c, v'⟩)[i]'(by simpa using hi)).a = R[i].a := fun i hi => by
      rw [List.getElem_set]
      by_cases e : q = i
      · subst e; rw [if_pos rfl]
      · rw [if_neg e]
    rw [e j hj, e k hk]
    exact List.pairwise_iff_getElem.1 h.apart j k hj hk hjk
  · rw [List.getElem?_set] at hy
    by_cases e : q = i
    · subst e
      rw [if_pos rfl, if_pos hq] at hy
      cases hy
      have h1 := (h.same q r0 _ h0 hr).1
      exact ⟨hp.trans h1, fun _ => hs⟩
    · rw [if_neg e] at hy
      have h1 := h.same i r0 y h0 hy
      exact ⟨h1.1, fun hi => h1.2 (by omega)⟩
theorem LvS.start {base : Nat} {wr : World} {a : Option Addr} {c : Nat} {R : List Rd} (h1 : OwnL wr base a c R) (h2 : ∀ r ∈ R, OwnD wr base r.a r.c r.v) (h3 : R.Pairwise (fun x y => ∀ k ∈ ob x.a, k ∉ ob y.a)) (hb : base ≤ wr.heap.size) : LvS base wr wr a c R R 0 :=
  ⟨rfl, h1, h2, h3, fun i r0 r e1 e2 => by rw [e1] at e2; cases e2; exact ⟨.refl _, fun h => absurd h (Nat.not_lt_zero _)⟩, hb, (Below.refl _ _).mono hb⟩
/-- all dots of the levels, on their rows, each row sorted -/
theorem levP_of {base : Nat} {w wr w2 wr2 : World} {a a2 : Option Addr} {c c2 : Nat} {R0 R : List Rd} {g : Dt → Option Nat} {T : List Dt} (hE : LvE w wr a c R0 g T) (hn : T.Nodup) (hT : ∀ d, d ∈ T ↔ (g d).isSome) (ht : R0.length = lvMax g T)
    (h1 : ∀ d n, g d = some n → 1 ≤ n) (hS : LvS base w2 wr2 a2 c2 R0 R R0.length) : LevP g (R.map (·.v)) := by
  have hrow : ∀ (i : Nat) (l : List Dt), (R.map (·.v))[i]? = some l → l.Perm (onLv g T i) ∧ l.Pairwise fun x y => lessD y x = false := by
    intro i l hl
    rw [List.getElem?_map, Option.map_eq_some_iff] at hl
    obtain ⟨r, hr, rfl⟩ := hl
    have hi : i < R0.length := by have := (List.getElem?_eq_some_iff.1 hr).1; rw [hS.len] at this; exact this
    have h0 := List.getElem?_eq_getElem hi
    have h3 := hS.same i _ _ h0 hr
    rw [hE.on i _ h0] at h3
    exact ⟨h3.1, h3.2 hi⟩
  refine ⟨fun l hl => ?_, fun i l hl d => ?_, fun d n hd => ?_, ?_⟩
  · obtain ⟨i, hi⟩ := List.getElem?_of_mem hl
    obtain ⟨h3, h4⟩ := hrow i l hi
    exact strict_of h4 (h3.nodup_iff.2 (hn.filter _))
  · rw [(hrow i l hl).1.mem_iff]
    unfold onLv
    rw [List.mem_filter, hT]
    constructor
    · rintro ⟨_, h⟩; simpa using h
    · intro h; exact ⟨by rw [h]; rfl, by simpa using h⟩
  · rw [List.length_map, hS.len, ht]
    exact lvMax_ge ((hT d).2 (by rw [hd]; rfl)) hd
  · rw [List.length_map, hS.len, ht]
    rcases lvMax_has g T with h | ⟨d, _, h⟩
    · exact .inl h
    · exact .inr ⟨d, h⟩
end Go.Proofs.YthdmoplclllhjaaGreat
