/- The law's rows and stable (varvelaw17): they write over what is told. -/
import Derived.Test.YtblahapjdgncfaaMatM
import Derived.Test.YtblahapjdgncfaaEpoG
import Derived.Laws.OwnMore
namespace Go.Proofs.Ytblahapjdgncfaa
open Go.RowKit
set_option linter.unusedVariables false
set_option linter.unusedSimpArgs false

theorem dcells_set : ∀ (u : List Dt) (k : Nat) (d : Dt) (y : Int), u[k]? = some d → dcells (u.set k (d.1, y)) = (dcells u).set (k * 3 + 2) (.int .u64 y)
  | [], k, d, y, h => by simp at h
  | x :: u, 0, d, y, h => by simp at h; subst h; rfl
  | x :: u, k + 1, d, y, h => by
    simp at h
    have ih := dcells_set u k d y h
    show dcell x ++ dcells (u.set k (d.1, y)) = (dcell x ++ dcells u).set ((k + 1) * 3 + 2) _
    rw [ih, List.set_append_right _ _ (by simp [dcell]; omega)]
    congr 2
    simp [dcell]; omega
/-- n dots of its own, whatever they are -/
def OwnN (wr : World) (s : Nat) (a : Option Addr) (n c : Nat) : Prop := ∃ u : List Dt, u.length = n ∧ wr.ownsRow s 34 3 (.slice a n c) n (dcells u)
structure PutN (wr : World) (s g : Nat) (n c k : Nat) (x : Int) : Prop where
  lo : s ≤ g
  hi : g < wr.heap.size
  rd : wr.cell? ⟨g, k * 3 + 2, none⟩ = some (.int .u64 x)
  fr : wr.frozen? ⟨g, k * 3 + 2, none⟩ = false
  put : ∀ y, OwnN (wr.setCell ⟨g, k * 3 + 2, none⟩ (.int .u64 y)) s (some ⟨g, 0, none⟩) n c
theorem OwnN.at {wr : World} {s : Nat} {a : Option Addr} {n c k : Nat} (h : OwnN wr s a n c) (hk : k < n) : ∃ g x, a = some ⟨g, 0, none⟩ ∧ PutN wr s g n c k x := by
  obtain ⟨u, hu, ho⟩ := h
  obtain ⟨d, hd⟩ : ∃ d, u[k]? = some d := ⟨u[k], by simp [hu, hk]⟩
  rcases ho.2 with ⟨h2, h3⟩ | ⟨g, cap, cur, h2, hb, hg, hn, hc, hs, ht⟩
  · simp at h2; omega
  · simp at h2
    obtain ⟨rfl, rfl⟩ := h2
    have c2 := ho.cells (g := g) rfl (k * 3 + 2) (.int .u64 d.2) (by simpa [dcell] using dcells_at hd 2 (by omega))
    have hadd : (⟨g, 0, none⟩ : Addr).add (k * 3 + 2) = ⟨g, k * 3 + 2, none⟩ := by unfold Addr.add; split <;> simp_all
    rw [hadd] at c2
    refine ⟨g, d.2, rfl, hb, heap_lt hg, ?_, ho.frozenAt _, fun y => ⟨u.set k (d.1, y), by simp [hu], ?_⟩⟩
    · exact c2
    · rw [dcells_set u k d y hd]; exact (ho.stored _ _).1
theorem OwnN.of {wr : World} {s : Nat} {a : Option Addr} {c : Nat} {v : List Dt} (h : wr.ownsRow s 34 3 (.slice a v.length c) v.length (dcells v)) : OwnN wr s a v.length c := ⟨v, rfl, h⟩
theorem OwnN.chg {w w' : World} {F : List Nat} {s : Nat} {a : Option Addr} {n c : Nat} (h : OwnN w s a n c) (hc : Chg F w w') (hF : ∀ k ∈ F, k < s) : OwnN w' s a n c := by
  obtain ⟨u, hu, ho⟩ := h
  exact ⟨u, hu, owns_chg ho hc (fun k hk hg => by have := (owns_lt ho k hk).1; have := hF k hg; omega)⟩

set_option maxRecDepth 100000 in
set_option maxHeartbeats 4000000 in
theorem stable17_any (a : Option Addr) (c : Nat) (l : List Int) (pm pw n : Nat) (L : List Ak) (F G : Nat → Prop) (w : World) (hM : MatR w F pm n (RL L)) (hW : RefR w G pw n L) (hL : L.length ≤ 1000) (hr : ∀ a ∈ L, okA (a.r, a.i)) (hR : okR n (RL L)) (hi : U32 w a c l) (hl : l.length ≤ 1000000) :
    Calls Try.prog 49 #[.pointer (some ⟨pm, 0, none⟩), .pointer (some ⟨pw, 0, none⟩), .slice a l.length c] w fun e w' => e = .returned (.bool true) ∧ Below w.heap.size w w' := by
  have HM := Lib.hid hM
  have HW := Lib.hid hW
  have Hr := Lib.hid hr
  have Hi := Lib.hid hi
  clear hM hW hr hi
  go_enter Try.func49, Try.ntmps49
  go_wp2_with fail
  refine (stable_any a c l pm n (RL L) F w HM.out hR Hi.out hl).mono ?_
  rintro e w1 h1
  obtain ⟨o, ho⟩ : ∃ o, stableM n (RL L) l = o := ⟨_, rfl⟩
  rw [ho] at h1
  rcases h1 with ⟨rfl, rfl, hb1⟩ | ⟨v, rfl, a1, c1, rfl, ho1, hb1⟩
  · have HB1 := Lib.hid hb1
    clear hb1
    go_wp2_with fail
    refine (rstable_any a c l pw n L G _ (HW.out.below HB1.out) hL Hr.out hR (Hi.out.below HB1.out) hl).mono ?_
    rintro e w2 h2
    rw [ho] at h2
    rcases h2 with ⟨_, rfl, hb2⟩ | ⟨v, hv, _⟩
    case inr => cases hv
    have HB2 := Lib.hid (HB1.out.trans (hb2.mono HB1.out.size))
    clear hb2 ho HB1
    go_wp2_with fail
    refine (same_any none none 0 0 [] [] _ (Sl.nil _ _) (Sl.nil _ _) (by simp) (by simp)).mono ?_
    rintro e w3 ⟨rfl, hb3⟩
    have HB3 := Lib.hid (HB2.out.trans (hb3.mono HB2.out.size))
    clear hb3 HB2
    go_wp2_with fail
    go_loopw [35] (fun j wr => j = .int .i64 0 ∧ wr = w3) (fun _ _ => 0)
    case atStart => exact ⟨rfl, rfl⟩
    case round =>
      obtain ⟨rfl, rfl⟩ := hrel
      go_wp2_with fail
      go_ret
      exact ⟨rfl, HB3.out⟩
  · have hs0 := hb1.size
    obtain ⟨ov, hv64⟩ := stable_ok hR ho
    have HB1 := Lib.hid hb1
    have Ho1 := Lib.hid ho1
    clear hb1 ho1
    go_wp2_with fail
    refine (rstable_any a c l pw n L G _ (HW.out.below HB1.out) hL Hr.out hR (Hi.out.below HB1.out) hl).mono ?_
    rintro e w2 h2
    rw [ho] at h2
    rcases h2 with ⟨hv, _⟩ | ⟨v', hv, a2, c2, rfl, ho2, hb2⟩
    case inl => cases hv
    obtain rfl : v = v' := Option.some.inj hv
    have HB2 := Lib.hid (HB1.out.trans (hb2.mono HB1.out.size))
    have Ho1b := Lib.hid (owns_chg (F := []) Ho1.out (Chg.of_below hb2) (by simp))
    have Ho2 := Lib.hid ho2
    clear hb2 ho HB1 ho2 Ho1 hv
    go_wp2_with fail
    refine (same_any a1 a2 c1 c2 v v _ (vec_of Ho1b.out) (vec_of Ho2.out) (by omega) (by omega)).mono ?_
    rintro e w3 ⟨rfl, hb3⟩
    rw [decide_eq_true (rfl : v = v)]
    have HB3 := Lib.hid (HB2.out.trans (hb3.mono HB2.out.size))
    have HN := Lib.hid (OwnN.of (owns_chg (F := []) Ho1b.out (Chg.of_below hb3) (by simp)))
    clear hb3 HB2 Ho1b Ho2
    generalize v.length = m at *
    go_wp2_with fail
    go_loopw [35] (fun j wr => ∃ k : Nat, k ≤ m ∧ j = .int .i64 k ∧ Hid (OwnN wr w.heap.size a1 m c1) ∧ Hid (Below w.heap.size w wr)) (fun j _ => m - (intOf j).toNat)
    case atStart => exact ⟨0, Nat.zero_le _, rfl, HN, HB3⟩
    case round =>
      obtain ⟨k, hk, rfl, HN, HB⟩ := hrel
      clear HB3
      by_cases hkm : k < m
      · obtain ⟨g, x, rfl, hp⟩ := HN.out.at hkm
        have HP := Lib.hid hp
        obtain ⟨p1, p2, p3, p4, _⟩ := hp
        go_wp2_with fail
        go_roundw
        case rel => exact ⟨k + 1, by omega, by go_num, Lib.hid (HP.out.put _), Lib.hid (HB.out.setCell p1 _)⟩
        case measure => simp [intOf]; omega
      · go_wp2_with fail
        go_ret
        exact ⟨rfl, HB.out⟩
theorem rowM_RL {n : Nat} {L : List Ak} (hR : okR n (RL L)) (hr : ∀ a ∈ L, okA (a.r, a.i)) (r : Int) : rowM n (RL L) r = rowL L r := by
  unfold rowM
  by_cases h : 0 ≤ r ∧ r < n
  · rw [if_pos h]
    show rowL L (r.toNat : Nat) = _
    rw [Int.toNat_of_nonneg h.1]
  · rw [if_neg h]
    cases he : rowL L r with
    | none => rfl
    | some a =>
      exfalso
      by_cases h0 : 0 ≤ r
      · have := (hR r.toNat a (by show rowL L (r.toNat : Nat) = _; rw [Int.toNat_of_nonneg h0]; exact he)).1
        omega
      · have hm : a ∈ L := by unfold rowL at he; have := List.mem_of_find?_eq_some he; simpa using this
        have h1 : (a.r == r) = true := by unfold rowL at he; exact List.find?_some (p := fun a : Ak => a.r == r) he
        have h2 := (hr a hm).1.1
        have h3 : a.r = r := by simpa using h1
        dsimp only at h2
        omega
theorem rowL_ok {n : Nat} {L : List Ak} (hR : okR n (RL L)) (hr : ∀ a ∈ L, okA (a.r, a.i)) (hn : n ≤ 16) {r : Int} {o : Ak} (h : rowL L r = some o) : o.vv.length ≤ 64 ∧ o.incs.length ≤ 16 := by
  rw [← rowM_RL hR hr] at h
  unfold rowM at h
  split at h
  · have := hR _ _ h
    have h1 := ((mayIncs_iff o.incs n).1 this.2.2.2.2.1).2.2.1
    exact ⟨by rw [← this.2.2.2.2.2]; exact vecOf_length _, by omega⟩
  · cases h
set_option maxHeartbeats 2000000 in
theorem rsameK_any (a : Ak) (ai bi av bv : Option Addr) (ci di cv dv : Nat) (w : World) (h1 : U32 w ai ci a.incs) (h2 : U32 w bi di a.incs) (h3 : Vec w av cv a.vv) (h4 : Vec w bv dv a.vv) (hn : a.incs.length ≤ 1000000) (hm : a.vv.length ≤ 1000000) :
    Calls Try.prog 77 #[.agg #[.int .u8 a.r, .int .u32 a.i, .slice ai a.incs.length ci, .slice av a.vv.length cv], .agg #[.int .u8 a.r, .int .u32 a.i, .slice bi a.incs.length di, .slice bv a.vv.length dv]] w fun e w' => e = .returned (.bool true) ∧ Below w.heap.size w w' := by
  have H1 := Lib.hid h1
  have H2 := Lib.hid h2
  have H3 := Lib.hid h3
  have H4 := Lib.hid h4
  clear h1 h2 h3 h4
  go_enter Try.func77, Try.ntmps77
  go_wp2_with fail
  refine (rsameI_any ai bi ci di a.incs a.incs _ (H1.out.below ?b1) (H2.out.below ?b2) hn hn).mono ?_
  case b1 => exact ((Below.refl _ _).alloc (Nat.le_refl _) _).alloc (by simp) _
  case b2 => exact ((Below.refl _ _).alloc (Nat.le_refl _) _).alloc (by simp) _
  rintro e w1 ⟨rfl, hb1⟩
  rw [decide_eq_true (rfl : a.incs = a.incs)]
  obtain ⟨hx0, hx1, hz, hB1⟩ := new2 hb1
  have HB1 := Lib.hid hB1
  have d0 := cells_at hx0
  have d1 := cells_at hx1
  clear hb1 hx0 hx1 hB1
  go_wp2_with fail
  refine (same_any av bv cv dv a.vv a.vv _ (H3.out.below HB1.out) (H4.out.below HB1.out) hm hm).mono ?_
  rintro e w2 ⟨rfl, hb2⟩
  rw [decide_eq_true (rfl : a.vv = a.vv)]
  have HB2 := Lib.hid (HB1.out.trans (hb2.mono HB1.out.size))
  clear hb2 d0 d1
  go_wp2_with fail
  go_ret
  exact ⟨rfl, HB2.out⟩

/-- the rest of a round of 'rows': what was told is written over -/
structure RowsE (w wr : World) (F G : Nat → Prop) (pm pw n : Nat) (L : List Ak) : Prop where
  mat : MatR wr F pm n (RL L)
  ref : RefR wr G pw n L
  below : Below w.heap.size w wr
theorem RowsE.step {w wr w' : World} {F G : Nat → Prop} {pm pw n : Nat} {L : List Ak} (h : RowsE w wr F G pm pw n L) (hb : Below wr.heap.size wr w') : RowsE w w' F G pm pw n L :=
  ⟨h.mat.below hb, h.ref.below hb, h.below.trans (hb.mono h.below.size)⟩

set_option maxRecDepth 100000 in
set_option maxHeartbeats 8000000 in
theorem rows_any (pm pw n : Nat) (L : List Ak) (F G : Nat → Prop) (w : World) (hM : MatR w F pm n (RL L)) (hW : RefR w G pw n L) (hL : L.length ≤ 1000) (hr : ∀ a ∈ L, okA (a.r, a.i)) (hR : okR n (RL L)) (hn : n ≤ 16) :
    Calls Try.prog 48 #[.pointer (some ⟨pm, 0, none⟩), .pointer (some ⟨pw, 0, none⟩), .int .i64 n] w fun e w' => e = .returned (.bool true) ∧ Below w.heap.size w w' := by
  have HE := Lib.hid (⟨hM, hW, Below.refl _ _⟩ : RowsE w w F G pm pw n L)
  have Hr := Lib.hid hr
  clear hM hW hr
  go_enter Try.func48, Try.ntmps48
  go_wp2_with fail
  go_loopw [7] (fun j wr => ∃ k : Nat, k ≤ n + 2 ∧ j = .int .i64 ((k : Int) - 1) ∧ Hid (RowsE w wr F G pm pw n L)) (fun j _ => n + 2 - (intOf j + 1).toNat)
  case atStart => exact ⟨0, by omega, rfl, HE⟩
  case round =>
    obtain ⟨k, hk, rfl, E⟩ := hrel
    clear HE
    by_cases hkn : k < n + 2
    · have hle : decide (((k : Int) - 1) ≤ (n : Int)) = true := by simp; omega
      go_wp2_with fail
      refine (row_any ((k : Int) - 1) pm n (RL L) F _ E.out.mat hR).mono ?_
      rw [rowM_RL hR Hr.out]
      rintro e w1 h1
      obtain ⟨ro, hro⟩ : ∃ ro, rowL L ((k : Int) - 1) = ro := ⟨_, rfl⟩
      rw [hro] at h1
      rcases h1 with ⟨rfl, rfl, hb1⟩ | ⟨o, rfl, a3, c3, a4, c4, rfl, ho3, ho4, hb1⟩
      · replace E := Lib.hid (E.out.step hb1)
        clear hb1
        go_upto_region 5 with (fail)
        have hba := (Below.refl _ w1).alloc (Nat.le_refl _) (.cells #[.int .u8 0, .int .u32 0, .slice none 0 0, .slice none 0 0] 51)
        have hx1 := heap_new w1 (.cells #[.int .u8 0, .int .u32 0, .slice none 0 0, .slice none 0 0] 51)
        replace E := Lib.hid (E.out.step hba)
        clear hba
        generalize w1.alloc (.cells #[.int .u8 0, .int .u32 0, .slice none 0 0, .slice none 0 0] 51) = w2 at *
        generalize w1.heap.size = b1 at *
        go_wp2_with fail
        refine (rrow_any ((k : Int) - 1) pw n L G _ E.out.ref hL Hr.out).mono ?_
        rintro e w3 h3
        rw [hro] at h3
        rcases h3 with ⟨_, rfl, hb3⟩ | ⟨o, hno, _⟩
        case inr => cases hno
        replace hx1 := (hb3.block _ (heap_lt hx1)).trans hx1
        replace E := Lib.hid (E.out.step hb3)
        clear hb3 hro
        go_upto_region 6 with (fail)
        have hba := (Below.refl _ w3).alloc (Nat.le_refl _) (.cells #[.int .u8 0, .int .u32 0, .slice none 0 0, .slice none 0 0] 51)
        replace hx1 := (hba.block _ (heap_lt hx1)).trans hx1
        replace E := Lib.hid (E.out.step hba)
        clear hba
        generalize w3.alloc (.cells #[.int .u8 0, .int .u32 0, .slice none 0 0, .slice none 0 0] 51) = w4 at *
        have d1 := cells_at hx1
        go_wp2_with fail
        go_loopw [65] (fun j wr => j = .int .i64 0 ∧ wr = w4) (fun _ _ => 0)
        case atStart => exact ⟨rfl, rfl⟩
        case round =>
          obtain ⟨rfl, rfl⟩ := hrel
          go_wp2_with fail
          go_roundw
          case rel => exact ⟨k + 1, by omega, by go_num, E⟩
          case measure => simp [intOf]; omega
      · have hlen := rowL_ok hR Hr.out hn hro
        have hs0 := E.out.below.size
        have E0 := Lib.hid E.out
        have hob := owns_lt ho4
        have Ho3 := Lib.hid ho3
        have Ho4 := Lib.hid ho4
        have Hbr := Lib.hid hb1
        have hsr := hb1.size
        replace E := Lib.hid (E.out.step hb1)
        clear hb1 ho3 ho4
        go_upto_region 5 with (fail)
        have hba := (Below.refl _ w1).alloc (Nat.le_refl _) (.cells #[.int .u8 o.r, .int .u32 o.i, .slice a3 o.incs.length c3, .slice a4 o.vv.length c4] 51)
        have hx1 := heap_new w1 (.cells #[.int .u8 o.r, .int .u32 o.i, .slice a3 o.incs.length c3, .slice a4 o.vv.length c4] 51)
        replace E := Lib.hid (E.out.step hba)
        replace Hbr := Lib.hid (Hbr.out.trans (hba.mono hsr))
        replace Ho3 := Lib.hid (owns_chg (F := []) Ho3.out (Chg.of_below hba) (by simp))
        replace Ho4 := Lib.hid (owns_chg (F := []) Ho4.out (Chg.of_below hba) (by simp))
        clear hba
        generalize w1.alloc (.cells #[.int .u8 o.r, .int .u32 o.i, .slice a3 o.incs.length c3, .slice a4 o.vv.length c4] 51) = w2 at *
        generalize w1.heap.size = b1 at *
        go_wp2_with fail
        refine (rrow_any ((k : Int) - 1) pw n L G _ E.out.ref hL Hr.out).mono ?_
        rintro e w3 h3
        rw [hro] at h3
        rcases h3 with ⟨hno, _⟩ | ⟨o', hoo, ai, ci, av, cv, rfl, hu3, hv3, hb3⟩
        case inl => cases hno
        obtain rfl : o = o' := Option.some.inj hoo
        replace hx1 := (hb3.block _ (heap_lt hx1)).trans hx1
        replace E := Lib.hid (E.out.step hb3)
        replace Hbr := Lib.hid (Hbr.out.trans (hb3.mono Hbr.out.size))
        replace Ho3 := Lib.hid (owns_chg (F := []) Ho3.out (Chg.of_below hb3) (by simp))
        replace Ho4 := Lib.hid (owns_chg (F := []) Ho4.out (Chg.of_below hb3) (by simp))
        have Hu3 := Lib.hid hu3
        have Hv3 := Lib.hid hv3
        clear hb3 hro hoo hu3 hv3
        go_upto_region 6 with (fail)
        have hba := (Below.refl _ w3).alloc (Nat.le_refl _) (.cells #[.int .u8 o.r, .int .u32 o.i, .slice ai o.incs.length ci, .slice av o.vv.length cv] 51)
        have hx2 := heap_new w3 (.cells #[.int .u8 o.r, .int .u32 o.i, .slice ai o.incs.length ci, .slice av o.vv.length cv] 51)
        replace hx1 := (hba.block _ (heap_lt hx1)).trans hx1
        replace E := Lib.hid (E.out.step hba)
        replace Hbr := Lib.hid (Hbr.out.trans (hba.mono Hbr.out.size))
        replace Ho3 := Lib.hid (owns_chg (F := []) Ho3.out (Chg.of_below hba) (by simp))
        replace Ho4 := Lib.hid (owns_chg (F := []) Ho4.out (Chg.of_below hba) (by simp))
        replace Hu3 := Lib.hid (Hu3.out.below hba)
        replace Hv3 := Lib.hid (Hv3.out.below hba)
        clear hba
        generalize w3.alloc (.cells #[.int .u8 o.r, .int .u32 o.i, .slice ai o.incs.length ci, .slice av o.vv.length cv] 51) = w4 at *
        generalize w3.heap.size = b2 at *
        have d1 := cells_at hx1
        have d2 := cells_at hx2
        go_wp2_with fail
        refine (rsameK_any o a3 ai a4 av c3 ci c4 cv _ (u32_of Ho3.out) Hu3.out (vec_of Ho4.out) Hv3.out (by omega) (by omega)).mono ?_
        rintro e w5 ⟨rfl, hb5⟩
        replace hx1 := (hb5.block _ (heap_lt hx1)).trans hx1
        replace E := Lib.hid (E.out.step hb5)
        replace Hbr := Lib.hid (Hbr.out.trans (hb5.mono Hbr.out.size))
        have HN := Lib.hid (OwnN.of (owns_chg (F := []) Ho4.out (Chg.of_below hb5) (by simp)))
        clear hb5 d1 d2 hx2 Ho3 Ho4 Hu3 Hv3
        have d1 := cells_at hx1
        have Hx1 := Lib.hid hx1
        clear hx1
        go_wp2_with fail
        clear d1
        go_loopw [65] (fun j wr2 => ∃ k2 : Nat, k2 ≤ o.vv.length ∧ j = .int .i64 k2 ∧ Hid (OwnN wr2 wr.heap.size a4 o.vv.length c4) ∧ Hid (Below wr.heap.size w5 wr2) ∧ Hid (wr2.heap[b1]? = some (.cells #[.int .u8 o.r, .int .u32 o.i, .slice a3 o.incs.length c3, .slice a4 o.vv.length c4] 51 (0, 0)))) (fun j _ => o.vv.length - (intOf j).toNat)
        case atStart => exact ⟨0, Nat.zero_le _, rfl, HN, Lib.hid (Below.refl _ _), Hx1⟩
        case round =>
          obtain ⟨k2, hk2, rfl, HN2, HBb, HX2⟩ := hrel
          have d1 := cells_at HX2.out
          by_cases hkm : k2 < o.vv.length
          · obtain ⟨g, x, rfl, hp⟩ := HN2.out.at hkm
            have HP := Lib.hid hp
            obtain ⟨p1, p2, p3, p4, _⟩ := hp
            have hgb := (hob g (by simp [ob])).2
            have hne : ¬ g = b1 := by omega
            go_wp2_with fail
            go_roundw
            case rel => exact ⟨k2 + 1, by omega, by go_num, Lib.hid (HP.out.put _), Lib.hid (HBb.out.setCell p1 _), Lib.hid (heap_chg HX2.out (Chg.setCell _ ⟨g, k2 * 3 + 2, none⟩ _) (by simp; omega))⟩
            case measure => simp [intOf]; omega
          · go_wp2_with fail
            go_roundw
            case rel => exact ⟨k + 1, by omega, by go_num, Lib.hid (E0.out.step (Hbr.out.trans HBb.out))⟩
            case measure => simp [intOf]; omega
    · have hle : decide (((k : Int) - 1) ≤ (n : Int)) = false := by simp; omega
      go_wp2_with fail
      go_ret
      exact ⟨rfl, E.out.below⟩
end Go.Proofs.Ytblahapjdgncfaa
