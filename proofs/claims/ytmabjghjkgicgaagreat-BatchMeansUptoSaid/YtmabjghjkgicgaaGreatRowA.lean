/- The reference's tree.Rows. | The reference's tree.Names. -/
import Derived.Test.YtmabjghjkgicgaaGreatAskA
/- RowA -/
namespace Go.Proofs.YtmabjghjkgicgaaGreat
open Go.RowKit
set_option linter.unusedVariables false
set_option linter.unusedSimpArgs false

theorem held_of_cell39 {w w' : World} {F : List Nat} {p : Addr} {v : Value} (hc : w.cell? p = some v) (hC : Chg F w w') (hn : p.block ∉ F) : Held (fun q => q = p.block) w w' := by
  refine .inr fun k o hk ho => ?_
  have hk' : k = p.block := hk
  subst hk'
  refine ⟨fun at_ u e => ?_, heap_chg ho hC hn⟩
  subst e
  unfold World.cell? at hc
  rw [ho] at hc
  cases hc
/-- a row that reads so: its path is the call's own, its leaf is of old -/
def RwAt (Q : Lv → Prop) (w0 : World) (base : Nat) (W : World) (r : Rw) : Prop := OwnS W base r.pa r.pc r.p ∧ LvRd w0 r.v ∧ r.p.length ≤ 20 ∧ Q r.v
theorem RwAt.below {Q : Lv → Prop} {w0 W W' : World} {base : Nat} {r : Rw} (h : RwAt Q w0 base W r) (hb : Below W.heap.size W W') : RwAt Q w0 base W' r := ⟨h.1.below hb, h.2⟩
theorem RwAt.base {Q : Lv → Prop} {w0 W : World} {base base' : Nat} {r : Rw} (h : RwAt Q w0 base W r) (hb : base' ≤ base) : RwAt Q w0 base' W r := ⟨h.1.base hb, h.2⟩
theorem RwAt.chg {Q : Lv → Prop} {w0 W W' : World} {base b2 : Nat} {r : Rw} {a : Option Addr} {c : Nat} {R : List Rw} (h : RwAt Q w0 base W r) (ho : OwnR W b2 a c R) (hC : Chg (ob a) W W') : RwAt Q w0 base W' r :=
  ⟨owns_chg h.1 hC (fun k hk => owns_ne h.1 ho (by decide) k hk), h.2⟩
/-- all leaves of a tree are among rows -/
def AllIn (T : List Nd) (R : List Rw) : Prop := ∀ p k v, lookP T p k = some v → ∃ r ∈ R, r.v = v
def NdIn (x : Nd) (R : List Rw) : Prop := (∀ v ∈ x.ls, ∃ r ∈ R, r.v = v) ∧ AllIn x.kids R
theorem AllIn.of {T : List Nd} {R : List Rw} (h : ∀ x ∈ T, NdIn x R) : AllIn T R := by
  intro p k v hv
  cases p with
  | nil => cases hv
  | cons s p =>
    rw [lookP_cons] at hv
    cases e : findN T s with
    | none => rw [e] at hv; cases hv
    | some x =>
      rw [e, Option.bind_some] at hv
      have hx := h x (findN_mem e).1
      cases p with
      | nil => exact hx.1 v (findL_mem hv).1
      | cons u p => exact hx.2 _ _ _ hv
theorem NdIn.mono {x : Nd} {R R' : List Rw} (h : NdIn x R) (hs : ∀ r ∈ R, r ∈ R') : NdIn x R' :=
  ⟨fun v hv => (h.1 v hv).imp fun r hr => ⟨hs r hr.1, hr.2⟩, fun p k v hv => (h.2 p k v hv).imp fun r hr => ⟨hs r hr.1, hr.2⟩⟩
/-- all leaves of a tree are so -/
def AllQ (Q : Lv → Prop) : Nat → List Nd → Prop
  | 0, _ => True
  | n + 1, T => ∀ x ∈ T, (∀ v ∈ x.ls, Q v) ∧ AllQ Q n x.kids
def RowsTo (Q : Lv → Prop) (w0 w : World) (f : Nat) (T : List Nd) (e : Ending) (w' : World) : Prop :=
  ∃ ra rc R, e = .returned (.slice ra (List.length R) rc) ∧ OwnR w' w.heap.size ra rc R ∧ (∀ r ∈ R, RwAt Q w0 w.heap.size w' r) ∧ AllIn T R ∧ R.length ≤ cntT f T ∧ Below w.heap.size w w'
set_option maxRecDepth 100000 in
set_option maxHeartbeats 2000000 in
theorem rows_any (Q : Lv → Prop) (f : Nat) : ∀ (m : Nat) (a : Option Addr) (c : Nat) (T : List Nd) (aa : Option Addr) (ac : Nat) (A : List ByteArray) (w0 w : World), TrRd w0 m a c T → MayT f T → Below w0.heap.size w0 w → Strs w aa ac A → A.length + f ≤ 20 → cntT f T ≤ 100000 → AllQ Q f T →
    Calls Tryz.prog 12 #[.slice a T.length c, .slice aa A.length ac] w (RowsTo Q w0 w f T) := by
  induction f with
  | zero =>
    intro m a c T aa ac A w0 w hT hM hw0 hA hAl hcnt hQ
    obtain rfl : T = [] := hM
    clear hT hw0 hA hAl hcnt hQ
    go_enter Tryz.func12, Tryz.ntmps12
    go_wp2_with fail
    go_loop [5, 6] (fun o i => o = .slice none 0 0 ∧ i = .int .i64 0) (fun _ _ => 0)
    case atStart => exact ⟨rfl, rfl⟩
    case round =>
      obtain ⟨rfl, rfl⟩ := hrel
      go_wp2_with fail
      go_ret
      exact ⟨none, 0, [], rfl, OwnR.nil _ _, fun r hr => (by cases hr), fun p k v hv => (by rw [lookP_nil] at hv; cases hv), Nat.zero_le _, Below.refl _ _⟩
  | succ f ih =>
    intro m a c T aa ac A w0 w hT0 hM hw0 hA hAl0 hcnt hQ
    have HQ := Lib.hid hQ
    clear hQ
    have HW0 := Lib.hid hw0
    have HT := Lib.hid (TrRd.deep hT0)
    have HM := Lib.hid hM
    have HA := Lib.hid hA
    have Hcnt := Lib.hid hcnt
    have hlen := hT0.sl.2.1
    have hcap := hT0.sl.2.2.1
    have hTl := len_cnt f T
    have hTl2 : T.length ≤ 100000 := by omega
    have hAl : A.length ≤ 20 := by omega
    have HAl := Lib.hid hAl0
    unfold maxLen at hcap
    clear hT0 hM hw0 hA hcnt hTl hAl0
    go_enter Tryz.func12, Tryz.ntmps12
    go_wp2_with fail
    go_loopw [5, 6] (fun out i wr => ∃ (q : Nat) (ra : Option Addr) (rc : Nat) (R : List Rw), q ≤ T.length ∧ i = .int .i64 q ∧ out = .slice ra R.length rc ∧ Hid (OwnR wr w.heap.size ra rc R) ∧ Hid (∀ r ∈ R, RwAt Q w0 w.heap.size wr r) ∧ Hid (∀ x ∈ T.take q, NdIn x R) ∧ Hid (R.length ≤ ((T.take q).map (cntN f)).sum) ∧ Hid (Below w.heap.size w wr)) (fun _ i _ => T.length - (intOf i).toNat)
    case atStart => exact ⟨0, none, 0, [], Nat.zero_le _, rfl, rfl, Lib.hid (OwnR.nil _ _), Lib.hid (fun r hr => (by cases hr)), Lib.hid (fun x hx => (by simp at hx)), Lib.hid (Nat.zero_le _), Lib.hid (Below.refl _ _)⟩
    case round =>
      obtain ⟨q, ra, rc, R, hq, rfl, rfl, HO, HR, HN, HC, HB⟩ := hrel
      have hsz := HB.out.size
      by_cases hlt : q < T.length
      · obtain ⟨x, hx⟩ : ∃ x, T[q]? = some x := ⟨T[q], by simp [hlt]⟩
        obtain ⟨ad, had, ⟨c0, c1, c2⟩, hlb⟩ := nds_at (HT.out.below (HW0.out.trans (HB.out.mono HW0.out.size))).sl hx
        subst had
        have hmem := List.mem_of_getElem? hx
        have HX := Lib.hid (HT.out.2 x hmem)
        have HMx := Lib.hid (HM.out.2 x hmem)
        have HQx := Lib.hid (HQ.out x hmem)
        have Hx := Lib.hid hx
        clear hmem hx
        go_upto_region 5 with (fail)
        go_cut [7] (fun pv wx => ∃ (pa : Option Addr) (pc : Nat) (P : List ByteArray), pv = .slice pa P.length pc ∧ Hid (P = A ++ [x.name]) ∧ Hid (OwnS wx wr.heap.size pa pc P) ∧ Hid (Below wr.heap.size wr wx))
        case first =>
          refine region_tree_at (fun k => k = (ad.add (q * 3)).block) (.seg [1, 3, 4, 5, 6, 7] false (.fork (.seg [0] false (.fork (.seg [2] true (.seg [8, 9, 10] false .done)) (.seg [8] false (.seg [2] true (.seg [9, 10] false .done))))) (.seg [8, 0] false (.seg [2] true (.seg [9, 10] false .done))))) mixed (by kernel_rfl) ?_
          simp only [wpSgB, List.map_cons, List.map_nil, List.getD_cons_succ, List.getD_cons_zero]
          go_wp2_with fail
          refine And.intro ?_ ?_
          · go_wp2_with fail
            refine And.intro ?_ ?_
            · skip
              go_wp2_with (at_builtin; go_must (refine wpList_appS rfl _ _ rfl wr.heap.size (some ⟨wr.heap.size, 0, none⟩) 0 [] rfl ?o1 aa ac A rfl ?s1 ?n1 ?b1 ?_))
              case o1 => exact (OwnS.made wr (Nat.le_refl _)).below ((Below.refl _ _).drew)
              case s1 => exact HA.out.below (below2 HB.out ((Below.refl _ _).alloc (Nat.le_refl _) _).drew HB.out.size)
              case n1 => simp; omega
              case b1 => first | (simp; done) | (simp; omega)
              intro v1 a1 c1 w2 hv1 ho1 hb1 hC1
              have hW1 : Below wr.heap.size wr ((wr.alloc (.cells #[] 9)).drew) := ((Below.refl _ _).alloc (Nat.le_refl _) _).drew
              have hHeld := held_of_cell39 (p := ad.add (q * 3)) (cell_below c0 hW1) hC1 (by rw [add_block]; simp [ob]; omega)
              have hs2 := hC1.size
              have hz2 : wr.heap.size + 1 ≤ w2.heap.size := by simp at hs2; omega
              have HW2 := Lib.hid (hW1.trans hb1)
              have Ho1 := Lib.hid ho1
              have Hv1 := Lib.hid (show v1 = A by simpa using hv1)
              have hl1 : v1.length ≤ 20 := by rw [hv1]; simpa using hAl
              clear hv1 ho1 hb1 hC1 hW1 hs2
              go_wp2_with fail
              refine And.intro hHeld ?_
              clear hHeld
              go_wp2_with (at_builtin; go_must (refine wpList_appS rfl _ _ rfl wr.heap.size a1 c1 v1 rfl ?o2 (some ⟨w2.heap.size, 0, none⟩) 1 [x.name] rfl ?s2 ?n2 ?b2 ?_))
              case o2 => exact Ho1.out.below ((Below.refl _ _).alloc (Nat.le_refl _) _)
              case s2 => exact str_one x.name (heap_new w2 _)
              case n2 => simp; omega
              case b2 => simp; omega
              intro v2 a2 c2 w3 hv2 ho2 hb2 hC2
              have HW3 := Lib.hid (show Below wr.heap.size wr w3 from (HW2.out.alloc (by omega) _).trans hb2)
              have Hv2 := Lib.hid (show v2 = A ++ [x.name] by rw [hv2, Hv1.out])
              have Ho2 := Lib.hid ho2
              clear hv2 ho2 hb2 hC2
              go_wp2_with fail
              refine And.intro (And.intro (by kernel_rfl) (reads_of ?rds)) ?_
              case rds => exact ⟨trivial, trivial, trivial, trivial, trivial, trivial, trivial, rfl, trivial, trivial, trivial, trivial⟩
              go_wp2_with fail
              go_meet
              exact ⟨a2, c2, v2, rfl, Hv2, Ho2, HW3⟩
            · skip
              go_wp2_with (at_builtin; go_must (refine wpList_appS rfl _ _ rfl wr.heap.size (some ⟨wr.heap.size, 0, none⟩) 0 [] rfl ?o1 aa ac A rfl ?s1 ?n1 ?b1 ?_))
              case o1 => exact ((OwnS.made wr (Nat.le_refl _)).below ((Below.refl _ _).alloc (Nat.le_refl _) _)).below ((Below.refl _ _).drew)
              case s1 => exact HA.out.below (below2 HB.out (((Below.refl _ _).alloc (Nat.le_refl _) _).alloc (by simp) _).drew HB.out.size)
              case n1 => simp; omega
              case b1 => first | (simp; done) | (simp; omega)
              intro v1 a1 c1 w2 hv1 ho1 hb1 hC1
              have hW1 : Below wr.heap.size wr (((wr.alloc (.cells #[] 9)).alloc (.cells #[.string x.name] 9)).drew) := (((Below.refl _ _).alloc (Nat.le_refl _) _).alloc (by simp) _).drew
              have hHeld := held_of_cell39 (p := ad.add (q * 3)) (cell_below c0 hW1) hC1 (by rw [add_block]; simp [ob]; omega)
              have hs2 := hC1.size
              have hz2 : wr.heap.size + 2 ≤ w2.heap.size := by simp at hs2; omega
              have HW2 := Lib.hid (hW1.trans hb1)
              have Ho1 := Lib.hid ho1
              have Hv1 := Lib.hid (show v1 = A by simpa using hv1)
              have hl1 : v1.length ≤ 20 := by rw [hv1]; simpa using hAl
              have Hnm := Lib.hid (show w2.heap[wr.heap.size + 1]? = some (.cells #[.string x.name] 9 (0, 0)) from (hC1.block _ (by first | (simp; done) | (simp; omega)) (by simp [ob])).trans (heap_new2 wr (.cells #[] 9) (.cells #[.string x.name] 9)))
              clear hv1 ho1 hb1 hC1 hW1 hs2
              go_wp2_with fail
              refine And.intro hHeld ?_
              clear hHeld
              go_wp2_with (at_builtin; go_must (refine wpList_appS rfl _ _ rfl wr.heap.size a1 c1 v1 rfl ?o2 (some ⟨wr.heap.size + 1, 0, none⟩) 1 [x.name] rfl ?s2 ?n2 ?b2 ?_))
              case o2 => exact Ho1.out
              case s2 => exact str_one x.name Hnm.out
              case n2 => simp; omega
              case b2 => omega
              intro v2 a2 c2 w3 hv2 ho2 hb2 hC2
              have HW3 := Lib.hid (show Below wr.heap.size wr w3 from HW2.out.trans hb2)
              have Hv2 := Lib.hid (show v2 = A ++ [x.name] by rw [hv2, Hv1.out])
              have Ho2 := Lib.hid ho2
              clear hv2 ho2 hb2 hC2
              go_wp2_with fail
              refine And.intro (And.intro (by kernel_rfl) (reads_of ?rds)) ?_
              case rds => exact ⟨trivial, trivial, trivial, trivial, trivial, trivial, trivial, rfl, trivial, trivial, trivial, trivial⟩
              go_wp2_with fail
              go_meet
              exact ⟨a2, c2, v2, rfl, Hv2, Ho2, HW3⟩
          · skip
            go_wp2_with (at_builtin; go_must (refine wpList_appS rfl _ _ rfl wr.heap.size (some ⟨wr.heap.size + 1, 0, none⟩) 0 [] rfl ?o1 aa ac A rfl ?s1 ?n1 ?b1 ?_))
            case o1 => (have h0 := OwnS.made (base := wr.heap.size) (wr.alloc (.cells #[.string x.name] 9)) (by first | (simp; done) | (simp; omega)); rw [World.size_alloc] at h0; exact h0.below ((Below.refl _ _).drew))
            case s1 => exact HA.out.below (below2 HB.out (((Below.refl _ _).alloc (Nat.le_refl _) _).alloc (by simp) _).drew HB.out.size)
            case n1 => simp; omega
            case b1 => first | (simp; done) | (simp; omega)
            intro v1 a1 c1 w2 hv1 ho1 hb1 hC1
            have hW1 : Below wr.heap.size wr (((wr.alloc (.cells #[.string x.name] 9)).alloc (.cells #[] 9)).drew) := (((Below.refl _ _).alloc (Nat.le_refl _) _).alloc (by simp) _).drew
            have hHeld := held_of_cell39 (p := ad.add (q * 3)) (cell_below c0 hW1) hC1 (by rw [add_block]; simp [ob]; omega)
            have hs2 := hC1.size
            have hz2 : wr.heap.size + 2 ≤ w2.heap.size := by simp at hs2; omega
            have HW2 := Lib.hid (hW1.trans hb1)
            have Ho1 := Lib.hid ho1
            have Hv1 := Lib.hid (show v1 = A by simpa using hv1)
            have hl1 : v1.length ≤ 20 := by rw [hv1]; simpa using hAl
            have Hnm := Lib.hid (show w2.heap[wr.heap.size]? = some (.cells #[.string x.name] 9 (0, 0)) from (hC1.block _ (by first | (simp; done) | (simp; omega)) (by simp [ob])).trans ((heap_old (wr.alloc (.cells #[.string x.name] 9)) (.cells #[] 9) (by simp)).trans (heap_new wr (.cells #[.string x.name] 9))))
            clear hv1 ho1 hb1 hC1 hW1 hs2
            go_wp2_with fail
            refine And.intro hHeld ?_
            clear hHeld
            go_wp2_with (at_builtin; go_must (refine wpList_appS rfl _ _ rfl wr.heap.size a1 c1 v1 rfl ?o2 (some ⟨wr.heap.size, 0, none⟩) 1 [x.name] rfl ?s2 ?n2 ?b2 ?_))
            case o2 => exact Ho1.out
            case s2 => exact str_one x.name Hnm.out
            case n2 => simp; omega
            case b2 => omega
            intro v2 a2 c2 w3 hv2 ho2 hb2 hC2
            have HW3 := Lib.hid (show Below wr.heap.size wr w3 from HW2.out.trans hb2)
            have Hv2 := Lib.hid (show v2 = A ++ [x.name] by rw [hv2, Hv1.out])
            have Ho2 := Lib.hid ho2
            clear hv2 ho2 hb2 hC2
            go_wp2_with fail
            refine And.intro (And.intro (by kernel_rfl) (reads_of ?rds)) ?_
            case rds => exact ⟨trivial, trivial, trivial, trivial, trivial, trivial, trivial, rfl, trivial, trivial, trivial, trivial⟩
            go_wp2_with fail
            go_meet
            exact ⟨a2, c2, v2, rfl, Hv2, Ho2, HW3⟩

        case rest =>
          obtain ⟨pa, pc, P, rfl, HP, HPo, HBp⟩ := hcut
          obtain ⟨wo, hwo⟩ : ∃ wo, wo = wc := ⟨_, rfl⟩
          subst hwo
          have HBo := Lib.hid (below2 HB.out HBp.out hsz)
          have hsz0 := HW0.out.size
          have hszo := HBo.out.size
          have hszp := HBp.out.size
          have HPo2 := Lib.hid (show OwnS wo w.heap.size pa pc P from HPo.out.base hsz)
          have hPl : P.length + f ≤ 20 := by rw [HP.out]; have := HAl.out; simp; omega
          have HOo := Lib.hid (HO.out.below HBp.out)
          have HRo := Lib.hid (show ∀ r ∈ R, RwAt Q w0 w.heap.size wo r from fun r hr => (HR.out r hr).below HBp.out)
          have hcx := in_cnt (f := f) (List.mem_of_getElem? Hx.out)
          have hcx2 : x.ls.length + cntT f x.kids ≤ 100000 := by
            have h1 := Hcnt.out
            have h2 : cntN f x = 1 + x.ls.length + cntT f x.kids := rfl
            omega
          have hRl : R.length ≤ 100000 := by
            have h1 := HC.out
            have h2 := sum_take_le (cntN f) T q
            have h3 := Hcnt.out
            rw [cntT_succ] at h3
            omega
          clear hcx HO HR HPo c0 c1 c2
          have hll := HX.out.1.1.2.1
          have hlc := HX.out.1.1.2.2.1
          unfold maxLen at hlc
          go_wp2_with fail
          go_loopw [5, 8] (fun out k wx => ∃ (r : Nat) (ra' : Option Addr) (rc' : Nat) (R' : List Rw), r ≤ x.ls.length ∧ k = .int .i64 r ∧ out = .slice ra' R'.length rc' ∧ Hid (OwnR wx w.heap.size ra' rc' R') ∧ Hid (∀ r ∈ R', RwAt Q w0 w.heap.size wx r) ∧ Hid (∀ r ∈ R, r ∈ R') ∧ Hid (∀ v ∈ x.ls.take r, ∃ r ∈ R', r.v = v) ∧ Hid (R'.length = R.length + r) ∧ Hid (OwnS wx w.heap.size pa pc P) ∧ Hid (Below w.heap.size w wx)) (fun _ k _ => x.ls.length - (intOf k).toNat)
          case atStart => exact ⟨0, ra, rc, R, Nat.zero_le _, rfl, rfl, HOo, HRo, Lib.hid (fun r hr => hr), Lib.hid (fun v hv => (by simp at hv)), Lib.hid rfl, HPo2, HBo⟩
          case round =>
            obtain ⟨r, ra', rc', R', hr, rfl, rfl, HO', HR', HS', HV', HL', HP', HB'⟩ := hrel
            obtain ⟨ad', had', ⟨c0, c1, c2⟩, hlb'⟩ := nds_at (HT.out.below (HW0.out.trans (HB'.out.mono hsz0))).sl Hx.out
            injection had' with had'
            subst had'
            have hsz' := HB'.out.size
            have hR'l : R'.length ≤ 300000 := by rw [HL'.out]; omega
            by_cases hlt2 : r < x.ls.length
            · obtain ⟨v, hv⟩ : ∃ v, x.ls[r]? = some v := ⟨x.ls[r], by simp [hlt2]⟩
              obtain ⟨al, hal, ⟨e0, e1, e2, e3, e4, e5, e6, e7, e8⟩, hlv, _⟩ := (HX.out.1.below (HW0.out.trans (HB'.out.mono hsz0))).at hv
              rw [hal] at c1
              have Hv := Lib.hid hv
              have Hvr := Lib.hid (HX.out.1.2 v (List.mem_of_getElem? hv))
              have Hvq := Lib.hid (HQx.out.1 v (List.mem_of_getElem? hv))
              clear hv hal
              go_wp2_with (at_builtin; go_must (refine wpList_appR rfl _ _ rfl w.heap.size ra' rc' R' rfl ?o1 (some ⟨wr.heap.size, 0, none⟩) 1 [⟨P, pa, pc, v⟩] rfl ?s1 ?n1 ?b1 ?_))
              case o1 => exact HO'.out.below ((Below.refl _ _).alloc (Nat.le_refl _) _)
              case s1 => exact rw_one ⟨P, pa, pc, v⟩ (heap_new wr _)
              case n1 => simp; omega
              case b1 => simp; omega
              intro v' a' c' w2 hv' ho2 hb2 hC2 _
              have hW : Below wr.heap.size wr (wr.alloc (.cells (rwcell ⟨P, pa, pc, v⟩).toArray 50)) := (Below.refl _ _).alloc (Nat.le_refl _) _
              have hO0 := HO'.out.below hW
              have hP0 := HP'.out.below hW
              have HO2 := Lib.hid ho2
              have HP2 := Lib.hid (show OwnS w2 w.heap.size pa pc P from owns_chg hP0 hC2 (fun k hk => owns_ne hP0 hO0 (by decide) k hk))
              have HR2 := Lib.hid (show ∀ r ∈ v', RwAt Q w0 w.heap.size w2 r from fun r hr => by
                rw [hv', List.mem_append, List.mem_singleton] at hr
                rcases hr with hr | rfl
                · exact ((HR'.out r hr).below hW).chg hO0 hC2
                · exact ⟨HP2.out, Hvr.out, by show P.length ≤ 20; omega, Hvq.out⟩)
              have HS2 := Lib.hid (show ∀ r ∈ R, r ∈ v' from fun r hr => by rw [hv']; exact List.mem_append.2 (.inl (HS'.out r hr)))
              have HV2 := Lib.hid (show ∀ u ∈ x.ls.take (r + 1), ∃ r ∈ v', r.v = u from fun u hu => by
                rw [take_snoc' Hv.out, List.mem_append, List.mem_singleton] at hu
                rcases hu with hu | rfl
                · obtain ⟨r0, h1, h2⟩ := HV'.out u hu
                  exact ⟨r0, by rw [hv']; exact List.mem_append.2 (.inl h1), h2⟩
                · exact ⟨⟨P, pa, pc, u⟩, by rw [hv']; simp, rfl⟩)
              have HL2 := Lib.hid (show v'.length = R.length + (r + 1) by rw [hv']; have := HL'.out; simp; omega)
              have HB2 := Lib.hid ((below2 HB'.out hW hsz').trans hb2)
              clear hv' ho2 hb2 hC2 hW hO0 hP0
              go_wp2_with fail
              go_roundw
              case rel => exact ⟨r + 1, a', c', v', by omega, by go_num, rfl, HO2, HR2, HS2, HV2, HL2, HP2, HB2⟩
              case measure => simp [intOf]; omega
            · go_wp2_with fail
              refine (ih m x.ba x.bc x.kids pa pc P w0 _ HX.out.2 HMx.out.2.2.1 (HW0.out.trans (HB'.out.mono hsz0)) HP'.out.strs hPl (by omega) HQx.out.2).mono ?_
              intro e w3 hto
              obtain ⟨sa, sc, S, rfl, hSo, hSr, hSa, hSl, hb3⟩ := hto
              have HSo := Lib.hid hSo
              have HSr := Lib.hid hSr
              have HSa := Lib.hid hSa
              have HB3 := Lib.hid hb3
              have hs3 := hb3.size
              have hSl2 : S.length ≤ 100000 := by omega
              have HSl := Lib.hid hSl
              clear hSo hSr hSa hb3 c0 c1 c2 hSl
              go_wp2_with (at_builtin; go_must (refine wpList_appR rfl _ _ rfl w.heap.size ra' rc' R' rfl ?o2 sa sc S rfl ?s2 ?n2 ?b2 ?_))
              case o2 => exact HO'.out.below HB3.out
              case s2 => exact HSo.out.sl
              case n2 => omega
              case b2 => omega
              intro v' a' c' w4 hv' ho4 hb4 hC4 _
              have hO3 := HO'.out.below HB3.out
              have HO4 := Lib.hid ho4
              have hsub : ∀ r ∈ R', r ∈ v' := fun r hr => by rw [hv']; exact List.mem_append.2 (.inl hr)
              have hsub2 : ∀ r ∈ S, r ∈ v' := fun r hr => by rw [hv']; exact List.mem_append.2 (.inr hr)
              have HR4 := Lib.hid (show ∀ r ∈ v', RwAt Q w0 w.heap.size w4 r from fun r hr => by
                rw [hv', List.mem_append] at hr
                rcases hr with hr | hr
                · exact ((HR'.out r hr).below HB3.out).chg hO3 hC4
                · exact ((HSr.out r hr).base hsz').chg hO3 hC4)
              have HN4 := Lib.hid (show ∀ y ∈ T.take (q + 1), NdIn y v' from fun y hy => by
                rw [take_snoc' Hx.out, List.mem_append, List.mem_singleton] at hy
                rcases hy with hy | rfl
                · exact (HN.out y hy).mono fun r hr => hsub r (HS'.out r hr)
                · refine ⟨fun v hv => ?_, fun p k v hv => ?_⟩
                  · obtain ⟨r0, h1, h2⟩ := HV'.out v (by rw [List.take_of_length_le (by omega)]; exact hv)
                    exact ⟨r0, hsub r0 h1, h2⟩
                  · obtain ⟨r0, h1, h2⟩ := HSa.out p k v hv
                    exact ⟨r0, hsub2 r0 h1, h2⟩)
              have HC4 := Lib.hid (show v'.length ≤ ((T.take (q + 1)).map (cntN f)).sum by
                have h1 := sum_take_snoc (cntN f) Hx.out
                have h2 : cntN f x = 1 + x.ls.length + cntT f x.kids := rfl
                have h3 := HC.out
                have h4 := HL'.out
                have h5 := HSl.out
                rw [hv', List.length_append, h1]
                omega)
              have HB4 := Lib.hid ((below2 HB'.out HB3.out hsz').trans hb4)
              clear hv' ho4 hb4 hC4 hO3 hsub hsub2
              go_wp2_with fail
              go_roundw
              case rel => exact ⟨q + 1, a', c', v', by omega, by go_num, rfl, HO4, HR4, HN4, HC4, HB4⟩
              case measure => simp [intOf]; omega
      · have HFin := Lib.hid (show AllIn T R from AllIn.of fun x hx => HN.out x (by rw [List.take_of_length_le (by omega)]; exact hx))
        have HLn := Lib.hid (show R.length ≤ cntT (f + 1) T by have h1 := HC.out; rw [List.take_of_length_le (by omega)] at h1; exact h1)
        go_wp2_with fail
        go_ret
        exact ⟨ra, rc, R, rfl, HO.out, HR.out, HFin.out, HLn.out, HB.out⟩
end Go.Proofs.YtmabjghjkgicgaaGreat

/- NamA -/
namespace Go.Proofs.YtmabjghjkgicgaaGreat
open Go.RowKit
set_option linter.unusedVariables false
set_option linter.unusedSimpArgs false

def NamesTo (w : World) (T : List Nd) (P : List ByteArray) (e : Ending) (w' : World) : Prop :=
  ∃ a' c' L, e = .returned (.slice a' (List.length L) c') ∧ L = (belowP T P).map Nd.name ∧ OwnS w' w.heap.size a' c' L ∧ Below w.heap.size w w'
theorem belowP_cons (T : List Nd) (s : ByteArray) (p : List ByteArray) : belowP T (s :: p) = match findN T s with | some x => belowP x.kids p | none => belowP [] p := rfl
theorem belowP_len {f : Nat} {T : List Nd} (P : List ByteArray) (hM : MayT f T) : (belowP T P).length ≤ cntT f T := by
  induction P generalizing f T with
  | nil =>
    cases f with
    | zero => rw [show T = [] from hM]; simp [belowP]
    | succ f => exact len_cnt f T
  | cons s P ih =>
    rw [belowP_cons]
    cases e : findN T s with
    | none => dsimp only; rw [belowP_nil]; simp
    | some x =>
      dsimp only
      cases f with
      | zero => rw [show T = [] from hM] at e; cases e
      | succ f =>
        have h1 := ih (hM.2 x (findN_mem e).1).2.2.1
        have h2 := in_cnt (f := f) (findN_mem e).1
        have h3 : cntN f x = 1 + x.ls.length + cntT f x.kids := rfl
        omega
set_option maxRecDepth 100000 in
set_option maxHeartbeats 2000000 in
theorem rnames_any (f m : Nat) (a : Option Addr) (c : Nat) (T : List Nd) (pa : Option Addr) (pc : Nat) (P : List ByteArray) (w : World) (hT : TrRd w m a c T) (hM : MayT f T) (hP : Strs w pa pc P) (hcnt : cntT f T ≤ 100000) :
    Calls Tryz.prog 29 #[.slice a T.length c, .slice pa P.length pc] w (NamesTo w T P) := by
  have HT := Lib.hid hT
  have HM := Lib.hid hM
  have HP := Lib.hid hP
  have HL := Lib.hid (Nat.le_trans (belowP_len P hM) hcnt)
  have hpl := hP.2.1
  have hpc := hP.2.2.1
  have htl := hT.sl.2.1
  have htc := hT.sl.2.2.1
  unfold maxLen at hpc htc
  clear hT hM hP hcnt
  go_enter Tryz.func29, Tryz.ntmps29
  go_wp2_with fail
  go_loopw [0, 5] (fun t i wr => ∃ (q m' n' : Nat) (ta : Option Addr) (tc : Nat) (U : List Nd), q ≤ P.length ∧ i = .int .i64 q ∧ t = .slice ta U.length tc ∧ Hid (TrRd w m' ta tc U) ∧ Hid (MayT n' U) ∧ Hid (belowP T P = belowP U (P.drop q)) ∧ Hid (Below w.heap.size w wr)) (fun _ i _ => P.length - (intOf i).toNat)
  case atStart => exact ⟨0, m, f, a, c, T, Nat.zero_le _, rfl, rfl, HT, HM, Lib.hid rfl, Lib.hid (Below.refl _ _)⟩
  case round =>
    obtain ⟨q, m', n', ta, tc, U, hq, rfl, rfl, HTU, HMU, HE, HB⟩ := hrel
    have hul := HTU.out.sl.2.1
    have huc := HTU.out.sl.2.2.1
    unfold maxLen at huc
    by_cases hlt : q < P.length
    · obtain ⟨s, hs⟩ : ∃ s, P[q]? = some s := ⟨P[q], by simp [hlt]⟩
      obtain ⟨ap, hap, p0, hlp⟩ := (HP.out.below HB.out).at hs
      subst hap
      have hd : P.drop q = s :: P.drop (q + 1) := by rw [← (List.getElem?_eq_some_iff.1 hs).2, List.getElem_cons_drop]
      have Hd := Lib.hid hd
      clear hs hd
      go_wp2_with fail
      refine (rnode_any ta tc U s _ (HTU.out.below HB.out).sl).mono ?_
      intro e w2 hto
      obtain ⟨hto, hb2⟩ := hto
      have HB2 := Lib.hid (below2 HB.out hb2 HB.out.size)
      clear p0 hb2
      rcases hto with ⟨x, hx, rfl⟩ | ⟨hx, rfl⟩
      · have hmem := (findN_mem hx).1
        obtain ⟨m2, _, hK2⟩ := HTU.out.in_ hmem
        have HK2 := Lib.hid hK2
        have HE2 := Lib.hid (show belowP T P = belowP x.kids (P.drop (q + 1)) by rw [HE.out, Hd.out, belowP_cons, hx])
        obtain ⟨n2, hn2⟩ : ∃ n2, MayT n2 x.kids := by
          cases n' with
          | zero => rw [show U = [] from HMU.out] at hmem; cases hmem
          | succ n2 => exact ⟨n2, (HMU.out.2 x hmem).2.2.1⟩
        have HM2 := Lib.hid hn2
        clear hx hmem hK2 hn2
        go_wp2_with fail
        go_roundw
        case rel => exact ⟨q + 1, m2, n2, x.ba, x.bc, x.kids, by omega, by go_num, rfl, HK2, HM2, HE2, Lib.hid (HB2.out.alloc (HB2.out.size) _)⟩
        case measure => simp [intOf]; omega
      · have HE2 := Lib.hid (show belowP T P = belowP [] (P.drop (q + 1)) by rw [HE.out, Hd.out, belowP_cons, hx])
        clear hx
        go_wp2_with fail
        go_roundw
        case rel => exact ⟨q + 1, 0, 0, none, 0, [], by omega, by go_num, rfl, Lib.hid (TrRd.nil _ _), Lib.hid (MayT.nil _), HE2, Lib.hid (HB2.out.alloc (HB2.out.size) _)⟩
        case measure => simp [intOf]; omega
    · have HU := Lib.hid (show belowP T P = U by rw [HE.out, List.drop_eq_nil_of_le (by omega)]; rfl)
      have hUl : U.length ≤ 100000 := by rw [← HU.out]; exact HL.out
      have HR := Lib.hid (show risesN U from by
        cases n' with
        | zero => rw [show U = [] from HMU.out]; exact List.Pairwise.nil
        | succ n2 => exact HMU.out.1)
      have HBo := HB
      clear HE HB HL
      go_wp2_with fail
      go_loopw [8, 9] (fun out i wx => ∃ (q : Nat) (oa : Option Addr) (oc : Nat) (V : List ByteArray), q ≤ U.length ∧ i = .int .i64 q ∧ out = .slice oa V.length oc ∧ Hid (V = (U.take q).map Nd.name) ∧ Hid (OwnS wx w.heap.size oa oc V) ∧ Hid (Below w.heap.size w wx)) (fun _ i _ => U.length - (intOf i).toNat)
      case atStart => exact ⟨0, none, 0, [], Nat.zero_le _, rfl, rfl, Lib.hid rfl, Lib.hid (OwnS.nil _ _), HBo⟩
      case round =>
        clear HBo
        obtain ⟨q, oa, oc, V, hq, rfl, rfl, HV, HO, HB⟩ := hrel
        have hVq : V.length = q := by rw [HV.out, List.length_map, List.length_take]; omega
        have HVq := Lib.hid hVq
        have hVl : V.length ≤ 100000 := by omega
        have hol := HO.out.strs.2.1
        have hoc := HO.out.strs.2.2.1
        unfold maxLen at hoc
        clear hVq
        by_cases hlt : q < U.length
        · obtain ⟨x, hx⟩ : ∃ x, U[q]? = some x := ⟨U[q], by simp [hlt]⟩
          obtain ⟨wo, hwo⟩ : ∃ wo, wo = wr := ⟨_, rfl⟩
          subst hwo
          have Hx := Lib.hid hx
          clear hx
          go_wp2_with fail
          go_loopw [10] (fun k wx => ∃ k' : Nat, k' ≤ V.length ∧ k = .int .i64 k' ∧ Hid (Below wo.heap.size wo wx)) (fun k _ => V.length - (intOf k).toNat)
          case atStart => exact ⟨0, Nat.zero_le _, rfl, Lib.hid (Below.refl _ _)⟩
          case round =>
            obtain ⟨k', hk', rfl, HX3⟩ := hrel
            have HBx := Lib.hid (below2 HB.out HX3.out HB.out.size)
            obtain ⟨ad, had, ⟨c0, c1, c2⟩, hlb⟩ := nds_at (HTU.out.below HBx.out).sl Hx.out
            subst had
            by_cases hlt3 : k' < V.length
            · obtain ⟨y, hy⟩ : ∃ y, V[k']? = some y := ⟨V[k'], by simp [hlt3]⟩
              obtain ⟨ao, hao, o0, hlo⟩ := (HO.out.strs.below HX3.out).at hy
              subst hao
              have hyx : Op.bytesLess y.toList x.name.toList = true := by
                have h1 := HV.out
                rw [h1, List.getElem?_map] at hy
                cases e : (U.take q)[k']? with
                | none => rw [e] at hy; cases hy
                | some z =>
                  rw [e] at hy
                  have hy2 : z.name = y := by simpa using hy
                  have hR := HR.out
                  unfold risesN at hR
                  rw [← List.take_append_drop q U] at hR
                  have h2 := (List.pairwise_append.1 hR).2.2 z (List.mem_of_getElem? e) x (by
                    rw [← (List.getElem?_eq_some_iff.1 Hx.out).2, List.drop_eq_getElem_cons (by omega)]; exact .head _)
                  rw [hy2] at h2; exact h2
              clear hy
              go_wp2_with fail
              refine region_text [([0, 1, 2, 3, 4, 5, 6, 7, 8, 9, 10, 11, 12, 13, 14, 15], false)] mixed (by kernel_rfl) ?_
              simp only [wpSegs, List.map_cons, List.map_nil, List.getD_cons_succ, List.getD_cons_zero]
              go_wp2_with fail
              refine And.intro (by kernel_rfl) ?_
              go_wp2_with fail
              go_roundw
              case rel => exact ⟨k' + 1, by omega, by go_num, Lib.hid HX3.out.drew⟩
              case measure => simp [intOf]; omega
            · have hkk : k' = V.length := by omega
              subst hkk
              obtain ⟨sa, sc, u, hu, hrunS, hSs⟩ := cutS oa oc V V.length (Nat.le_refl _) hol
              obtain rfl : u = [] := by rw [hu]; simp
              have hrunH := slice_hiS oa V.length oc V.length hol
              have hSs2 := hSs
              clear hSs hu
              go_wp2_with fail
              refine region_text [([0, 1, 2, 3, 4, 5, 6, 7, 8, 9, 10, 11, 12, 13, 14, 15], false)] mixed (by kernel_rfl) ?_
              simp only [wpSegs, List.map_cons, List.map_nil, List.getD_cons_succ, List.getD_cons_zero]
              go_wp2_with fail
              refine And.intro (by kernel_rfl) ?_
              go_upto_region 13 with (fail)
              have HX4 := Lib.hid (show Below wo.heap.size wo wr.drew from HX3.out.drew)
              have HBy := Lib.hid (show Below w.heap.size w wr.drew from HBx.out.drew)
              have c5 : wr.drew.cell? (ad.add (q * 3)) = some (.string x.name) := cell_below c0 ((Below.refl _ _).drew)
              have hlb5 : ad.block < wr.drew.heap.size := hlb
              clear c0 c1 c2 HX3 HBx hlb
              generalize wr.drew = wz at *
              refine region_tree_at (fun k => k = (ad.add (q * 3)).block) (.seg [1, 2, 3, 5, 6, 7, 8, 9, 12, 13, 14] false (.fork (.seg [0] false (.fork (.seg [4] true (.seg [10, 11, 15, 16] false .done)) (.seg [10] false (.seg [4] true (.seg [11, 15, 16] false .done))))) (.seg [10, 0] false (.seg [4] true (.seg [11, 15, 16] false .done))))) mixed (by kernel_rfl) ?_
              simp only [wpSgB, List.map_cons, List.map_nil, List.getD_cons_succ, List.getD_cons_zero]
              go_wp2_with fail
              refine And.intro ?_ ?_
              · go_wp2_with fail
                refine And.intro ?_ ?_
                · skip
                  go_wp2_with (at_builtin; go_must (refine wpList_appS rfl _ _ rfl wz.heap.size (some ⟨wz.heap.size, 0, none⟩) 0 [] rfl ?o1 oa oc V rfl ?s1 ?n1 ?b1 ?_))
                  case o1 => exact (OwnS.made wz (Nat.le_refl _)).below ((Below.refl _ _).drew)
                  case s1 => exact HO.out.strs.below (below2 HX4.out (((Below.refl _ _).alloc (Nat.le_refl _) _).drew) HX4.out.size)
                  case n1 => simp; omega
                  case b1 => first | (simp; done) | (simp; omega)
                  intro v1 a1 c1 w2 hv1 ho1 hb1 hC1
                  have hW1 : Below wz.heap.size wz ((wz.alloc (.cells #[] 9)).drew) := ((Below.refl _ _).alloc (Nat.le_refl _) _).drew
                  have hHeld := held_of_cell39 (p := ad.add (q * 3)) (cell_below c5 hW1) hC1 (by rw [add_block]; simp [ob]; omega)
                  have hs2 := hC1.size
                  have hz2 : wz.heap.size + 1 ≤ w2.heap.size := by simp at hs2; omega
                  have HW2 := Lib.hid (hW1.trans hb1)
                  have Ho1 := Lib.hid ho1
                  have Hv1 := Lib.hid (show v1 = V by simpa using hv1)
                  have hl1 : v1.length ≤ 100000 := by rw [hv1]; simpa using hVl
                  clear hv1 ho1 hb1 hC1 hW1 hs2
                  go_wp2_with fail
                  refine And.intro hHeld ?_
                  clear hHeld
                  go_wp2_with (at_builtin; go_must (refine wpList_appS rfl _ _ rfl wz.heap.size a1 c1 v1 rfl ?o2 (some ⟨w2.heap.size, 0, none⟩) 1 [x.name] rfl ?s2 ?n2 ?b2 ?_))
                  case o2 => exact Ho1.out.below ((Below.refl _ _).alloc (Nat.le_refl _) _)
                  case s2 => exact str_one x.name (heap_new w2 _)
                  case n2 => simp; omega
                  case b2 => simp; omega
                  intro v2 a2 c2 w3 hv2 ho2 hb2 hC2
                  have HW3 := Lib.hid (show Below wz.heap.size wz w3 from (HW2.out.alloc (by omega) _).trans hb2)
                  have hz3 : wz.heap.size ≤ w3.heap.size := by have := hC2.size; simp at this; omega
                  have Hv2 := Lib.hid (show v2 = V ++ [x.name] by rw [hv2, Hv1.out])
                  have Ho2 := Lib.hid ho2
                  have hl2 : v2.length ≤ 100001 := by rw [hv2]; simp; omega
                  clear hv2 ho2 hb2 hC2
                  go_wp2_with (at_builtin; go_must (refine wpList_appS rfl _ _ rfl wz.heap.size a2 c2 v2 rfl ?o3 sa sc [] rfl ?s3 ?n3 ?b3 ?_))
                  case o3 => exact Ho2.out
                  case s3 => exact hSs2 w3 (HO.out.strs.below (below2 HX4.out HW3.out HX4.out.size))
                  case n3 => simp; omega
                  case b3 => omega
                  intro v3 a3 c3 w4 hv3 ho3 hb3 _
                  have HW4 := Lib.hid (show Below w.heap.size w w4 from below2 HBy.out (HW3.out.trans hb3) HBy.out.size)
                  have Hv3 := Lib.hid (show v3 = (U.take (q + 1)).map Nd.name by rw [hv3, Hv2.out, HV.out, take_snoc' Hx.out]; simp)
                  have Ho3 := Lib.hid (show OwnS w4 w.heap.size a3 c3 v3 from ho3.base (by have := HBy.out.size; omega))
                  clear hv3 ho3 hb3
                  go_wp2_with fail
                  refine And.intro (And.intro (by kernel_rfl) (reads_of ?rds)) ?_
                  case rds => exact ⟨trivial, trivial, trivial, trivial, trivial, trivial, trivial, trivial, trivial, rfl, trivial, trivial, trivial, trivial, trivial, trivial, trivial, trivial⟩
                  go_wp2_with fail
                  go_roundw
                  case rel => exact ⟨q + 1, a3, c3, v3, by omega, by go_num, rfl, Hv3, Ho3, HW4⟩
                  case measure => simp [intOf]; omega
                · skip
                  go_wp2_with (at_builtin; go_must (refine wpList_appS rfl _ _ rfl wz.heap.size (some ⟨wz.heap.size, 0, none⟩) 0 [] rfl ?o1 oa oc V rfl ?s1 ?n1 ?b1 ?_))
                  case o1 => exact ((OwnS.made wz (Nat.le_refl _)).below ((Below.refl _ _).alloc (Nat.le_refl _) _)).below ((Below.refl _ _).drew)
                  case s1 => exact HO.out.strs.below (below2 HX4.out ((((Below.refl _ _).alloc (Nat.le_refl _) _).alloc (by simp) _).drew) HX4.out.size)
                  case n1 => simp; omega
                  case b1 => first | (simp; done) | (simp; omega)
                  intro v1 a1 c1 w2 hv1 ho1 hb1 hC1
                  have hW1 : Below wz.heap.size wz (((wz.alloc (.cells #[] 9)).alloc (.cells #[.string x.name] 9)).drew) := (((Below.refl _ _).alloc (Nat.le_refl _) _).alloc (by simp) _).drew
                  have hHeld := held_of_cell39 (p := ad.add (q * 3)) (cell_below c5 hW1) hC1 (by rw [add_block]; simp [ob]; omega)
                  have hs2 := hC1.size
                  have hz2 : wz.heap.size + 2 ≤ w2.heap.size := by simp at hs2; omega
                  have HW2 := Lib.hid (hW1.trans hb1)
                  have Ho1 := Lib.hid ho1
                  have Hv1 := Lib.hid (show v1 = V by simpa using hv1)
                  have hl1 : v1.length ≤ 100000 := by rw [hv1]; simpa using hVl
                  have Hnm := Lib.hid (show w2.heap[wz.heap.size + 1]? = some (.cells #[.string x.name] 9 (0, 0)) from (hC1.block _ (by first | (simp; done) | (simp; omega)) (by simp [ob])).trans (heap_new2 wz (.cells #[] 9) (.cells #[.string x.name] 9)))
                  clear hv1 ho1 hb1 hC1 hW1 hs2
                  go_wp2_with fail
                  refine And.intro hHeld ?_
                  clear hHeld
                  go_wp2_with (at_builtin; go_must (refine wpList_appS rfl _ _ rfl wz.heap.size a1 c1 v1 rfl ?o2 (some ⟨wz.heap.size + 1, 0, none⟩) 1 [x.name] rfl ?s2 ?n2 ?b2 ?_))
                  case o2 => exact Ho1.out
                  case s2 => exact str_one x.name Hnm.out
                  case n2 => simp; omega
                  case b2 => omega
                  intro v2 a2 c2 w3 hv2 ho2 hb2 hC2
                  have HW3 := Lib.hid (show Below wz.heap.size wz w3 from HW2.out.trans hb2)
                  have hz3 : wz.heap.size ≤ w3.heap.size := by have := hC2.size; omega
                  have Hv2 := Lib.hid (show v2 = V ++ [x.name] by rw [hv2, Hv1.out])
                  have Ho2 := Lib.hid ho2
                  have hl2 : v2.length ≤ 100001 := by rw [hv2]; simp; omega
                  clear hv2 ho2 hb2 hC2
                  go_wp2_with (at_builtin; go_must (refine wpList_appS rfl _ _ rfl wz.heap.size a2 c2 v2 rfl ?o3 sa sc [] rfl ?s3 ?n3 ?b3 ?_))
                  case o3 => exact Ho2.out
                  case s3 => exact hSs2 w3 (HO.out.strs.below (below2 HX4.out HW3.out HX4.out.size))
                  case n3 => simp; omega
                  case b3 => omega
                  intro v3 a3 c3 w4 hv3 ho3 hb3 _
                  have HW4 := Lib.hid (show Below w.heap.size w w4 from below2 HBy.out (HW3.out.trans hb3) HBy.out.size)
                  have Hv3 := Lib.hid (show v3 = (U.take (q + 1)).map Nd.name by rw [hv3, Hv2.out, HV.out, take_snoc' Hx.out]; simp)
                  have Ho3 := Lib.hid (show OwnS w4 w.heap.size a3 c3 v3 from ho3.base (by have := HBy.out.size; omega))
                  clear hv3 ho3 hb3
                  go_wp2_with fail
                  refine And.intro (And.intro (by kernel_rfl) (reads_of ?rds)) ?_
                  case rds => exact ⟨trivial, trivial, trivial, trivial, trivial, trivial, trivial, trivial, trivial, rfl, trivial, trivial, trivial, trivial, trivial, trivial, trivial, trivial⟩
                  go_wp2_with fail
                  go_roundw
                  case rel => exact ⟨q + 1, a3, c3, v3, by omega, by go_num, rfl, Hv3, Ho3, HW4⟩
                  case measure => simp [intOf]; omega
              · skip
                go_wp2_with (at_builtin; go_must (refine wpList_appS rfl _ _ rfl wz.heap.size (some ⟨wz.heap.size + 1, 0, none⟩) 0 [] rfl ?o1 oa oc V rfl ?s1 ?n1 ?b1 ?_))
                case o1 => (have h0 := OwnS.made (base := wz.heap.size) (wz.alloc (.cells #[.string x.name] 9)) (by first | (simp; done) | (simp; omega)); rw [World.size_alloc] at h0; exact h0.below ((Below.refl _ _).drew))
                case s1 => exact HO.out.strs.below (below2 HX4.out ((((Below.refl _ _).alloc (Nat.le_refl _) _).alloc (by simp) _).drew) HX4.out.size)
                case n1 => simp; omega
                case b1 => first | (simp; done) | (simp; omega)
                intro v1 a1 c1 w2 hv1 ho1 hb1 hC1
                have hW1 : Below wz.heap.size wz (((wz.alloc (.cells #[.string x.name] 9)).alloc (.cells #[] 9)).drew) := (((Below.refl _ _).alloc (Nat.le_refl _) _).alloc (by simp) _).drew
                have hHeld := held_of_cell39 (p := ad.add (q * 3)) (cell_below c5 hW1) hC1 (by rw [add_block]; simp [ob]; omega)
                have hs2 := hC1.size
                have hz2 : wz.heap.size + 2 ≤ w2.heap.size := by simp at hs2; omega
                have HW2 := Lib.hid (hW1.trans hb1)
                have Ho1 := Lib.hid ho1
                have Hv1 := Lib.hid (show v1 = V by simpa using hv1)
                have hl1 : v1.length ≤ 100000 := by rw [hv1]; simpa using hVl
                have Hnm := Lib.hid (show w2.heap[wz.heap.size]? = some (.cells #[.string x.name] 9 (0, 0)) from (hC1.block _ (by first | (simp; done) | (simp; omega)) (by simp [ob])).trans ((heap_old (wz.alloc (.cells #[.string x.name] 9)) (.cells #[] 9) (by simp)).trans (heap_new wz (.cells #[.string x.name] 9))))
                clear hv1 ho1 hb1 hC1 hW1 hs2
                go_wp2_with fail
                refine And.intro hHeld ?_
                clear hHeld
                go_wp2_with (at_builtin; go_must (refine wpList_appS rfl _ _ rfl wz.heap.size a1 c1 v1 rfl ?o2 (some ⟨wz.heap.size, 0, none⟩) 1 [x.name] rfl ?s2 ?n2 ?b2 ?_))
                case o2 => exact Ho1.out
                case s2 => exact str_one x.name Hnm.out
                case n2 => simp; omega
                case b2 => omega
                intro v2 a2 c2 w3 hv2 ho2 hb2 hC2
                have HW3 := Lib.hid (show Below wz.heap.size wz w3 from HW2.out.trans hb2)
                have hz3 : wz.heap.size ≤ w3.heap.size := by have := hC2.size; omega
                have Hv2 := Lib.hid (show v2 = V ++ [x.name] by rw [hv2, Hv1.out])
                have Ho2 := Lib.hid ho2
                have hl2 : v2.length ≤ 100001 := by rw [hv2]; simp; omega
                clear hv2 ho2 hb2 hC2
                go_wp2_with (at_builtin; go_must (refine wpList_appS rfl _ _ rfl wz.heap.size a2 c2 v2 rfl ?o3 sa sc [] rfl ?s3 ?n3 ?b3 ?_))
                case o3 => exact Ho2.out
                case s3 => exact hSs2 w3 (HO.out.strs.below (below2 HX4.out HW3.out HX4.out.size))
                case n3 => simp; omega
                case b3 => omega
                intro v3 a3 c3 w4 hv3 ho3 hb3 _
                have HW4 := Lib.hid (show Below w.heap.size w w4 from below2 HBy.out (HW3.out.trans hb3) HBy.out.size)
                have Hv3 := Lib.hid (show v3 = (U.take (q + 1)).map Nd.name by rw [hv3, Hv2.out, HV.out, take_snoc' Hx.out]; simp)
                have Ho3 := Lib.hid (show OwnS w4 w.heap.size a3 c3 v3 from ho3.base (by have := HBy.out.size; omega))
                clear hv3 ho3 hb3
                go_wp2_with fail
                refine And.intro (And.intro (by kernel_rfl) (reads_of ?rds)) ?_
                case rds => exact ⟨trivial, trivial, trivial, trivial, trivial, trivial, trivial, trivial, trivial, rfl, trivial, trivial, trivial, trivial, trivial, trivial, trivial, trivial⟩
                go_wp2_with fail
                go_roundw
                case rel => exact ⟨q + 1, a3, c3, v3, by omega, by go_num, rfl, Hv3, Ho3, HW4⟩
                case measure => simp [intOf]; omega
        · have HF := Lib.hid (show V = (belowP T P).map Nd.name by rw [HV.out, List.take_of_length_le (by omega), HU.out])
          go_wp2_with fail
          go_ret
          exact ⟨oa, oc, V, rfl, HF.out, HO.out, HB.out⟩
end Go.Proofs.YtmabjghjkgicgaaGreat
