/- levels.Levels: the contract. | levels.beside, Pairs: contracts. | levels of a graph that is not there, or was not made. -/
import Derived.Test.YthdmoplclllhjaaGreatLevB
/- LevC -/
namespace Go.Proofs.YthdmoplclllhjaaGreat
open Go.RowKit
set_option linter.unusedVariables false
set_option linter.unusedSimpArgs false

/-- a slice's length -/
def lenV : Value → Nat
  | .slice _ n _ => n
  | _ => 0
/-- the levels of a graph, in rows of one's own -/
def LevTo (w : World) (L : List Cm) (e : Ending) (w' : World) : Prop :=
  ∃ (a : Option Addr) (c : Nat) (R : List Rd) (S : List Cm), e = .returned (.slice a R.length c) ∧ S.Perm L ∧ SortedC S ∧ LevP (lvF S) (R.map (·.v)) ∧ OwnL w' w.heap.size a c R ∧ (∀ r ∈ R, OwnD w' w.heap.size r.a r.c r.v) ∧
    R.Pairwise (fun x y => ∀ k ∈ ob x.a, k ∉ ob y.a) ∧ R.length ≤ 200 ∧ (∀ r ∈ R, r.v.length ≤ 200) ∧ Below w.heap.size w w'
/-- while dots are laid -/
structure LvJ (w1 wa wr : World) (S : List Cm) (a : Option Addr) (c : Nat) (R : List Rd) (T : List Dt) (left : Dt → Bool) : Prop where
  e : LvE wa wr a c R (lvF S) T
  nd : T.Nodup
  mem : ∀ d, d ∈ T ↔ (lvF S d).isSome ∧ left d = false
  top : R.length = lvMax (lvF S) T
  lo : wa.heap.size ≤ wr.heap.size
  bel : Below w1.heap.size w1 wr
/-- the rest of what is known while a row is sought -/
structure DxE (w1 wa w3 wx : World) (S : List Cm) (mb : Nat) (d : Dt) (left : Dt → Bool) (cnt : Nat) : Prop where
  rng : RangeF wx Tryz.prog 41 mkD mb w1.heap.size S.length (lvV S) left cnt
  box : wx.heap[w3.heap.size]? = some (.cells #[.int .u8 d.1.1, .int .u32 d.1.2, .int .u64 d.2] 41 (0, 0))
  lo : wa.heap.size ≤ wx.heap.size
  bel : Below w1.heap.size w1 wx
theorem lvF_mem {S : List Cm} {d : Dt} (h : (lvF S d).isSome) : ∃ c ∈ S, c.d = d := by
  refine Classical.byContradiction fun hn => ?_
  have : lvF S d = none := lvF_none.2 fun c hc e => hn ⟨c, hc, e⟩
  rw [this] at h; cases h
theorem nodup_le_of_sub : ∀ {T U : List Dt}, T.Nodup → (∀ d ∈ T, d ∈ U) → T.length ≤ U.length
  | [], U, _, _ => Nat.zero_le _
  | d :: T, U, h, hs => by
    rw [List.nodup_cons] at h
    have hd := hs d (by simp)
    have h1 := nodup_le_of_sub (T := T) (U := U.erase d) h.2 (fun x hx => (List.mem_erase_of_ne (fun e => h.1 (by rw [← e]; exact hx))).2 (hs x (by simp [hx])))
    rw [List.length_erase_of_mem hd] at h1
    have := List.length_pos_of_mem hd
    simp only [List.length_cons]; omega
theorem RangeF.own {w w2 wa : World} {mb it n cnt : Nat} {f : Dt → Option Value} {left : Dt → Bool} {a : Option Addr} {c m : Nat} {e : TypeId} {size : Nat} {xs : List Value} (h : RangeF w Tryz.prog 41 mkD mb it n f left cnt) (ho : w.ownsRow wa.heap.size e size (.slice a m c) m xs) (hm : mb < wa.heap.size) (hi : it < wa.heap.size) (hc : Chg (ob a) w w2) : RangeF w2 Tryz.prog 41 mkD mb it n f left cnt :=
  h.chg hc (fun hk => by have := (owns_lt ho mb hk).1; omega) (fun hk => by have := (owns_lt ho it hk).1; omega)
theorem OwnL.ptr {w : World} {base : Nat} {a : Option Addr} {c : Nat} {R : List Rd} (h : OwnL w base a c R) (h0 : 0 < R.length) : ∃ g, a = some ⟨g, 0, none⟩ := by
  rcases h.2 with ⟨h1, h2⟩ | ⟨g, cap, cur, h1, _⟩
  · simp at h1; omega
  · simp at h1; exact ⟨g, h1.1⟩
theorem OwnL.cell {w : World} {base g c q : Nat} {R : List Rd} {r : Rd} (h : OwnL w base (some ⟨g, 0, none⟩) c R) (hr : R[q]? = some r) : w.cell? ⟨g, q, none⟩ = some (.slice r.a r.v.length r.c) := by
  have hq : q < R.length := (List.getElem?_eq_some_iff.1 hr).1
  have := World.ownsRow.cellAt h q (by rw [Nat.mul_one]; exact hq)
  rw [this, rdcells_at hr]
set_option maxRecDepth 100000 in
set_option maxHeartbeats 8000000 in
theorem levels_any (g : Value) (L : List Cm) (w : World) (h : Coms w g L) : Calls Tryz.prog 57 #[g] w (LevTo w L) := by
  have H := Lib.hid h
  clear h
  go_enter Tryz.func57, Tryz.ntmps57
  go_wp2_with fail
  refine (levOf_any g L _ H.out).mono ?_
  rintro e w1 ⟨mb, S, rfl, hp, hs, hok, hlo, hm, hb⟩
  have HP := Lib.hid hp
  have HS := Lib.hid hs
  have HOk := Lib.hid hok
  have HB := Lib.hid hb
  have HM := Lib.hid hm.mapF
  have hmb := hm.lt
  have hSl : S.length ≤ 200 := by rw [hp.length_eq]; exact H.out.max
  have hw1 := hb.size
  clear hp hs hok hm hb
  go_wp2_with (at_range; go_must (refine wpList_range_F keysD rfl _ _ rfl _ Tryz.underlying63 mb S.length (lvV S) rfl HM.out ?_))
  intro wa cnt0 hrg0 hcn0 hg0 hs0
  have hb0 : Below w1.heap.size w1 wa := (Below.refl _ _).grown hg0 (Nat.le_refl _) (by simp)
  have hit : w1.heap.size < wa.heap.size := hrg0.lt
  have hmw : mb < wa.heap.size := by omega
  have HB0 := Lib.hid hb0
  have Hrg0 := Lib.hid hrg0
  clear hg0 hs0 hb0 hrg0
  go_wp2_with fail
  go_loopw [2, 10] (fun ov _ wr => ∃ (left : Dt → Bool) (cnt : Nat) (T : List Dt) (a : Option Addr) (c : Nat) (R : List Rd), ov = .slice a (List.length R) c ∧ RangeF wr Tryz.prog 41 mkD mb w1.heap.size S.length (lvV S) left cnt ∧ LvJ w1 wa wr S a c R T left) (fun _ _ wr => wr.rangeLeft mb w1.heap.size)
  case atStart => exact ⟨_, cnt0, [], none, 0, [], rfl, Hrg0.out, LvE.start _ _ _, .nil, fun d => ⟨fun h => (by cases h), fun h => (by have h2 := h.2; simp only [lvV, Option.isSome_map] at h2; rw [h.1] at h2; cases h2)⟩, rfl, Nat.le_refl _, HB0.out⟩
  case round =>
    obtain ⟨left, cnt, T, a, c, R, rfl, hrg, hJ⟩ := hrel
    have J := Lib.hid hJ
    have Hrg := Lib.hid hrg
    have hlo := hJ.lo
    have hTl : T.length ≤ 200 := by
      have := nodup_le_of_sub (U := S.map (·.d)) hJ.nd (fun d hd => by obtain ⟨c, hc, rfl⟩ := lvF_mem ((hJ.mem d).1 hd).1; exact List.mem_map.2 ⟨c, hc, rfl⟩)
      rw [List.length_map] at this; omega
    have hRl : R.length ≤ 200 := by
      rw [hJ.top]
      rcases lvMax_has (lvF S) T with h | ⟨d, _, h⟩
      · omega
      · have := (lvF_le h).2; omega
    clear hJ Hrg0 hcn0
    go_wp2_with (at_next; go_must (refine wpList_next_D rfl _ rfl _ _ _ _ _ _ rfl hrg ?_ ?_))
    · intro hl
      clear hrg
      have HT := Lib.hid (show ∀ d, d ∈ T ↔ (lvF S d).isSome from fun d => by
        rw [J.out.mem]
        refine ⟨fun h => h.1, fun h => ⟨h, ?_⟩⟩
        obtain ⟨c, hc, rfl⟩ := lvF_mem h
        exact hl _ (HOk.out c hc).d)
      have E0 := Lib.hid (LvS.start J.out.e.row J.out.e.each J.out.e.apart hlo)
      clear hl
      go_wp2_with fail
      go_loopw [36] (fun j wx => ∃ (q : Nat) (R' : List Rd), q ≤ R.length ∧ j = .int .i64 q ∧ LvS wa.heap.size wr wx a c R R' q) (fun j _ => R.length - (intOf j).toNat)
      case atStart => exact ⟨0, R, Nat.zero_le _, rfl, E0.out⟩
      case round =>
        obtain ⟨q, R', hq, rfl, hE⟩ := hrel
        have E := Lib.hid hE
        have hlR := hE.len
        have HlR := Lib.hid hlR
        by_cases hlt : q < R.length
        · obtain ⟨g, rfl⟩ := hE.row.ptr (by omega)
          obtain ⟨⟨ra, rc, rv⟩, hr⟩ : ∃ r, R'[q]? = some r := ⟨R'[q], by simp⟩
          have d0 := hE.row.cell hr
          have HR := Lib.hid hr
          have hrl : rv.length ≤ 200 := by
            have h0 := List.getElem?_eq_getElem hlt
            have h1 := (hE.same q _ _ h0 hr).1.length_eq
            rw [J.out.e.on q _ h0] at h1
            have : (onLv (lvF S) T q).length ≤ T.length := List.length_filter_le _ _
            dsimp only at h1
            omega
          dsimp only at d0
          clear hE hr hlR
          go_wp2_with fail
          refine (sortD_any ra rc wa.heap.size rv _ (E.out.each _ (List.mem_of_getElem? HR.out)) (by omega)).mono ?_
          rintro e w9 ⟨rfl, v', hl', hp', hs', ho', hc'⟩
          have E9 := Lib.hid (E.out.sorted HR.out hl' hp' hs' ho' hc')
          clear hl' hp' hs' ho' hc' d0
          go_wp2_with fail
          go_roundw
          case rel => exact ⟨q + 1, _, by omega, by go_num, E9.out⟩
          case measure => simp [intOf]; omega
        · have hqe : q = R.length := by omega
          subst hqe
          clear hE hlR
          have HL := Lib.hid (levP_of J.out.e J.out.nd HT.out J.out.top (fun d n h => (lvF_le h).1) E.out)
          have Hlr := Lib.hid (show ∀ r ∈ R', r.v.length ≤ 200 from fun r hr => by
            obtain ⟨i, hi⟩ := List.getElem?_of_mem hr
            have hi' : i < R.length := by have := (List.getElem?_eq_some_iff.1 hi).1; rw [HlR.out] at this; exact this
            have h0 := List.getElem?_eq_getElem hi'
            have h1 := (E.out.same i _ _ h0 hi).1.length_eq
            rw [J.out.e.on i _ h0] at h1
            have : (onLv (lvF S) T i).length ≤ T.length := List.length_filter_le _ _
            omega)
          go_wp2_with fail
          go_ret
          exact ⟨a, c, R', S, (by rw [HlR.out]; rfl), HP.out, HS.out, HL.out, owns_base E.out.row (by omega), fun r hr => owns_base (E.out.each r hr) (by omega), E.out.apart, by rw [HlR.out]; exact hRl, Hlr.out, (HB.out.trans (J.out.bel.mono hw1)).trans (E.out.bel.mono (by omega))⟩
    · intro rr ii qq xv w3 cnt1 hX hen
      clear hrg
      have hlt1 := hX.lt
      have hokd := hX.ok
      obtain ⟨i, hi, hxv⟩ : ∃ i : Nat, lvF S ((rr, ii), qq) = some (i + 1) ∧ xv = .int .i64 ((i : Int) + 1) := by
        have hv := hX.val
        unfold lvV at hv
        cases hf : lvF S ((rr, ii), qq) with
        | none => rw [hf] at hv; cases hv
        | some n =>
          rw [hf] at hv
          have h1 := (lvF_le hf).1
          have hv := Option.some.inj hv
          exact ⟨n - 1, by rw [Nat.sub_add_cancel h1], by rw [← hv]; exact congrArg (Value.int .i64) (by omega)⟩
      subst hxv
      have hil : i + 1 ≤ S.length := (lvF_le hi).2
      have hs3 := hX.size
      have hw3 : wa.heap.size ≤ w3.heap.size := by omega
      have hc3 := Chg.grown hX.grown
      simp only [Option.toList_some] at hc3
      obtain ⟨o, ho, how⟩ := Hrg.out.iter_walk
      have hNC : NoCell wr [w1.heap.size] := fun k hk C t fr hh => by
        rw [List.mem_singleton] at hk
        subst hk
        rw [ho] at hh
        cases hh; cases how
      have hE3 := J.out.e.chg hc3 hNC
      have hB3 : Below w1.heap.size w1 w3 := J.out.bel.trans (hc3.below J.out.bel.size (by simp))
      have E4 := Lib.hid (hE3.below ((Below.refl _ _).alloc (Nat.le_refl _) (.cells #[.int .u8 rr, .int .u32 ii, .int .u64 qq] 41)))
      have D4 : Hid (DxE w1 wa w3 (w3.alloc (.cells #[.int .u8 rr, .int .u32 ii, .int .u64 qq] 41)) S mb ((rr, ii), qq) (fun y => left y && !decide (y = ((rr, ii), qq))) cnt1) := Lib.hid ⟨hX.rng.alloc _, heap_new _ _, by simp; omega, hB3.alloc hB3.size _⟩
      have Hi := Lib.hid hi
      have Was := Lib.hid hX.was
      have Htop := Lib.hid J.out.top
      have hMx : lvMax (lvF S) T ≤ 200 := by rw [← J.out.top]; exact hRl
      have Hokd := Lib.hid hokd
      clear hX ho how hNC hE3 hB3 hc3 hi hs3 hokd
      go_wp2_with fail
      go_loopw [2] (fun ov wx => ∃ (a : Option Addr) (c : Nat) (R : List Rd), ov = .slice a (List.length R) c ∧ LvE wa wx a c R (lvF S) T ∧ R.length ≤ max (lvMax (lvF S) T) (i + 1) ∧ DxE w1 wa w3 wx S mb ((rr, ii), qq) (fun y => left y && !decide (y = ((rr, ii), qq))) cnt1) (fun ov _ => i + 1 - lenV ov)
      case atStart => exact ⟨a, c, R, rfl, E4.out, by rw [Htop.out]; omega, D4.out⟩
      case round =>
        obtain ⟨a, c, R, rfl, hE, hle, hD⟩ := hrel
        have E := Lib.hid hE
        have D := Lib.hid hD
        have hR4 : R.length ≤ 400 := by omega
        have z0 := heap_lt hD.box
        clear hE hD E4 D4 Htop
        by_cases hlt : R.length < i + 1
        · go_wp2_with (at_builtin; go_must (refine wpList_appL rfl _ _ rfl wa.heap.size a c R rfl ?o1 (some ⟨wr.heap.size, 0, none⟩) 1 [⟨none, 0, []⟩] rfl ?s1 ?n1 ?b1 ?_))
          case o1 => exact (E.out.below ((Below.refl _ _).alloc (Nat.le_refl _) _)).row
          case s1 => exact Sl.blk (n := 1) (size := 1) (heap_new _ _) rfl (by decide)
          case n1 => simp; omega
          case b1 => have := D.out.lo; simp; omega
          intro v' a' c' w5 hv' ho5 hb5 hch5
          have hA : Below wr.heap.size wr (wr.alloc (.cells #[.slice none 0 0] 23)) := (Below.refl _ _).alloc (Nat.le_refl _) _
          have hrow := (E.out.below hA).row
          have E5 := Lib.hid ((E.out.below hA).push hch5 (hv' ▸ ho5))
          have D5 : Hid (DxE w1 wa w3 w5 S mb ((rr, ii), qq) (fun y => left y && !decide (y = ((rr, ii), qq))) cnt1) := Lib.hid ⟨RangeF.own (D.out.rng.alloc _) hrow hmw hit hch5,
            heap_chg ((hA.block _ (heap_lt D.out.box)).trans D.out.box) hch5 (fun hk => by
              obtain ⟨C, fr, hh⟩ := ob_row hrow _ hk
              rw [(hA.block _ (heap_lt D.out.box)).trans D.out.box] at hh
              injection hh with hh
              injection hh with _ h2
              exact sd_ne h2.symm), by have := D.out.lo; have h9 := hb5.size; simp at h9; omega, (D.out.bel.trans (hA.mono D.out.bel.size)).trans (hb5.mono (by omega))⟩
          have Hv := Lib.hid hv'
          have hl' : v'.length = R.length + 1 := by rw [hv']; simp
          have Hl' := Lib.hid hl'
          clear hv' ho5 hb5 hch5 hA hrow hl'
          go_wp2_with fail
          go_roundw
          case rel => exact ⟨a', c', R ++ [⟨none, 0, []⟩], (by rw [← Hv.out]), E5.out, (by rw [← Hv.out, Hl'.out]; omega), D5.out⟩
          case measure => simp only [lenV]; rw [Hl'.out]; omega
        · obtain ⟨⟨ra, rc, rv⟩, hr⟩ : ∃ r, R[i]? = some r := ⟨R[i]'(by omega), by simp⟩
          obtain ⟨g', rfl⟩ := E.out.row.ptr (by omega)
          have d0 := E.out.row.cell hr
          have x0 := cells_at D.out.box
          have HR := Lib.hid hr
          clear hr
          dsimp only at d0 x0
          go_upto_region 6 with (fail)
          refine region_text [([0, 1, 2, 3, 4, 5, 6, 7, 8, 9, 10, 11, 12], false)] mixed (by kernel_rfl) ?_
          simp only [wpSegs, List.map_cons, List.map_nil, List.getD_cons_succ, List.getD_cons_zero]
          go_wp2_with (at_builtin; go_must (refine wpList_appD3 rfl _ _ rfl wa.heap.size ra rc rv rfl ?o2 (some ⟨wr.heap.size, 0, none⟩) 1 [((rr, ii), qq)] rfl ?s2 ?n2 ?b2 ?_))
          case o2 => exact (E.out.below (((Below.refl _ _).alloc (Nat.le_refl _) _).drew)).each _ (List.mem_of_getElem? HR.out)
          case s2 => exact Sl.blk (n := 1) (size := 3) (heap_new _ _) rfl (by decide)
          case n2 =>
            have h1 := E.out.on i _ HR.out
            have h2 : (onLv (lvF S) T i).length ≤ T.length := List.length_filter_le _ _
            rw [← h1] at h2
            dsimp only at h2
            simp; omega
          case b2 => have := D.out.lo; simp; omega
          have hA : Below wr.heap.size wr (wr.alloc (.cells #[.int .u8 rr, .int .u32 ii, .int .u64 qq] 41)).drew := ((Below.refl _ _).alloc (Nat.le_refl _) _).drew
          have hE6 := E.out.below hA
          intro v' a' c' w5 hv' ho5 hb5 hch5 hn5
          have hown := hE6.each _ (List.mem_of_getElem? HR.out)
          have hrow5 := owns_chg hE6.row hch5 (fun k hk hk2 => owns_dif hE6.row hown sd_ne k hk hk2)
          have d5 := OwnL.cell hrow5 HR.out
          have f5 := fun o => World.ownsRow.frozenAt hrow5 o
          have hgl := owns_lt hE6.row g' (by simp [ob])
          have Hv := Lib.hid hv'
          have E7 := Lib.hid (hE6.put HR.out Hi.out hch5 (hv' ▸ ho5) (by simpa using hn5))
          have R7 := Lib.hid (RangeF.chg (RangeF.own ((D.out.rng.alloc (.cells #[.int .u8 rr, .int .u32 ii, .int .u64 qq] 41)).drew') hown hmw hit hch5) (Chg.setCell w5 ⟨g', i, none⟩ (.slice a' (rv ++ [((rr, ii), qq)]).length c')) (by simp; omega) (by simp; omega))
          have B7 := Lib.hid (show Below w1.heap.size w1 (w5.setCell ⟨g', i, none⟩ (.slice a' (rv ++ [((rr, ii), qq)]).length c')) from ((D.out.bel.trans (hA.mono D.out.bel.size)).trans (hb5.mono (by omega))).trans ((Chg.setCell w5 ⟨g', i, none⟩ _).below (by have h9 := hb5.size; have := D.out.bel.size; simp at h9; omega) (by simp; omega)))
          have L7 := Lib.hid (show wa.heap.size ≤ (w5.setCell ⟨g', i, none⟩ (.slice a' (rv ++ [((rr, ii), qq)]).length c')).heap.size from by have h9 := hb5.size; have := D.out.lo; simp at h9 ⊢; omega)
          have M7 := Lib.hid (show ∀ d, d ∈ T ++ [((rr, ii), qq)] ↔ (lvF S d).isSome ∧ (left d && !decide (d = ((rr, ii), qq))) = false from fun d => by
            rw [List.mem_append, J.out.mem, List.mem_singleton]
            by_cases e : d = ((rr, ii), qq)
            · subst e; simp [Hi.out]
            · simp [e])
          have N7 := Lib.hid (show (T ++ [((rr, ii), qq)]).Nodup from List.nodup_append.2 ⟨J.out.nd, by simp, fun x hx y hy e => by
            rw [List.mem_singleton] at hy
            subst e hy
            have := ((J.out.mem _).1 hx).2
            rw [Was.out] at this; cases this⟩)
          have T7 := Lib.hid (show (R.set i ⟨a', c', rv ++ [((rr, ii), qq)]⟩).length = lvMax (lvF S) (T ++ [((rr, ii), qq)]) from by
            rw [List.length_set, lvMax_snoc, Hi.out, Option.getD_some]
            have := E.out.max
            omega)
          clear hv' ho5 hb5 hch5 hn5 hA hE6 hown hrow5 d0 x0
          go_wp2_with fail
          refine And.intro (by kernel_rfl) ?_
          go_wp2_with fail
          go_roundw
          case rel =>
            rw [Hv.out]
            exact ⟨_, cnt1, T ++ [((rr, ii), qq)], some ⟨g', 0, none⟩, c, R.set i ⟨a', c', rv ++ [((rr, ii), qq)]⟩, (by rw [List.length_set]), R7.out, E7.out, N7.out, M7.out, T7.out, L7.out, B7.out⟩
          case measure => rw [Hv.out, R7.out.left_eq, Hrg.out.left_eq]; exact hlt1
end Go.Proofs.YthdmoplclllhjaaGreat

/- LevD -/
namespace Go.Proofs.YthdmoplclllhjaaGreat
open Go.RowKit
set_option linter.unusedVariables false
set_option linter.unusedSimpArgs false

set_option maxRecDepth 100000 in
set_option maxHeartbeats 4000000 in
theorem besideC_any (u v : Cw) (w : World) (hu : CwAt w u) (hv : CwAt w v) (h1 : u.c.vv.length ≤ 1000000) (h2 : v.c.vv.length ≤ 1000000) :
    Calls Tryz.prog 124 #[.agg (cwcells u), .agg (cwcells v)] w fun e w' => e = .returned (.bool (besideP u.c v.c)) ∧ Below w.heap.size w w' := by
  obtain ⟨⟨⟨⟨r, i⟩, s⟩, ps, uu, t, ⟨k, n, x, p, ds⟩⟩, qa, qc, ua, uc, pa, pc, da, dc⟩ := u
  obtain ⟨⟨⟨⟨r', i'⟩, s'⟩, ps', uu', t', ⟨k', n', x', p', ds'⟩⟩, qa', qc', ua', uc', pa', pc', da', dc'⟩ := v
  have HU := Lib.hid hu
  have HV := Lib.hid hv
  dsimp only at h1 h2
  clear hu hv
  simp only [cwcells]
  go_enter Tryz.func124, Tryz.ntmps124
  go_wp2_with fail
  refine (has_any ua uc uu r' i' s' _ (HU.out.vv.below (((Below.refl _ _).alloc (Nat.le_refl _) _).alloc (by simp) _)) h1 HU.out.ok.vv HV.out.ok.d.1).mono ?_
  rintro e w1 ⟨rfl, hb⟩
  obtain ⟨x0, x1, hz, hB⟩ := new2 hb
  have HB := Lib.hid hB
  have d0 := cells_at x0
  have d1 := cells_at x1
  try simp only [ccells] at d0 d1
  clear x0 x1 hB hb
  cases hh : hasV uu ((r', i'), s') with
  | true =>
    have Hr := Lib.hid (show besideP ⟨((r, i), s), ps, uu, t, ⟨k, n, x, p, ds⟩⟩ ⟨((r', i'), s'), ps', uu', t', ⟨k', n', x', p', ds'⟩⟩ = false by simp [besideP, hh])
    go_wp2_with fail
    go_ret
    exact ⟨by rw [Hr.out]; rfl, HB.out⟩
  | false =>
    have Hr := Lib.hid (show besideP ⟨((r, i), s), ps, uu, t, ⟨k, n, x, p, ds⟩⟩ ⟨((r', i'), s'), ps', uu', t', ⟨k', n', x', p', ds'⟩⟩ = !hasV uu' ((r, i), s) by simp [besideP, hh])
    go_wp2_with fail
    refine (has_any ua' uc' uu' r i s _ (HV.out.vv.below HB.out) h2 HV.out.ok.vv HU.out.ok.d.1).mono ?_
    rintro e w2 ⟨rfl, hb⟩
    have HB2 := Lib.hid (below2 HB.out hb HB.out.size)
    clear hb
    go_wp2_with fail
    go_ret
    exact ⟨by rw [Hr.out]; rfl, HB2.out⟩
theorem slice_hiC (oa : Option Addr) (n oc j : Nat) (hj : j ≤ oc) (W : World) : (Instr.sliceAt 29 (.slice oa n oc) none (some (.int .i64 (j : Int))) none).run Tryz.prog W = .ok (.slice oa j oc) W := by
  simp [go_sem, Instr.sliceAt, Instr.slice, run_underlying Tryz.underlying29]
  omega
/-- commits in rows of one's own, all in a row -/
structure ComR (w wr : World) (a : Option Addr) (c : Nat) (ss : List Cw) : Prop where
  row : OwnC wr w.heap.size a c ss
  each : ∀ v ∈ ss, CwOwn wr w.heap.size v
  bel : Below w.heap.size w wr
theorem ComR.below {w wr w2 : World} {a : Option Addr} {c : Nat} {ss : List Cw} (h : ComR w wr a c ss) (hb : Below wr.heap.size wr w2) : ComR w w2 a c ss :=
  ⟨h.row.below hb, fun v hv => (h.each v hv).below hb, below2 h.bel hb h.bel.size⟩
theorem pairsP_succ (S : List Cm) (q : Nat) : pairsP S (q + 1) = pairsP S q + pairsAt S q := by unfold pairsP; rw [List.range_succ, List.map_append, List.sum_append]; simp
theorem pairsAt_of {S : List Cm} {q : Nat} {a : Cm} (h : S[q]? = some a) : pairsAt S q = ((S.take q).filter fun b => besideP a b).length := by unfold pairsAt; rw [h]
def PairsTo (w : World) (L : List Cm) (e : Ending) (w' : World) : Prop := ∃ S : List Cm, S.Perm L ∧ SortedC S ∧ e = .returned (.int .i64 ((pairsP S S.length : Nat) : Int)) ∧ Below w.heap.size w w'
set_option maxRecDepth 100000 in
set_option maxHeartbeats 8000000 in
theorem pairs_any (g : Value) (L : List Cm) (w : World) (h : Coms w g L) : Calls Tryz.prog 64 #[g] w (PairsTo w L) := by
  have H := Lib.hid h
  clear h
  go_enter Tryz.func64, Tryz.ntmps64
  go_wp2_with fail
  refine (H.out.coms _ (Below.refl _ _)).mono ?_
  rintro e w1 ⟨a, c, ss, rfl, hp, hs, ho, hc, hb⟩
  have hl : ss.length ≤ 200 := by have := hp.length_eq; unfold cms at this; rw [List.length_map] at this; have := H.out.max; omega
  have HE := Lib.hid (ComR.mk ho hc hb)
  have HP := Lib.hid hp
  have HS := Lib.hid hs
  have hcl : (cms ss).length = ss.length := by unfold cms; rw [List.length_map]
  have Hcl := Lib.hid hcl
  have hcap : ss.length ≤ c := (Sl.of_owns ho).2.1
  clear hp hs ho hc hb hcl
  go_wp2_with fail
  go_loopw [2, 12] (fun nv j wr => ∃ (q m : Nat), q ≤ ss.length ∧ j = .int .i64 q ∧ nv = .int .i64 (m : Nat) ∧ m ≤ q * 200 ∧ Hid (m = pairsP (cms ss) q) ∧ ComR w wr a c ss) (fun _ j _ => ss.length - (intOf j).toNat)
  case atStart => exact ⟨0, 0, Nat.zero_le _, rfl, rfl, by decide, Lib.hid rfl, HE.out⟩
  case round =>
    obtain ⟨q, m, hq, rfl, rfl, hm, HM, hE⟩ := hrel
    have E := Lib.hid hE
    clear hE HE
    by_cases hlt : q < ss.length
    · obtain ⟨g, rfl⟩ := E.out.row.ptr (by omega)
      obtain ⟨v, hv⟩ : ∃ v, ss[q]? = some v := ⟨ss[q], by simp [hlt]⟩
      have hmem := List.mem_of_getElem? hv
      have HR := Lib.hid (E.out.row.range hv)
      have HA := Lib.hid (E.out.each v hmem).at_
      have HMay := Lib.hid (H.out.may v.c (HP.out.mem_iff.1 (List.mem_map.2 ⟨v, hmem, rfl⟩)))
      have hvl : v.c.vv.length ≤ 64 := canon_few HMay.out.canon
      have hvc : (cms ss)[q]? = some v.c := by unfold cms; rw [List.getElem?_map, hv]; rfl
      have HPq := Lib.hid (pairsAt_of hvc)
      clear hv hmem hvc
      have hrun := slice_hiC (some ⟨g, 0, none⟩) ss.length c q (by omega)
      obtain ⟨⟨⟨⟨r, i⟩, s⟩, ps, uu, t, ⟨k, n, x, p, ds⟩⟩, qa, qc, ua, uc, pa, pc, da, dc⟩ := v
      dsimp only at hvl
      have B0 : Hid (BoxE 46 wr (wr.alloc (.cells (ccells r i s qa ps.length qc ua uu.length uc t k pa p.length pc n x da ds.length dc) 46)) (ccells r i s qa ps.length qc ua uu.length uc t k pa p.length pc n x da ds.length dc)) := Lib.hid ⟨heap_new _ _, (Below.refl _ _).alloc (Nat.le_refl _) _⟩
      go_wp2_with (refine wpList_load_cw rfl _ rfl g (q * 11) (by first | rfl | simp [Addr.add]) ⟨⟨((r, i), s), ps, uu, t, ⟨k, n, x, p, ds⟩⟩, qa, qc, ua, uc, pa, pc, da, dc⟩ HR.out ?_; simp only [cwcells])
      go_loopw [2, 21] (fun nv j wx => ∃ (z y : Nat), z ≤ q ∧ j = .int .i64 z ∧ nv = .int .i64 (y : Nat) ∧ y ≤ m + z ∧ Hid (y = m + (((cms ss).take z).filter fun b => besideP ⟨((r, i), s), ps, uu, t, ⟨k, n, x, p, ds⟩⟩ b).length) ∧ BoxE 46 wr wx (ccells r i s qa ps.length qc ua uu.length uc t k pa p.length pc n x da ds.length dc)) (fun _ j _ => q - (intOf j).toNat)
      case atStart => exact ⟨0, m, Nat.zero_le _, rfl, rfl, by omega, Lib.hid (by simp), B0.out⟩
      case round =>
        obtain ⟨z, y, hz, rfl, rfl, hy, HY, hB⟩ := hrel
        have B := Lib.hid hB
        have d0 := cells_at hB.blk
        simp only [ccells] at d0
        have z0 := heap_lt hB.blk
        clear hB B0
        by_cases hlt2 : z < q
        · obtain ⟨v2, hv2⟩ : ∃ v, ss[z]? = some v := ⟨ss[z], by simp⟩
          have hmem2 := List.mem_of_getElem? hv2
          have E2 := Lib.hid (E.out.below B.out.bel)
          have HR2 := Lib.hid (E2.out.row.range hv2)
          have HA2 := Lib.hid (E2.out.each v2 hmem2).at_
          have HMay2 := Lib.hid (H.out.may v2.c (HP.out.mem_iff.1 (List.mem_map.2 ⟨v2, hmem2, rfl⟩)))
          have hvl2 : v2.c.vv.length ≤ 64 := canon_few HMay2.out.canon
          have hvc2 : (cms ss)[z]? = some v2.c := by unfold cms; rw [List.getElem?_map, hv2]; rfl
          have HY2 := Lib.hid (show (((cms ss).take (z + 1)).filter fun b => besideP ⟨((r, i), s), ps, uu, t, ⟨k, n, x, p, ds⟩⟩ b).length = (((cms ss).take z).filter fun b => besideP ⟨((r, i), s), ps, uu, t, ⟨k, n, x, p, ds⟩⟩ b).length + if besideP ⟨((r, i), s), ps, uu, t, ⟨k, n, x, p, ds⟩⟩ v2.c = true then 1 else 0 by
            rw [take_snoc' hvc2, List.filter_append, List.length_append]
            cases hbz : besideP ⟨((r, i), s), ps, uu, t, ⟨k, n, x, p, ds⟩⟩ v2.c <;> simp [hbz])
          clear hv2 hmem2 hvc2
          obtain ⟨⟨⟨⟨r', i'⟩, s'⟩, ps', uu', t', ⟨k', n', x', p', ds'⟩⟩, qa', qc', ua', uc', pa', pc', da', dc'⟩ := v2
          dsimp only at hvl2
          have B2 := Lib.hid (B.out.step ((Below.refl _ _).alloc (Nat.le_refl _) (.cells (ccells r' i' s' qa' ps'.length qc' ua' uu'.length uc' t' k' pa' p'.length pc' n' x' da' ds'.length dc') 46)))
          go_wp2_with (refine wpList_load_cw rfl _ rfl g (z * 11) (by first | rfl | simp [Addr.add]) ⟨⟨((r', i'), s'), ps', uu', t', ⟨k', n', x', p', ds'⟩⟩, qa', qc', ua', uc', pa', pc', da', dc'⟩ HR2.out ?_; simp only [cwcells])
          refine (besideC_any ⟨⟨((r, i), s), ps, uu, t, ⟨k, n, x, p, ds⟩⟩, qa, qc, ua, uc, pa, pc, da, dc⟩ ⟨⟨((r', i'), s'), ps', uu', t', ⟨k', n', x', p', ds'⟩⟩, qa', qc', ua', uc', pa', pc', da', dc'⟩ _ (HA.out.below B2.out.bel) (HA2.out.below ((Below.refl _ _).alloc (Nat.le_refl _) _)) (by dsimp only; omega) (by dsimp only; omega)).mono ?_
          rintro e w9 ⟨rfl, hb9⟩
          have B9 := Lib.hid (B2.out.step hb9)
          clear hb9 d0 z0
          cases hbe : besideP ⟨((r, i), s), ps, uu, t, ⟨k, n, x, p, ds⟩⟩ ⟨((r', i'), s'), ps', uu', t', ⟨k', n', x', p', ds'⟩⟩ with
          | true =>
            have HY3 := Lib.hid (show y + 1 = m + (((cms ss).take (z + 1)).filter fun b => besideP ⟨((r, i), s), ps, uu, t, ⟨k, n, x, p, ds⟩⟩ b).length by rw [HY2.out, HY.out, hbe, if_pos rfl]; omega)
            clear hbe
            go_wp2_with fail
            go_roundw
            case rel => exact ⟨z + 1, y + 1, by omega, by go_num, congrArg (Value.int .i64) (by omega), by omega, HY3, B9.out⟩
            case measure => simp [intOf]; omega
          | false =>
            have HY3 := Lib.hid (show y = m + (((cms ss).take (z + 1)).filter fun b => besideP ⟨((r, i), s), ps, uu, t, ⟨k, n, x, p, ds⟩⟩ b).length by rw [HY2.out, hbe, if_neg (by simp)]; exact HY.out)
            clear hbe
            go_wp2_with fail
            go_roundw
            case rel => exact ⟨z + 1, y, by omega, by go_num, rfl, by omega, HY3, B9.out⟩
            case measure => simp [intOf]; omega
        · have hzz : z = q := by omega
          subst hzz
          have HY3 := Lib.hid (show y = pairsP (cms ss) (z + 1) by rw [pairsP_succ, HPq.out, ← HM.out]; exact HY.out)
          go_wp2_with fail
          go_roundw
          case rel => exact ⟨z + 1, y, by omega, by go_num, rfl, by omega, HY3, E.out.below B.out.bel⟩
          case measure => simp [intOf]; omega
    · have hqe : q = ss.length := by omega
      subst hqe
      have HMy := Lib.hid (show m = pairsP (cms ss) (cms ss).length by rw [Hcl.out]; exact HM.out)
      go_wp2_with fail
      go_ret
      exact ⟨cms ss, HP.out, HS.out, (by rw [← HMy.out]; rfl), E.out.bel⟩
end Go.Proofs.YthdmoplclllhjaaGreat

/- LevE -/
namespace Go.Proofs.YthdmoplclllhjaaGreat
open Go.RowKit
set_option linter.unusedVariables false
set_option linter.unusedSimpArgs false

theorem LevP.nil {V : List (List Dt)} (h : LevP (lvF []) V) : V = [] := by
  rcases h.tight with h1 | ⟨d, h1⟩
  · exact List.eq_nil_of_length_eq_zero h1
  · have : lvF [] d = none := rfl
    rw [this] at h1; cases h1
theorem levels_no (g : Value) (w : World) (h : NoG w g) : Calls Tryz.prog 57 #[g] w fun e w' => ∃ a c, e = .returned (.slice a 0 c) ∧ Below w.heap.size w w' := by
  refine (levels_any g [] w (Coms.no h)).mono ?_
  rintro e w' ⟨a, c, R, S, rfl, hp, _, hl, _, _, _, _, _, hb⟩
  obtain rfl := hp.eq_nil
  have h1 := hl.nil
  rw [List.map_eq_nil_iff] at h1
  subst h1
  exact ⟨a, c, rfl, hb⟩
theorem pairs_no (g : Value) (w : World) (h : NoG w g) : Calls Tryz.prog 64 #[g] w fun e w' => e = .returned (.int .i64 0) ∧ Below w.heap.size w w' := by
  refine (pairs_any g [] w (Coms.no h)).mono ?_
  rintro e w' ⟨S, hp, _, rfl, hb⟩
  obtain rfl := hp.eq_nil
  exact ⟨rfl, hb⟩
theorem width_no (g : Value) (w : World) (h : NoG w g) : Calls Tryz.prog 66 #[g] w fun e w' => e = .returned (.int .i64 0) ∧ Below w.heap.size w w' := by
  have H := Lib.hid h
  clear h
  go_enter Tryz.func66, Tryz.ntmps66
  go_wp2_with fail
  refine (levels_no g _ H.out).mono ?_
  rintro e w1 ⟨a, c, rfl, hb⟩
  have HB := Lib.hid hb
  clear hb
  go_wp2_with fail
  refine wp_loop_rounds 1 ?_
  rw [rounds_succ]
  go_wp2_with fail
  go_ret
  exact ⟨rfl, HB.out⟩
theorem chain_no (g : Value) (w : World) (h : NoG w g) : Calls Tryz.prog 62 #[g] w fun e w' => e = .returned (.slice none 0 0) ∧ Below w.heap.size w w' := by
  have H := Lib.hid h
  clear h
  go_enter Tryz.func62, Tryz.ntmps62
  go_wp2_with fail
  refine (levOf_any g [] _ (Coms.no H.out)).mono ?_
  rintro e w1 ⟨mb, S, rfl, hp, hs, hok, hlo, hm, hb⟩
  have HB := Lib.hid (hb.alloc hb.size (.cells #[.map (some mb)] 63))
  clear hp hs hok hlo hm hb
  go_wp2_with fail
  refine (levels_no g _ (H.out.below HB.out)).mono ?_
  rintro e w2 ⟨a, c, rfl, hb⟩
  have HB2 := Lib.hid (below2 HB.out hb HB.out.size)
  clear hb
  go_wp2_with fail
  go_ret
  exact ⟨rfl, HB2.out⟩
theorem besideL_no (g : Value) (w : World) (h : NoG w g) (r i s : Int) : Calls Tryz.prog 60 #[g, .agg #[.int .u8 r, .int .u32 i, .int .u64 s]] w fun e w' => e = .returned (.tuple #[.slice none 0 0, .int .i64 1]) ∧ Below w.heap.size w w' := by
  have H := Lib.hid h
  have hB : Below w.heap.size w (w.alloc (.cells #[.int .u8 r, .int .u32 i, .int .u64 s] 41)) := (Below.refl _ _).alloc (Nat.le_refl _) _
  have HB := Lib.hid hB
  clear h hB
  go_enter Tryz.func60, Tryz.ntmps60
  go_wp2_with fail
  refine (insert_no g _ _ (H.out.below HB.out) 0 0 0 none 0 0 none 0 0 0 0 none 0 0 0 ⟨#[]⟩ none 0 0 rfl).mono ?_
  rintro e w1 ⟨rfl, hb⟩
  have HB1 := Lib.hid (below2 HB.out hb HB.out.size)
  clear hb
  go_wp2_with fail
  go_ret2
  exact ⟨rfl, HB1.out⟩
end Go.Proofs.YthdmoplclllhjaaGreat
