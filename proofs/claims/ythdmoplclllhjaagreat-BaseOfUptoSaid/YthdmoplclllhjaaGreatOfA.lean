/- varvelaw13.reach: the contract. | base.ancestors: the contract. (printed by wip/tools/genanca.py) | base.Of: the contract. (printed by wip/tools/genofa.py) -/
import Derived.Test.YthdmoplclllhjaaGreatBothA
import Derived.Test.YthdmoplclllhjaaGreatDagP
import Derived.Test.YthdmoplclllhjaaGreatGreA
import Derived.Test.YthdmoplclllhjaaGreatGraV
import Derived.Test.YthdmoplclllhjaaGreatRgA
/- RchA -/
namespace Go.Proofs.YthdmoplclllhjaaGreat
open Go.RowKit
set_option linter.unusedVariables false
set_option linter.unusedSimpArgs false

theorem SeenAt.blk {w : World} {b : Nat} {L : List Dt} (h : SeenAt w b L) : ∃ es clock, w.heap[b]? = some (.map es clock) := by
  obtain ⟨es, clock, h1, _⟩ := h
  exact ⟨es, clock, h1⟩
/-- a graph stays when a map is written -/
theorem RgAt.map {w w' : World} {pw : Nat} {w0 : World} {m : Nat} {b : Bw} {S : List Cw} {la : Option Addr} {lc : Nat} {mb : Nat} (h : RgAt w pw w0 m b S la lc) (hc : Chg [mb] w w') (hm : ∃ es clock, w.heap[mb]? = some (.map es clock)) (h0 : w0.heap.size ≤ mb) : RgAt w' pw w0 m b S la lc := by
  obtain ⟨es, clock, hm⟩ := hm
  refine h.chg hc (fun hx => ?_) (fun k hk hx => ?_) (by simpa using h0)
  · rw [List.mem_singleton] at hx
    subst hx
    have h1 := h.blk
    rw [hm] at h1; cases h1
  · rw [List.mem_singleton] at hx
    subst hx
    obtain ⟨C, fr, hh⟩ := ob_row h.row k hk
    rw [hm] at hh; cases hh
end Go.Proofs.YthdmoplclllhjaaGreat

/- AncA -/
namespace Go.Proofs.YthdmoplclllhjaaGreat
open Go.RowKit
set_option linter.unusedVariables false
set_option linter.unusedSimpArgs false

theorem OwnD.takeK {w : World} {base : Nat} {a : Option Addr} {c : Nat} {v : List Dt} (h : OwnD w base a c v) (k : Nat) (hk : k ≤ v.length) (h0 : 0 < v.length) : OwnD w base a c (v.take k) := by
  rcases h.2 with ⟨h1, _⟩ | ⟨g, cap, cur, h3, hb, hg, hnc, hcm, hcs, ht⟩
  · simp at h1
    rw [h1.2.1] at h0
    cases h0
  · simp only [Value.slice.injEq] at h3
    obtain ⟨rfl, _, rfl⟩ := h3
    have hl : (v.take k).length = k := by rw [List.length_take]; omega
    unfold OwnD
    rw [hl]
    refine ⟨by rw [dcells_length, hl], .inr ⟨g, c, cur, rfl, hb, hg, by omega, hcm, hcs, ?_⟩⟩
    rw [show cur.toList.take (k * 3) = (dcells v).take (k * 3) by rw [← ht, List.take_take, Nat.min_eq_left (by omega)]]
    exact flatMap_take dcell_len v k
/-- apart from a commit's rows -/
def FarC (F : List Nat) (v : Cw) : Prop := ∀ k ∈ F, k ∉ ob v.qa ∧ k ∉ ob v.va ∧ k ∉ ob v.pa ∧ k ∉ ob v.da
theorem CwOwn.apart {w w' : World} {base : Nat} {v : Cw} {F : List Nat} (h : CwOwn w base v) (hc : Chg F w w') (hF : FarC F v) : CwOwn w' base v :=
  ⟨owns_chg h.ps hc (fun k hk hm => (hF k hm).1 hk), owns_chg h.vv hc (fun k hk hm => (hF k hm).2.1 hk), owns_chg h.pt hc (fun k hk hm => (hF k hm).2.2.1 hk), owns_chg h.ds hc (fun k hk hm => (hF k hm).2.2.2 hk), h.ok⟩
/-- blocks of a later world are apart -/
theorem CwOwn.far {w : World} {base : Nat} {v : Cw} {F : List Nat} (h : CwOwn w base v) (hF : ∀ k ∈ F, k < base ∨ w.heap.size ≤ k) : FarC F v := fun k hk => by
  have key : ∀ {ty : TypeId} {size n c : Nat} {a : Option Addr} {xs : List Value}, w.ownsRow base ty size (.slice a n c) n xs → k ∉ ob a := fun ho hm => by
    have h1 := owns_lt ho k hm
    rcases hF k hk with h2 | h2 <;> omega
  exact ⟨key h.ps, key h.vv, key h.pt, key h.ds⟩
structure AncE (w wr : World) (L : List Cm) (dots : List Dt) (mb : Nat) (A : List Cw) (a : Option Addr) (c : Nat) (T : List Dt) : Prop where
  map : MapN wr mb A.length (fvW A)
  lo : w.heap.size ≤ mb
  each : ∀ v ∈ A, CwOwn wr w.heap.size v
  row : OwnD wr w.heap.size a c T
  far : ∀ v ∈ A, FarC (ob a) v
  pl : AncJ L dots A T
  bel : Below w.heap.size w wr
theorem AncE.below {w wr w' : World} {L : List Cm} {dots : List Dt} {mb : Nat} {A : List Cw} {a : Option Addr} {c : Nat} {T : List Dt} (h : AncE w wr L dots mb A a c T) (hb : Below wr.heap.size wr w') : AncE w w' L dots mb A a c T :=
  ⟨h.map.below hb, h.lo, fun v hv => (h.each v hv).below hb, h.row.below hb, h.far, h.pl, below2 h.bel hb h.bel.size⟩
theorem AncE.less {w wr : World} {L : List Cm} {dots : List Dt} {mb : Nat} {A : List Cw} {a : Option Addr} {c : Nat} {T V : List Dt} {x : Dt} (h : AncE w wr L dots mb A a c T) (hT : T[T.length - 1]? = some x) (hV : V = T.take (T.length - 1)) (hx : findC L x = none ∨ ∃ v ∈ A, v.c.d = x) : AncE w wr L dots mb A a c V := by
  subst hV
  have h0 := (List.getElem?_eq_some_iff.1 hT).1
  refine ⟨h.map, h.lo, h.each, h.row.takeK _ (by omega) (by omega), h.far, h.pl.less (x := x) ?_ hx, h.bel⟩
  have := take_snoc' hT
  rwa [show T.length - 1 + 1 = T.length by omega, List.take_length] at this
noncomputable def mapSz (w : World) (b : Nat) : Nat := match (Builtin.len_ #[77] 3 #[.map (some b)]).run Tryz.prog w with
  | .ok v _ => (intOf v).toNat
  | _ => 0
theorem MapN.sz {w : World} {b n : Nat} {f : Dt → Option Value} (h : MapN w b n f) : mapSz w b = n := by
  unfold mapSz
  rw [h.len Tryz.underlying77 3]
  simp [intOf]
def lenV : Value → Nat
  | .slice _ n _ => n
  | _ => 0
def AncTo (w : World) (L : List Cm) (dots : List Dt) (e : Ending) (w' : World) : Prop :=
  ∃ (mb : Nat) (A : List Cw), e = .returned (.map (some mb)) ∧ w.heap.size ≤ mb ∧ MapN w' mb A.length (fvW A) ∧ (∀ v ∈ A, CwOwn w' w.heap.size v) ∧ AncP L dots A ∧ Below w.heap.size w w'
theorem fdW_keys {A : List Cw} {x : Dt} (h : fdW A x = none) : ∀ v ∈ A, v.c.d ≠ x := fun v hv e => by
  unfold fdW at h
  rw [List.find?_eq_none] at h
  exact h v hv (by simpa using e)
set_option maxRecDepth 100000 in
set_option maxHeartbeats 16000000 in
theorem ancestors_any (pg gb : Nat) (w0 : World) (m : Nat) (b : Bw) (L : List Cw) (va : Option Addr) (vc : Nat) (vv : List Dt) (da : Option Addr) (dc : Nat) (dots : List Dt) (w : World) (h : GrAt w pg gb w0 m b L va vc vv) (hD : DagP (cms L)) (hd : Vec w da dc dots) (hok : okV dots) (hn : dots.length ≤ 1000) :
    Calls Tryz.prog 97 #[.pointer (some ⟨pg, 0, none⟩), .slice da dots.length dc] w (AncTo w (cms L) dots) := by
  have H := Lib.hid h
  have HD := Lib.hid hD
  have Hd := Lib.hid hd
  have Hok := Lib.hid hok
  have hmax := h.max
  have hmm := @run_makeMap Tryz.prog
  have A0 : Hid (Below w.heap.size w (w.alloc (.map #[] 0))) := Lib.hid ((Below.refl _ _).alloc (Nat.le_refl _) _)
  clear h hD hd hok
  go_enter Tryz.func97, Tryz.ntmps97
  go_wp2_with fail
  refine (cloneD_any da dc dots _ (Hd.out.below A0.out) (by omega)).mono ?_
  rintro e w1 ⟨a1, c1, T1, rfl, hT1, hown, hb⟩
  have E0 : Hid (AncE w w1 (cms L) dots w.heap.size [] a1 c1 T1) := Lib.hid (by
    subst hT1
    exact ⟨(MapN.made w).below hb, Nat.le_refl _, fun v hv => (by cases hv), hown.base A0.out.size, fun v hv => (by cases hv), AncJ.start HD.out Hok.out, below2 A0.out hb A0.out.size⟩)
  clear hT1 hown hb A0
  go_wp2_with fail
  go_loopw [6] (fun o wr => ∃ (A : List Cw) (a : Option Addr) (c : Nat) (T : List Dt), o = .slice a (List.length T) c ∧ Hid (AncE w wr (cms L) dots w.heap.size A a c T)) (fun o wr => (200 - mapSz wr w.heap.size) * 65 + lenV o)
  case atStart => exact ⟨[], a1, c1, T1, rfl, E0⟩
  case round =>
    obtain ⟨A, a, c, T, rfl, E⟩ := hrel
    clear E0
    have hAl : A.length ≤ 200 := by have h1 := E.out.pl.len HD.out.nodup; unfold cms at h1; rw [List.length_map] at h1; omega
    have hTl : T.length ≤ 20000 := by have h1 := E.out.pl.few; omega
    by_cases h0 : 0 < T.length
    · obtain ⟨⟨⟨r, i⟩, s⟩, hx⟩ : ∃ x, T[T.length - 1]? = some x := ⟨T[T.length - 1], by simp⟩
      obtain ⟨ad, had, f0, f1, f2, hl0⟩ := (OwnD.vec E.out.row).at hx
      dsimp only at had f0 f1 f2
      subst had
      have Hx := Lib.hid hx
      have Hokx := Lib.hid (show okD ((r, i), s) from E.out.pl.okT _ (List.mem_of_getElem? hx))
      clear hx
      have hcap := (OwnD.vec E.out.row).2.1
      obtain ⟨V, hV, hVl, hsl⟩ : ∃ V : List Dt, V = T.take (T.length - 1) ∧ V.length = T.length - 1 ∧ ∀ W : World, (Instr.sliceAt 23 (.slice (some ad) T.length c) none (some (.int .i64 ((T.length : Int) - 1))) none).run Tryz.prog W = .ok (.slice (some ad) (List.length V) c) W := by
        have hl : (T.take (T.length - 1)).length = T.length - 1 := by rw [List.length_take]; omega
        refine ⟨_, rfl, hl, fun W => ?_⟩
        rw [hl, show ((T.length : Int) - 1) = ((T.length - 1 : Nat) : Int) by omega]
        exact slice_hiD (some ad) T.length c (T.length - 1) (by omega) W
      have HV := Lib.hid hV
      have HVl := Lib.hid hVl
      have hV2 : V.length ≤ 20000 := by omega
      clear hV hVl
      have B0 : Hid (BoxE 41 wr (wr.alloc (.cells #[.int .u8 r, .int .u32 i, .int .u64 s] 41)) #[.int .u8 r, .int .u32 i, .int .u64 s]) := Lib.hid ⟨heap_new _ _, (Below.refl _ _).alloc (Nat.le_refl _) _⟩
      have EB := Lib.hid (E.out.below B0.out.bel)
      go_wp2_with fail
      refine (get_G pg gb w0 m b L va vc vv r i s _ (H.out.below EB.out.bel) Hokx.out).mono ?_
      intro e w2 hto
      obtain ⟨u, rfl, hu, huo, hb⟩ := hto
      have B2 := Lib.hid (B0.out.step hb)
      have E2 := Lib.hid (EB.out.below hb)
      have Huo := Lib.hid huo
      have Hfar := Lib.hid (show FarC (ob (some ad)) u from huo.far fun k hk => .inl (by have h1 := (owns_lt E.out.row k hk).2; simp; omega))
      clear huo hb B0 EB f0 f1 f2 hl0 hsl
      have d0 := cells_at B2.out.blk
      have z0 := heap_lt B2.out.blk
      cases hf : findC (cms L) ((r, i), s) with
      | none =>
        have Hf := Lib.hid hf
        rw [hf] at hu
        dsimp only [Option.getD_none] at hu
        have hfd : fdW A ((r, i), s) = none := by
          cases hh : fdW A ((r, i), s) with
          | none => rfl
          | some v =>
            obtain ⟨h1, h2⟩ := fdW_some hh
            have h3 := findC_mem HD.out.nodup (E.out.pl.mem v h1)
            rw [h2, hf] at h3; cases h3
        obtain ⟨⟨⟨⟨r1, i1⟩, s1⟩, ps1, uu1, t1, ⟨k1, n1, x1, p1, ds1⟩⟩, qa1, qc1, ua1, uc1, pa1, pc1, da1, dc1⟩ := u
        have HB3 : Hid (Below w2.heap.size w2 (w2.alloc (.cells (ccells r1 i1 s1 qa1 ps1.length qc1 ua1 uu1.length uc1 t1 k1 pa1 p1.length pc1 n1 x1 da1 ds1.length dc1) 46))) := Lib.hid ((Below.refl _ _).alloc (Nat.le_refl _) _)
        have l1 := (E2.out.map.below HB3.out).look2 Tryz.underlying77 zeroCommit Hokx.out
        unfold fvW at l1
        rw [hfd] at l1
        simp only [Option.map_none, Option.getD_none, Option.isSome_none] at l1
        have E4 := Lib.hid (E2.out.below ((HB3.out).alloc HB3.out.size (.cells #[.int .u8 0, .int .u32 0, .int .u64 0, .slice none 0 0, .slice none 0 0, .int .u64 0, .int .u8 0, .slice none 0 0, .int .i64 0, .string ⟨#[]⟩, .slice none 0 0] 46)))
        have E5 := Lib.hid (E4.out.less Hx.out HV.out (.inl Hf.out))
        clear hf hfd hu
        simp only [Option.isSome_none]
        go_wp2_with fail
        go_roundw
        case rel => exact ⟨A, some ad, c, V, rfl, E5⟩
        case measure =>
          show (200 - mapSz _ _) * 65 + lenV _ < (200 - mapSz _ _) * 65 + lenV _
          rw [E5.out.map.sz, E.out.map.sz]
          simp only [lenV]
          have := HVl.out
          omega
      | some z =>
        obtain ⟨hzL, hzd⟩ := findC_some hf
        rw [hf] at hu
        dsimp only [Option.getD_some] at hu
        subst hu
        have Hf := Lib.hid hf
        have HzL := Lib.hid hzL
        have Hzd := Lib.hid hzd
        have Hcm := Lib.hid (show CmP u.c from by
          obtain ⟨v9, hv9, h9⟩ := List.mem_map.1 hzL
          rw [← h9]
          exact H.out.may v9 hv9)
        clear hf hzL hzd
        obtain ⟨⟨⟨⟨r1, i1⟩, s1⟩, ps1, uu1, t1, ⟨k1, n1, x1, p1, ds1⟩⟩, qa1, qc1, ua1, uc1, pa1, pc1, da1, dc1⟩ := u
        have BC0 : Hid (BoxE 46 w2 (w2.alloc (.cells (ccells r1 i1 s1 qa1 ps1.length qc1 ua1 uu1.length uc1 t1 k1 pa1 p1.length pc1 n1 x1 da1 ds1.length dc1) 46)) (ccells r1 i1 s1 qa1 ps1.length qc1 ua1 uu1.length uc1 t1 k1 pa1 p1.length pc1 n1 x1 da1 ds1.length dc1)) := Lib.hid ⟨heap_new _ _, (Below.refl _ _).alloc (Nat.le_refl _) _⟩
        have l1 := (E2.out.map.below BC0.out.bel).look2 Tryz.underlying77 zeroCommit Hokx.out
        unfold fvW at l1
        simp only [Option.isSome_some]
        cases hfd : fdW A ((r, i), s) with
        | some v1 =>
          have Hw := Lib.hid (fdW_some hfd)
          rw [hfd] at l1
          obtain ⟨⟨⟨⟨r2, i2⟩, s2⟩, ps2, uu2, t2, ⟨k2, n2, x2, p2, ds2⟩⟩, qa2, qc2, ua2, uc2, pa2, pc2, da2, dc2⟩ := v1
          simp only [Option.map_some, Option.getD_some, Option.isSome_some, cwv, cwcells] at l1
          have E4 := Lib.hid (E2.out.below ((BC0.out.bel).alloc BC0.out.bel.size (.cells (ccells r2 i2 s2 qa2 ps2.length qc2 ua2 uu2.length uc2 t2 k2 pa2 p2.length pc2 n2 x2 da2 ds2.length dc2) 46)))
          have E5 := Lib.hid (E4.out.less Hx.out HV.out (.inr ⟨_, Hw.out.1, Hw.out.2⟩))
          clear hfd
          go_wp2_with fail
          go_roundw
          case rel => exact ⟨A, some ad, c, V, rfl, E5⟩
          case measure =>
            show (200 - mapSz _ _) * 65 + lenV _ < (200 - mapSz _ _) * 65 + lenV _
            rw [E5.out.map.sz, E.out.map.sz]
            simp only [lenV]
            have := HVl.out
            omega
        | none =>
          have Hfd := Lib.hid hfd
          rw [hfd] at l1
          simp only [Option.map_none, Option.getD_none, Option.isSome_none] at l1
          have HB4 : Hid (Below (w2.alloc (.cells (ccells r1 i1 s1 qa1 ps1.length qc1 ua1 uu1.length uc1 t1 k1 pa1 p1.length pc1 n1 x1 da1 ds1.length dc1) 46)).heap.size (w2.alloc (.cells (ccells r1 i1 s1 qa1 ps1.length qc1 ua1 uu1.length uc1 t1 k1 pa1 p1.length pc1 n1 x1 da1 ds1.length dc1) 46)) ((w2.alloc (.cells (ccells r1 i1 s1 qa1 ps1.length qc1 ua1 uu1.length uc1 t1 k1 pa1 p1.length pc1 n1 x1 da1 ds1.length dc1) 46)).alloc (.cells #[.int .u8 0, .int .u32 0, .int .u64 0, .slice none 0 0, .slice none 0 0, .int .u64 0, .int .u8 0, .slice none 0 0, .int .i64 0, .string ⟨#[]⟩, .slice none 0 0] 46))) := Lib.hid ((Below.refl _ _).alloc (Nat.le_refl _) _)
          have BC := Lib.hid (BC0.out.step HB4.out)
          have E4 := Lib.hid (E2.out.below BC.out.bel)
          obtain ⟨w5, hr5, hm5, hc5⟩ := E4.out.map.update Tryz.underlying77 (by unfold maxLen; omega) Hokx.out (by unfold fvW; rw [hfd]; rfl) (.agg (ccells r1 i1 s1 qa1 ps1.length qc1 ua1 uu1.length uc1 t1 k1 pa1 p1.length pc1 n1 x1 da1 ds1.length dc1))
          have Hm5 := Lib.hid hm5
          have Hc5 := Lib.hid hc5
          have hnr := noRow_map E4.out.map
          have hne5 : w.heap.size < w2.heap.size := by have h1 := E2.out.map.lt; exact h1
          have Hx5 := Lib.hid (heap_chg BC.out.blk hc5 (by simp; omega))
          have Hu4 := Lib.hid (show CwOwn w2 w.heap.size ⟨⟨((r1, i1), s1), ps1, uu1, t1, ⟨k1, n1, x1, p1, ds1⟩⟩, qa1, qc1, ua1, uc1, pa1, pc1, da1, dc1⟩ from Huo.out.base (by have := E.out.bel.size; simp; omega))
          have Hu5 := Lib.hid (show CwOwn w5 w.heap.size ⟨⟨((r1, i1), s1), ps1, uu1, t1, ⟨k1, n1, x1, p1, ds1⟩⟩, qa1, qc1, ua1, uc1, pa1, pc1, da1, dc1⟩ from (Hu4.out.below BC.out.bel).chg hc5 hnr)
          have HV5 := Lib.hid (show OwnD w5 w.heap.size (some ad) c V from by
            rw [HV.out]
            exact (OwnD.takeK (E4.out.row.chg hc5 hnr) (T.length - 1) (by omega) (by omega)))
          have HE5 := Lib.hid (show ∀ v ∈ A, CwOwn w5 w.heap.size v from fun v hv => (E4.out.each v hv).chg hc5 hnr)
          have Hb5 := Lib.hid (E4.out.bel.trans (hc5.below (B := w.heap.size) E4.out.bel.size (by simp)))
          have hpl : ps1.length ≤ 64 := Hcm.out.few
          clear hm5 hc5 hnr hfd E2 Huo
          have x5 := cells_at Hx5.out
          simp only [ccells] at x5
          have z5 := heap_lt Hx5.out
          go_wp2_with (at_builtin; go_must (refine wpList_appD3 rfl _ _ rfl w.heap.size (some ad) c V rfl HV5.out qa1 qc1 ps1 rfl Hu5.out.ps.vec ?n2 ?b2 ?_))
          case n2 => omega
          case b2 => exact Hb5.out.size
          intro v6 a6 c6 w6 hv6 ho6 hb6 hc6 hn6
          have hmb : w.heap.size ∉ ob (some ad) := fun hk => by
            obtain ⟨C9, fr9, h9⟩ := ob_row HV5.out _ hk
            obtain ⟨es, clock, h8⟩ := Hm5.out.block
            rw [h8] at h9; cases h9
          have E6 : Hid (AncE w w6 (cms L) dots w.heap.size (A ++ [⟨⟨((r1, i1), s1), ps1, uu1, t1, ⟨k1, n1, x1, p1, ds1⟩⟩, qa1, qc1, ua1, uc1, pa1, pc1, da1, dc1⟩]) a6 c6 v6) := Lib.hid (by
            refine ⟨?_, Nat.le_refl _, fun v hv => ?_, ho6, fun v hv k hk => ?_, ?_, Hb5.out.trans hb6⟩
            · rw [List.length_append]
              refine (Hm5.out.chg hc6 hmb).congr fun d _ => ?_
              have h1 := fvW_snoc (L := A) (u := ⟨⟨((r1, i1), s1), ps1, uu1, t1, ⟨k1, n1, x1, p1, ds1⟩⟩, qa1, qc1, ua1, uc1, pa1, pc1, da1, dc1⟩) (by have h2 := Hzd.out; dsimp only at h2 ⊢; rw [h2]; exact Hfd.out) d
              have h2 := Hzd.out
              dsimp only at h1 h2
              rw [h2] at h1
              rw [← h2]
              rw [← h2] at h1
              exact h1
            · rcases List.mem_append.1 hv with hv | hv
              · exact (HE5.out v hv).apart hc6 (E4.out.far v hv)
              · rw [List.mem_singleton] at hv
                subst hv
                exact Hu5.out.apart hc6 Hfar.out
            · have far5 : ∀ v, CwOwn w5 w.heap.size v → FarC (ob (some ad)) v → k ∉ ob v.qa ∧ k ∉ ob v.va ∧ k ∉ ob v.pa ∧ k ∉ ob v.da := fun v h1 h2 => by
                rcases hn6 k hk with h3 | h3
                · exact h2 k h3
                · exact h1.far (F := [k]) (fun k2 hk2 => by rw [List.mem_singleton] at hk2; subst hk2; exact .inr h3) k (by simp)
              rcases List.mem_append.1 hv with hv | hv
              · exact far5 v (HE5.out v hv) (E4.out.far v hv)
              · rw [List.mem_singleton] at hv
                subst hv
                exact far5 _ Hu5.out Hfar.out
            · rw [hv6]
              refine AncJ.add (T := T) (x := ((r, i), s)) HD.out E.out.pl ?_ Hf.out (fdW_keys Hfd.out) rfl hpl Hu5.out.ok.ps
              have h1 := take_snoc' Hx.out
              rw [show T.length - 1 + 1 = T.length by omega, List.take_length] at h1
              rw [HV.out]
              exact h1)
          have Hl6 := Lib.hid (show v6.length = V.length + ps1.length by rw [hv6, List.length_append])
          clear hv6 ho6 hb6 hc6 hn6 x5 z5 d0 z0 hmb
          go_wp2_with fail
          go_roundw
          case rel => exact ⟨_, a6, c6, v6, rfl, E6⟩
          case measure =>
            have hA2 : A.length + 1 ≤ 200 := by have h1 := E6.out.pl.len HD.out.nodup; unfold cms at h1; rw [List.length_map, List.length_append] at h1; simp at h1; omega
            show (200 - mapSz _ _) * 65 + lenV _ < (200 - mapSz _ _) * 65 + lenV _
            rw [E6.out.map.sz, E.out.map.sz]
            simp only [lenV, List.length_append, List.length_singleton]
            have := HVl.out
            have := Hl6.out
            omega
    · have hT0 : T = [] := List.eq_nil_of_length_eq_zero (by omega)
      subst hT0
      have HP := Lib.hid (AncJ.done HD.out E.out.pl)
      go_wp2_with fail
      go_ret
      exact ⟨w.heap.size, A, rfl, Nat.le_refl _, E.out.map, E.out.each, HP.out, E.out.bel⟩
end Go.Proofs.YthdmoplclllhjaaGreat

/- OfA -/
namespace Go.Proofs.YthdmoplclllhjaaGreat
open Go.RowKit
set_option linter.unusedVariables false
set_option linter.unusedSimpArgs false

/-- while those of both sides are put together -/
structure BofE (w5 wr : World) (it mb : Nat) (A1 A2 : List Cw) (left : Dt → Bool) (cnt : Nat) (a : Option Addr) (c : Nat) (R : List Cw) : Prop where
  rng : RangeF wr Tryz.prog 41 mkD mb it A1.length (fvW A1) left cnt
  row : OwnC wr w5.heap.size a c R
  far : it ∉ ob a
  itl : w5.heap.size ≤ it
  mpl : mb < w5.heap.size
  bel : Below w5.heap.size w5 wr
  mem : ∀ v ∈ R, v ∈ A1 ∧ (fdW A2 v.c.d).isSome = true
  all : ∀ v ∈ A1, (fdW A2 v.c.d).isSome = true → left v.c.d = false → v ∈ R
  nd : ((cms R).map (·.d)).Nodup
  fresh : ∀ v ∈ R, left v.c.d = false
  len : R.length + cnt ≤ A1.length
/-- the next commit comes out -/
theorem BofE.next {w5 wr w3 : World} {it mb : Nat} {A1 A2 : List Cw} {left : Dt → Bool} {cnt cnt1 : Nat} {a : Option Addr} {c : Nat} {R : List Cw} {rr ii qq : Int} {x : Value} (hn : ((cms A1).map (·.d)).Nodup) (h : BofE w5 wr it mb A1 A2 left cnt a c R) (hX : NextD wr mb it A1.length (fvW A1) left cnt rr ii qq x w3 cnt1) :
    ∃ u ∈ A1, u.c.d = ((rr, ii), qq) ∧ x = cwv u ∧ (∀ v ∈ R, v.c.d ≠ ((rr, ii), qq)) ∧ R.length + cnt1 + 1 ≤ A1.length ∧ ∀ W, Below w3.heap.size w3 W →
      ((fdW A2 ((rr, ii), qq) = none → BofE w5 W it mb A1 A2 (fun y => left y && !decide (y = ((rr, ii), qq))) cnt1 a c R) ∧
       (∀ (W2 : World) (a' : Option Addr) (c' : Nat) (R' : List Cw), (fdW A2 ((rr, ii), qq)).isSome = true → R' = R ++ [u] → OwnC W2 w5.heap.size a' c' R' → Chg (ob a) W W2 → (∀ k ∈ ob a', k ∈ ob a ∨ W.heap.size ≤ k) → BofE w5 W2 it mb A1 A2 (fun y => left y && !decide (y = ((rr, ii), qq))) cnt1 a' c' R')) ∧
      OwnC W w5.heap.size a c R ∧ Below w5.heap.size w5 W := by
  obtain ⟨u, hu, hud, rfl⟩ := fvW_some hX.val
  have hc := Chg.grown hX.grown
  simp only [Option.toList_some] at hc
  have hlt := hX.lt
  have hlen := h.len
  have hrow3 : OwnC w3 w5.heap.size a c R := h.row.chg hc (fun k hk hm => by rw [List.mem_singleton] at hm; subst hm; exact h.far hk)
  have hbel3 : Below w5.heap.size w5 w3 := h.bel.trans (hc.below h.bel.size (by simpa using h.itl))
  have hfr : ∀ v ∈ R, v.c.d ≠ ((rr, ii), qq) := fun v hv e => by have h1 := h.fresh v hv; rw [e, hX.was] at h1; cases h1
  have hitlt : it < w3.heap.size := hX.rng.lt
  refine ⟨u, hu, hud, rfl, hfr, by omega, fun W hW => ?_⟩
  have hrngW : RangeF W Tryz.prog 41 mkD mb it A1.length (fvW A1) (fun y => left y && !decide (y = ((rr, ii), qq))) cnt1 := hX.rng.chg (F := []) (Chg.of_below hW) (by simp) (by simp)
  have hrowW := hrow3.below hW
  have hbelW := below2 hbel3 hW hbel3.size
  have hfr2 : ∀ v ∈ R, (left v.c.d && !decide (v.c.d = ((rr, ii), qq))) = false := fun v hv => by rw [h.fresh v hv]; rfl
  refine ⟨⟨fun hno => ⟨hrngW, hrowW, h.far, h.itl, h.mpl, hbelW, h.mem, fun v hv h1 h2 => ?_, h.nd, hfr2, by omega⟩, fun W2 a' c' R' hyes hR ho hch hn' => ?_⟩, hrowW, hbelW⟩
  · refine h.all v hv h1 ?_
    by_cases e : v.c.d = ((rr, ii), qq)
    · rw [e, hno] at h1; cases h1
    · rw [decide_eq_false e] at h2; simpa using h2
  · subst hR
    have hw5 : w5.heap.size ≤ W.heap.size := hbelW.size
    refine ⟨hrngW.chg hch (fun hm => ?_) h.far, ho, fun hm => ?_, h.itl, h.mpl, hbelW.trans (hch.below hbelW.size (fun k hk => (owns_lt hrowW k hk).1)), fun v hv => ?_, fun v hv h1 h2 => ?_, ?_, fun v hv => ?_, by simp; omega⟩
    · have h1 := (owns_lt hrowW mb hm).1
      have := h.mpl
      omega
    · rcases hn' it hm with h1 | h1
      · exact h.far h1
      · have := hW.size; omega
    · rcases List.mem_append.1 hv with hv | hv
      · exact h.mem v hv
      · rw [List.mem_singleton] at hv; subst hv; exact ⟨hu, by rw [hud]; exact hyes⟩
    · by_cases e : v.c.d = ((rr, ii), qq)
      · rw [same_of_d hn hv hu (e.trans hud.symm)]; simp
      · rw [decide_eq_false e] at h2
        exact List.mem_append_left _ (h.all v hv h1 (by simpa using h2))
    · rw [show cms (R ++ [u]) = cms R ++ [u.c] by simp [cms], List.map_append, List.nodup_append]
      refine ⟨h.nd, by simp, fun a ha c hc e => ?_⟩
      simp at hc
      subst hc
      obtain ⟨y, hy, rfl⟩ := List.mem_map.1 ha
      obtain ⟨v, hv, rfl⟩ := List.mem_map.1 hy
      exact hfr v hv (e.trans hud)
    · rcases List.mem_append.1 hv with hv | hv
      · exact hfr2 v hv
      · rw [List.mem_singleton] at hv; subst hv; rw [hud]; simp
def BofTo (w : World) (L : List Cm) (dots : List Dt) (d : Dt) (e : Ending) (w' : World) : Prop := ∃ a c v, e = .returned (.slice a (List.length v) c) ∧ BofP L dots d v ∧ okV v ∧ v.length ≤ 200 ∧ OwnD w' w.heap.size a c v ∧ Below w.heap.size w w'
theorem fd_key {A : List Cw} {x : Dt} : (fdW A x).isSome = true ↔ ∃ v ∈ A, v.c.d = x := by
  constructor
  · intro h
    cases hf : fdW A x with
    | none => rw [hf] at h; cases h
    | some v => exact ⟨v, (fdW_some hf).1, (fdW_some hf).2⟩
  · rintro ⟨v, hv, e⟩
    cases hf : fdW A x with
    | none => exact absurd e (fdW_keys hf v hv)
    | some v => rfl
theorem bof_mem {L : List Cm} {dots : List Dt} {d : Dt} {A1 A2 R : List Cw} (hn : (L.map (·.d)).Nodup) (h1 : AncP L dots A1) (h2 : AncP L [d] A2) (hm : ∀ v ∈ R, v ∈ A1 ∧ (fdW A2 v.c.d).isSome = true) (ha : ∀ v ∈ A1, (fdW A2 v.c.d).isSome = true → v ∈ R) :
    ∀ c, c ∈ cms R ↔ c ∈ L ∧ downS L (fun x => x ∈ dots) c.d ∧ downS L (fun x => x ∈ [d]) c.d := by
  intro c
  constructor
  · intro hc
    obtain ⟨v, hv, rfl⟩ := List.mem_map.1 hc
    obtain ⟨h3, h4⟩ := hm v hv
    exact ⟨h1.mem v h3, (h1.down _).1 ⟨v, h3, rfl⟩, (h2.down _).1 (fd_key.1 h4)⟩
  · rintro ⟨hcL, h3, h4⟩
    obtain ⟨v, hv, hvd⟩ := (h1.down _).2 h3
    have h5 := ha v hv (by rw [hvd]; exact fd_key.2 ((h2.down _).2 h4))
    have h6 := findC_mem hn (h1.mem v hv)
    rw [hvd, findC_mem hn hcL] at h6
    cases h6
    exact List.mem_map.2 ⟨v, h5, rfl⟩
set_option maxRecDepth 100000 in
set_option maxHeartbeats 16000000 in
theorem baseOf_any (pg gb : Nat) (w0 : World) (m : Nat) (b : Bw) (L : List Cw) (va : Option Addr) (vc : Nat) (vv : List Dt) (da : Option Addr) (dc : Nat) (dots : List Dt) (r i s : Int) (w : World) (h : GrAt w pg gb w0 m b L va vc vv) (hD : DagP (cms L)) (hd : Vec w da dc dots) (hok : okV dots) (hn : dots.length ≤ 1000) (hokd : okD ((r, i), s)) :
    Calls Tryz.prog 26 #[.pointer (some ⟨pg, 0, none⟩), .slice da dots.length dc, .agg #[.int .u8 r, .int .u32 i, .int .u64 s]] w (BofTo w (cms L) dots ((r, i), s)) := by
  have H := Lib.hid h
  have HD := Lib.hid hD
  have Hd := Lib.hid hd
  have Hok := Lib.hid hok
  have Hok1 := Lib.hid (show okV [((r, i), s)] from fun y hy => by rw [List.mem_singleton] at hy; subst hy; exact hokd)
  have hmax := h.max
  have B0 : Hid (BoxE 41 w (w.alloc (.cells #[.int .u8 r, .int .u32 i, .int .u64 s] 41)) #[.int .u8 r, .int .u32 i, .int .u64 s]) := Lib.hid ⟨heap_new _ _, (Below.refl _ _).alloc (Nat.le_refl _) _⟩
  clear h hD hd hok
  go_enter Tryz.func26, Tryz.ntmps26
  go_upto_region 1 with (fail)
  go_cut [7, 8] (fun x7 x8 wx => ∃ (m1 m2 : Nat) (A1 A2 : List Cw), x7 = .map (some m1) ∧ x8 = .map (some m2) ∧ A1.length ≤ 200 ∧ Hid (MapN wx m1 A1.length (fvW A1)) ∧ Hid (MapN wx m2 A2.length (fvW A2)) ∧ Hid (∀ v ∈ A1, CwOwn wx w.heap.size v) ∧ Hid (AncP (cms L) dots A1) ∧ Hid (AncP (cms L) [((r, i), s)] A2) ∧ Hid (Below w.heap.size w wx))
  case first =>
    have d0 := cells_at B0.out.blk
    have z0 := heap_lt B0.out.blk
    refine region_tree (.seg [0, 1, 3, 4] false (.fork (.seg [2] true (.seg [5, 6, 7, 8] false .done)) (.seg [5] false (.seg [2] true (.seg [6, 7, 8] false .done))))) mixed (by kernel_rfl) ?_
    simp only [wpSg, List.map_cons, List.map_nil, List.getD_cons_succ, List.getD_cons_zero]
    go_wp2_with fail
    refine And.intro ?_ ?_
    · go_wp2_with fail
      refine (ancestors_any pg gb w0 m b L va vc vv da dc dots _ (H.out.below B0.out.bel.drew) HD.out (Hd.out.below B0.out.bel.drew) Hok.out hn).mono ?_
      intro e w1 hto
      obtain ⟨m1, A1, rfl, hlo1, hm1, he1, hp1, hb1⟩ := hto
      have Hb1 := Lib.hid hb1
      have B1 := Lib.hid (B0.out.step (((Below.refl _ _).drew).trans hb1))
      have M1 := Lib.hid hm1
      have E1 := Lib.hid (show ∀ v ∈ A1, CwOwn w1 w.heap.size v from fun v hv => (he1 v hv).base (by simp))
      have P1 := Lib.hid hp1
      clear hlo1 hm1 he1 hp1 hb1 d0 z0
      have d0 := cells_at B1.out.blk
      have z0 := heap_lt B1.out.blk
      have HA : Hid (Below w1.heap.size w1 (w1.alloc (.cells #[.int .u8 r, .int .u32 i, .int .u64 s] 41))) := Lib.hid ((Below.refl _ _).alloc (Nat.le_refl _) _)
      have HA1 := Lib.hid (below2 B1.out.bel HA.out B1.out.bel.size)
      go_wp2_with fail
      refine And.intro (Agree.of_below Hb1.out) ?_
      go_wp2_with fail
      refine (ancestors_any pg gb w0 m b L va vc vv (some ⟨w1.heap.size, 0, none⟩) 1 [((r, i), s)] _ (H.out.below HA1.out) HD.out (vec_one (heap_new _ _)) Hok1.out (by simp)).mono ?_
      intro e w2 hto
      obtain ⟨m2, A2, rfl, hlo2, hm2, he2, hp2, hb2⟩ := hto
      have Hb2 := Lib.hid (HA.out.trans (hb2.mono HA.out.size))
      have M2 := Lib.hid hm2
      have P2 := Lib.hid hp2
      clear hlo2 hm2 he2 hp2 hb2 d0 z0
      go_wp2_with fail
      refine And.intro (by kernel_rfl) ?_
      go_wp2_with fail
      go_meet
      exact ⟨m1, m2, A1, A2, rfl, rfl, by have h1 := P1.out.len; unfold cms at h1; rw [List.length_map] at h1; omega, Lib.hid (M1.out.below Hb2.out), M2, Lib.hid (fun v hv => (E1.out v hv).below Hb2.out), P1, P2, Lib.hid (below2 B1.out.bel Hb2.out B1.out.bel.size)⟩
    · go_wp2_with fail
      have HA2 : Hid (Below w.heap.size w ((w.alloc (.cells #[.int .u8 r, .int .u32 i, .int .u64 s] 41)).alloc (.cells #[.int .u8 r, .int .u32 i, .int .u64 s] 41)).drew) := Lib.hid ((B0.out.bel.alloc B0.out.bel.size _).drew)
      have O2 : Hid (OwnD ((w.alloc (.cells #[.int .u8 r, .int .u32 i, .int .u64 s] 41)).alloc (.cells #[.int .u8 r, .int .u32 i, .int .u64 s] 41)).drew 0 (some ⟨w.heap.size + 1, 0, none⟩) 1 [((r, i), s)]) := Lib.hid (by
        have h1 := OwnD.one (w.alloc (.cells #[.int .u8 r, .int .u32 i, .int .u64 s] 41)) (base := 0) (Nat.zero_le _) r i s
        have h2 := OwnD.below h1 ((Below.refl _ _).drew)
        simpa using h2)
      refine (ancestors_any pg gb w0 m b L va vc vv da dc dots _ (H.out.below HA2.out) HD.out (Hd.out.below HA2.out) Hok.out hn).mono ?_
      intro e w1 hto
      obtain ⟨m1, A1, rfl, hlo1, hm1, he1, hp1, hb1⟩ := hto
      have Hb1 := Lib.hid hb1
      have HB1 := Lib.hid (below2 HA2.out hb1 HA2.out.size)
      have O3 := Lib.hid (OwnD.below O2.out hb1)
      have M1 := Lib.hid hm1
      have E1 := Lib.hid (show ∀ v ∈ A1, CwOwn w1 w.heap.size v from fun v hv => (he1 v hv).base (by simp; omega))
      have P1 := Lib.hid hp1
      clear hlo1 hm1 he1 hp1 hb1 d0 z0
      go_wp2_with fail
      refine And.intro (Agree.of_below Hb1.out) ?_
      go_wp2_with fail
      refine (ancestors_any pg gb w0 m b L va vc vv (some ⟨w.heap.size + 1, 0, none⟩) 1 [((r, i), s)] _ (H.out.below HB1.out) HD.out O3.out.vec Hok1.out (by simp)).mono ?_
      intro e w2 hto
      obtain ⟨m2, A2, rfl, hlo2, hm2, he2, hp2, hb2⟩ := hto
      have Hb2 := Lib.hid hb2
      have M2 := Lib.hid hm2
      have P2 := Lib.hid hp2
      clear hlo2 hm2 he2 hp2 hb2
      go_wp2_with fail
      refine And.intro (by kernel_rfl) ?_
      go_wp2_with fail
      go_meet
      exact ⟨m1, m2, A1, A2, rfl, rfl, by have h1 := P1.out.len; unfold cms at h1; rw [List.length_map] at h1; omega, Lib.hid (M1.out.below Hb2.out), M2, Lib.hid (fun v hv => (E1.out v hv).below Hb2.out), P1, P2, Lib.hid (below2 HB1.out Hb2.out HB1.out.size)⟩
  case rest =>
    obtain ⟨m1, m2, A1, A2, rfl, rfl, hA1, M1, M2, E1, P1, P2, HB⟩ := hcut
    clear B0
    obtain ⟨w5, hw5⟩ : ∃ w5, w5 = wc := ⟨_, rfl⟩
    subst hw5
    have hmf := M1.out.mapF
    go_wp2_with (at_range; go_must (refine wpList_range_F keysD rfl _ _ rfl _ Tryz.underlying77 m1 A1.length (fvW A1) rfl hmf ?_))
    intro wa cnt0 hrg0 hcn0 hg0 hs0
    have G0 : Hid (BofE w5 wa w5.heap.size m1 A1 A2 (fun a => (fvW A1 a).isSome) cnt0 none 0 []) := Lib.hid ⟨by simpa using hrg0, OwnC.nil _ _, by simp [ob], Nat.le_refl _, M1.out.lt, (Below.refl _ _).grown hg0 (Nat.le_refl _) (by simp), fun v hv => (by cases hv), fun v hv _ h2 => (by
      unfold fvW at h2
      rw [fvW_mem P1.out.nodup hv] at h2; cases h2), List.nodup_nil, fun v hv => (by cases hv), by simpa using hcn0⟩
    clear hrg0 hcn0 hg0 hs0 hmf
    generalize w5.heap.size = it at G0 ⊢
    go_wp2_with fail
    go_loopw [9, 23] (fun ov _ wr => ∃ (left : Dt → Bool) (cnt : Nat) (R : List Cw) (a : Option Addr) (c : Nat), ov = .slice a (List.length R) c ∧ Hid (BofE w5 wr it m1 A1 A2 left cnt a c R)) (fun _ _ wr => wr.rangeLeft m1 it)
    case atStart => exact ⟨_, cnt0, [], none, 0, rfl, G0⟩
    case round =>
      obtain ⟨left, cnt, R, a, c, rfl, G⟩ := hrel
      clear G0
      have hrg := G.out.rng
      have hRl : R.length ≤ 200 := by have := G.out.len; omega
      go_wp2_with (at_next; go_must (refine wpList_next_D rfl _ rfl _ _ _ _ _ _ rfl hrg ?_ ?_))
      · intro hl
        have HR := Lib.hid (bof_mem (R := R) HD.out.nodup P1.out P2.out G.out.mem (fun v hv h1 => G.out.all v hv h1 (hl _ (E1.out v hv).ok.d)))
        have HC := Lib.hid (show Cms wr a c R from ⟨G.out.row.cms, fun v hv => ((E1.out v (G.out.mem v hv).1).below G.out.bel).at_⟩)
        have HL := Lib.hid (show ∀ v ∈ R, v.c.vv.length ≤ 1100000 from fun v hv => by
          have h1 := P1.out.mem v (G.out.mem v hv).1
          obtain ⟨y, hy, e⟩ := List.mem_map.1 h1
          have h2 := (H.out.may y hy).vlen
          rw [e] at h2
          omega)
        clear hrg hl
        go_wp2_with fail
        refine (greatest_any a c R _ HC.out (by omega) G.out.nd HL.out).mono ?_
        intro e w8 hto
        obtain ⟨a8, c8, v8, rfl, hh, hok8, hl8, ho8, hb8⟩ := hto
        have HH := Lib.hid hh
        have Hok8 := Lib.hid hok8
        have Hl8 := Lib.hid (show v8.length ≤ 200 by unfold cms at hl8; rw [List.length_map] at hl8; omega)
        have HB8 := Lib.hid (below2 HB.out G.out.bel HB.out.size)
        have HB9 := Lib.hid (below2 HB8.out hb8 HB8.out.size)
        have O8 := Lib.hid (show OwnD w8 w.heap.size a8 c8 v8 from OwnD.base ho8 HB8.out.size)
        clear hh hok8 hl8 ho8 hb8
        go_wp2_with fail
        go_ret
        exact ⟨a8, c8, v8, rfl, ⟨cms R, HR.out, HH.out⟩, Hok8.out, Hl8.out, O8.out, HB9.out⟩
      · intro rr ii qq xv w9 cnt1 hX hen
        have hlt9 := hX.lt
        have hok9 := hX.ok
        obtain ⟨u, hu, hud, rfl, hfr, hlen1, hW⟩ := G.out.next P1.out.nodup hX
        have HW := Lib.hid hW
        clear hrg hX hfr hW hu hud
        obtain ⟨⟨⟨⟨r1, i1⟩, s1⟩, ps1, uu1, t1, ⟨k1, n1, x1, p1, ds1⟩⟩, qa1, qc1, ua1, uc1, pa1, pc1, da1, dc1⟩ := u
        simp only [cwv, cwcells] at hen ⊢
        have hA9 : Below w9.heap.size w9 ((w9.alloc (.cells #[.int .u8 rr, .int .u32 ii, .int .u64 qq] 41)).alloc (.cells (ccells r1 i1 s1 qa1 ps1.length qc1 ua1 uu1.length uc1 t1 k1 pa1 p1.length pc1 n1 x1 da1 ds1.length dc1) 46)) := ((Below.refl _ _).alloc (Nat.le_refl _) _).alloc (by simp) _
        have HA9 := Lib.hid hA9
        have HM9 := Lib.hid ((HW.out _ hA9).2.2)
        clear hA9
        have l1 := (M2.out.below HM9.out).look2 Tryz.underlying77 zeroCommit hok9
        unfold fvW at l1
        cases hf2 : fdW A2 ((rr, ii), qq) with
        | none =>
          have Hf2 := Lib.hid hf2
          rw [hf2] at l1
          simp only [Option.map_none, Option.getD_none, Option.isSome_none] at l1
          have G2 := Lib.hid ((HW.out _ (HA9.out.alloc HA9.out.size (.cells #[.int .u8 0, .int .u32 0, .int .u64 0, .slice none 0 0, .slice none 0 0, .int .u64 0, .int .u8 0, .slice none 0 0, .int .i64 0, .string ⟨#[]⟩, .slice none 0 0] 46))).1.1 Hf2.out)
          clear hf2
          go_wp2_with fail
          go_roundw
          case rel => exact ⟨_, cnt1, R, a, c, rfl, G2⟩
          case measure => rw [G2.out.rng.left_eq, G.out.rng.left_eq]; exact hlt9
        | some v2 =>
          have Hf2 := Lib.hid (show (fdW A2 ((rr, ii), qq)).isSome = true by rw [hf2]; rfl)
          rw [hf2] at l1
          obtain ⟨⟨⟨⟨r2, i2⟩, s2⟩, ps2, uu2, t2, ⟨k2, n2, x2, p2, ds2⟩⟩, qa2, qc2, ua2, uc2, pa2, pc2, da2, dc2⟩ := v2
          simp only [Option.map_some, Option.getD_some, Option.isSome_some, cwv, cwcells] at l1
          clear hf2
          go_upto_region 8 with (fail)
          have hx2 : ((w9.alloc (.cells #[.int .u8 rr, .int .u32 ii, .int .u64 qq] 41)).alloc (.cells (ccells r1 i1 s1 qa1 ps1.length qc1 ua1 uu1.length uc1 t1 k1 pa1 p1.length pc1 n1 x1 da1 ds1.length dc1) 46)).heap[w9.heap.size + 1]? = some (.cells (ccells r1 i1 s1 qa1 ps1.length qc1 ua1 uu1.length uc1 t1 k1 pa1 p1.length pc1 n1 x1 da1 ds1.length dc1) 46 (0, 0)) := heap_new2 _ _ _
          have hx3 := (((Below.refl _ ((w9.alloc (.cells #[.int .u8 rr, .int .u32 ii, .int .u64 qq] 41)).alloc (.cells (ccells r1 i1 s1 qa1 ps1.length qc1 ua1 uu1.length uc1 t1 k1 pa1 p1.length pc1 n1 x1 da1 ds1.length dc1) 46))).alloc (Nat.le_refl _) (.cells (ccells r2 i2 s2 qa2 ps2.length qc2 ua2 uu2.length uc2 t2 k2 pa2 p2.length pc2 n2 x2 da2 ds2.length dc2) 46)).block _ (heap_lt hx2)).trans hx2
          have hB3 : Below w9.heap.size w9 (((w9.alloc (.cells #[.int .u8 rr, .int .u32 ii, .int .u64 qq] 41)).alloc (.cells (ccells r1 i1 s1 qa1 ps1.length qc1 ua1 uu1.length uc1 t1 k1 pa1 p1.length pc1 n1 x1 da1 ds1.length dc1) 46)).alloc (.cells (ccells r2 i2 s2 qa2 ps2.length qc2 ua2 uu2.length uc2 t2 k2 pa2 p2.length pc2 n2 x2 da2 ds2.length dc2) 46)) := HA9.out.alloc HA9.out.size _
          clear hx2 l1
          generalize ((w9.alloc (.cells #[.int .u8 rr, .int .u32 ii, .int .u64 qq] 41)).alloc (.cells (ccells r1 i1 s1 qa1 ps1.length qc1 ua1 uu1.length uc1 t1 k1 pa1 p1.length pc1 n1 x1 da1 ds1.length dc1) 46)).alloc (.cells (ccells r2 i2 s2 qa2 ps2.length qc2 ua2 uu2.length uc2 t2 k2 pa2 p2.length pc2 n2 x2 da2 ds2.length dc2) 46) = W3 at hx3 hB3 ⊢
          have d3 := cells_at hx3
          have z3 := heap_lt hx3
          have HB4 := Lib.hid (hB3.alloc hB3.size (.cells (ccells r1 i1 s1 qa1 ps1.length qc1 ua1 uu1.length uc1 t1 k1 pa1 p1.length pc1 n1 x1 da1 ds1.length dc1) 46))
          have HS4 := Lib.hid (HW.out _ HB4.out)
          clear hx3
          go_wp2_with (at_builtin; go_must (refine wpList_appC rfl _ _ rfl w5.heap.size a c R rfl HS4.out.2.1 (some ⟨W3.heap.size, 0, none⟩) 1 [⟨⟨((r1, i1), s1), ps1, uu1, t1, ⟨k1, n1, x1, p1, ds1⟩⟩, qa1, qc1, ua1, uc1, pa1, pc1, da1, dc1⟩] rfl (cm_one ⟨⟨((r1, i1), s1), ps1, uu1, t1, ⟨k1, n1, x1, p1, ds1⟩⟩, qa1, qc1, ua1, uc1, pa1, pc1, da1, dc1⟩ (heap_new _ _)) ?n1 ?b1 ?_))
          case n1 => simp; omega
          case b1 => exact HS4.out.2.2.size
          intro v6 a6 c6 w6 hv6 ho6 hb6 hc6 hn6
          have G6 := Lib.hid (HS4.out.1.2 w6 a6 c6 v6 Hf2.out hv6 ho6 hc6 (by simpa using hn6))
          clear hv6 ho6 hb6 hc6 hn6 d3 z3 HS4 HB4
          go_wp2_with fail
          go_roundw
          case rel => exact ⟨_, cnt1, v6, a6, c6, rfl, G6⟩
          case measure => rw [G6.out.rng.left_eq, G.out.rng.left_eq]; exact hlt9
end Go.Proofs.YthdmoplclllhjaaGreat
