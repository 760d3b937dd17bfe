/- The law of BatchMeans: the walk. -/
import Derived.Test.YtmabjghjkgicgaaGreatDonA
import Derived.Test.YtmabjghjkgicgaaGreatBatU
namespace Go.Proofs.YtmabjghjkgicgaaGreat
open Go.RowKit
set_option linter.unusedVariables false
set_option linter.unusedSimpArgs false

theorem few_old {l L : List Opn} (hs : SumEq L l) (hL : ∀ o ∈ L, MayO o) (hl : ∀ o ∈ l, oldDots o.ds) : ∀ o ∈ L, oldDots o.ds := by
  intro o ho d hd
  have hm := hL o ho
  by_cases h1 : o.k = 1
  · rw [(hm.add h1).2.2.2] at hd; cases hd
  · by_cases h4 : o.k = 4
    · have h : dropsP o.p d L := ⟨o, ho, h4, rfl, hd⟩
      obtain ⟨u, hu, _, _, hud⟩ := (hs.drops o.p d).1 h
      exact hl u hu d hud
    · rw [(hm.rest h1).2.1 h4] at hd; cases hd
def TrueTo (w : World) (e : Ending) (w' : World) : Prop := e = .returned (.bool true) ∧ Below w.heap.size w w'
/-- behind both runs: what the loops lean on -/
structure MnE (w W : World) (T : List Nd) (l : List Ow) (aa : Option Addr) (ac : Nat) (A : List Nd) (sa : Option Addr) (sc : Nat) (S : List Nd) : Prop where
  ra : ∃ m, TrRd W m aa ac A
  rs : ∃ m, TrRd W m sa sc S
  ma : MayT 3 A
  ms : MayT 3 S
  ba : BdT 1000000 3 A
  bs : BdT 1000000 3 S
  ca : cntT 3 A ≤ 2000
  cs : cntT 3 S ≤ 2000
  la : ∀ p k v, lookP A p k = some v → v.l.items.length ≤ 6000
  ls : ∀ p k v, lookP S p k = some v → v.l.items.length ≤ 6000
  ask : ∀ k p, askT A k p = askT S k p
  bel : Below w.heap.size w W
/-! paths -/
structure Pt where
  p : List ByteArray
  pa : Option Addr
  pc : Nat
def ptcell (x : Pt) : List Value := [.slice x.pa x.p.length x.pc]
theorem ptcell_len (x : Pt) : (ptcell x).length = 1 := rfl
theorem Tryz.info_pt : (Tryz.prog.info? 39).map (fun i => (i.zero, i.size, i.bytes)) = some (some (.slice none 0 0), 1, 24) := by kernel_rfl
theorem ptcells_one (R : List Pt) : ∀ u ∈ R.flatMap ptcell, u.oneCell' = true := by
  intro u hu
  simp only [List.mem_flatMap] at hu
  obtain ⟨x, _, hx⟩ := hu
  simp [ptcell] at hx
  subst hx; rfl
def OwnP (w : World) (base : Nat) (a : Option Addr) (c : Nat) (R : List Pt) : Prop := w.ownsRow base 39 1 (.slice a R.length c) R.length (R.flatMap ptcell)
theorem OwnP.sl {w : World} {base : Nat} {a : Option Addr} {c : Nat} {T : List Pt} (h : OwnP w base a c T) : Sl w 1 a T.length c (T.flatMap ptcell) := Sl.of_owns h
theorem OwnP.below {w w' : World} {base : Nat} {a : Option Addr} {c : Nat} {T : List Pt} (h : OwnP w base a c T) (hb : Below w.heap.size w w') : OwnP w' base a c T := owns_chg (F := []) h (Chg.of_below hb) (by simp)
section
variable {w : World} {ops : Array Oper} {rest : List Oper} {o : Oper} {a : Act} {Q : Exit → Act → World → Prop}
theorem wpList_appP (hgd : o.guard = none) (s x : Operand) (ho : o.op = .call { callee := .builtin .append, args := #[s, x], argTypes := #[36, 36] })
    (base : Nat) (va : Option Addr) (vc : Nat) (v : List Pt) (hs : a.eval s = .slice va v.length vc) (hown : OwnP w base va vc v)
    (sa : Option Addr) (c : Nat) (u : List Pt) (hx : a.eval x = .slice sa u.length c) (hsl : Sl w 1 sa u.length c (u.flatMap ptcell)) (hn : v.length + u.length ≤ 3000000) (hbase : base ≤ w.heap.size)
    (h : ∀ v' a' c' w', v' = v ++ u → OwnP w' base a' c' v' → Below base w w' → Chg (ob va) w w' → wpList Tryz.prog ops Q rest (a.put o.dst (.slice a' (List.length v') c')) w') : wpList Tryz.prog ops Q (o :: rest) a w := by
  obtain ⟨i0, hi0, hz0, hz1, hz2⟩ := info_parts Tryz.info_pt
  refine wpList_append_sl hgd s x 36 ho base 39 i0 (.slice none 0 0) 1 24 Tryz.underlying36 hi0 hz0 hz1 hz2 rfl (by decide) va v.length vc (v.flatMap ptcell) hs hown sa u.length c (u.flatMap ptcell) hx hsl (ptcells_one u) (by unfold maxLen; omega) (by omega) hbase fun a' c' w' h1 h2 h3 => ?_
  have := h (v ++ u) a' c' w' rfl (by unfold OwnP; rw [List.flatMap_append, List.length_append]; exact h1) (h2.below hbase fun k hk => (owns_lt hown k hk).1) h2
  rwa [List.length_append] at this
end
theorem pt_one {w : World} {b : Nat} (x : Pt) (h : w.heap[b]? = some (.cells (ptcell x).toArray 39 (0, 0))) : Sl w 1 (some ⟨b, 0, none⟩) 1 1 ([x].flatMap ptcell) := by
  have := Sl.blk (n := 1) (size := 1) h rfl (by unfold maxLen; omega)
  simpa using this
theorem pts_at {w : World} {a : Option Addr} {c : Nat} {R : List Pt} (h : Sl w 1 a R.length c (R.flatMap ptcell)) {i : Nat} {x : Pt} (hx : R[i]? = some x) : ∃ ad, a = some ad ∧ w.cell? (ad.add (i * 1)) = some (.slice x.pa x.p.length x.pc) ∧ ad.block < w.heap.size := by
  have hi := (List.getElem?_eq_some_iff.1 hx).1
  rcases h.2.2.2 with ⟨_, h5, _⟩ | ⟨ad, rfl, hc⟩
  · omega
  · have e := flatMap_at (enc := ptcell) (k := 1) ptcell_len R i 0 x hx (by omega)
    have g := hc (i * 1) (.slice x.pa x.p.length x.pc) (by rw [Nat.add_zero] at e; rw [e]; rfl)
    refine ⟨ad, rfl, g, ?_⟩
    have := World.block_lt_of_cell? w _ g
    rwa [add_block] at this
theorem allQ_true : ∀ (n : Nat) (T : List Nd), AllQ (fun _ => True) n T
  | 0, _ => trivial
  | n + 1, _ => fun x _ => ⟨fun _ _ => trivial, allQ_true n x.kids⟩
def PtOf (R : List Rw) (y : Pt) : Prop := y = ⟨[], none, 0⟩ ∨ ∃ r ∈ R, ∃ j, j ≤ r.p.length ∧ y = ⟨r.p.take j, r.pa, r.pc⟩
/-- rows and paths so far -/
structure PaE (w W : World) (ra : Option Addr) (rc : Nat) (R : List Rw) (ya : Option Addr) (yc : Nat) (Y : List Pt) : Prop where
  rows : OwnR W w.heap.size ra rc R
  each : ∀ r ∈ R, RwAt (fun _ => True) w w.heap.size W r
  pts : OwnP W w.heap.size ya yc Y
  of_ : ∀ y ∈ Y, PtOf R y
  bel : Below w.heap.size w W
theorem PaE.step {w W W' : World} {ra ya : Option Addr} {rc yc : Nat} {R : List Rw} {Y : List Pt} (h : PaE w W ra rc R ya yc Y) (hb : Below W.heap.size W W') : PaE w W' ra rc R ya yc Y :=
  ⟨h.rows.below hb, fun r hr => (h.each r hr).below hb, h.pts.below hb, h.of_, below2 h.bel hb h.bel.size⟩
theorem PaE.app {w W W' : World} {ra ya ya' : Option Addr} {rc yc yc' : Nat} {R : List Rw} {Y Y' : List Pt} (h : PaE w W ra rc R ya yc Y) (hd : OwnP W' w.heap.size ya' yc' Y') (ho : ∀ y ∈ Y', PtOf R y) (hb : Below w.heap.size W W') (hc : Chg (ob ya) W W') : PaE w W' ra rc R ya' yc' Y' :=
  ⟨owns_chg h.rows hc (fun k hk => owns_ne h.rows h.pts (by decide) k hk), fun r hr => ⟨owns_chg (h.each r hr).1 hc (fun k hk => owns_ne (h.each r hr).1 h.pts (by decide) k hk), (h.each r hr).2⟩, hd, ho, h.bel.trans hb⟩
theorem PaE.strs {w W : World} {ra ya : Option Addr} {rc yc : Nat} {R : List Rw} {Y : List Pt} (h : PaE w W ra rc R ya yc Y) {y : Pt} (hy : y ∈ Y) : Strs W y.pa y.pc y.p := by
  rcases h.of_ y hy with rfl | ⟨r, hr, j, hj, rfl⟩
  · exact Sl.nil _ _
  · exact takeS (h.each r hr).1.strs hj
set_option maxRecDepth 100000 in
set_option maxHeartbeats 2000000 in
theorem means_walk (m : Nat) (a : Option Addr) (c : Nat) (T : List Nd) (la : Option Addr) (lc : Nat) (l : List Ow) (w : World) (hT : TrRd w m a c T) (hl : Ops w la lc l) (hs : szT 10 T ≤ 1100000) (hds : ∀ o ∈ l, o.o.ds.length ≤ 1100000) :
    Calls Tryz.prog 3 #[.slice a T.length c, .slice la l.length lc] w (TrueTo w) := by
  have HT := Lib.hid hT
  have Hl := Lib.hid hl
  have Hs := Lib.hid hs
  have Hds := Lib.hid hds
  have hlen := hl.2.1
  clear hT hl hs hds
  go_enter Tryz.func3, Tryz.ntmps3
  go_upto_region 1 with (fail)
  go_cut [38] (fun z wx => ∃ b : Bool, z = .bool b ∧ Hid (b = false → l.length ≤ 30 ∧ szT 10 T ≤ 1500 ∧ MayT 3 T ∧ (∀ p k v, lookP T p k = some v → oldDots (dts v)) ∧ ∀ o ∈ l, oldDots o.o.ds) ∧ Hid (Below w.heap.size w wx))
  case first =>
    go_wp2_with fail
    refine (great39_any la lc l _ Hl.out).mono ?_
    intro e w1 hto
    obtain ⟨z1, rfl, hz1, hb1⟩ := hto
    have HB1 := Lib.hid hb1
    have Hz1 := Lib.hid hz1
    clear hb1 hz1
    cases z1 with
    | true =>
      go_wp2_with fail
      go_meet
      exact ⟨true, rfl, Lib.hid nofun, HB1⟩
    | false =>
      have hn : l.length ≤ 30 := Hz1.out rfl
      go_wp2_with fail
      refine (greatT_any m a c T _ (HT.out.below HB1.out) Hs.out).mono ?_
      intro e w2 hto
      obtain ⟨z2, rfl, hz2, hb2⟩ := hto
      have HB2 := Lib.hid (below2 HB1.out hb2 HB1.out.size)
      have Hz2 := Lib.hid hz2
      clear hb2 hz2
      cases z2 with
      | true =>
        go_wp2_with fail
        go_meet
        exact ⟨true, rfl, Lib.hid nofun, HB2⟩
      | false =>
        have Hsz := Lib.hid (Hz2.out rfl)
        have HBd := Lib.hid (bdT_of 1000000 3 T (Nat.le_trans (szT_ten T) (by have := Hsz.out; omega)))
        go_wp2_with fail
        refine (rmayTop_any m a c T _ (HT.out.below HB2.out) HBd.out).mono ?_
        intro e w3 hto
        obtain ⟨z3, rfl, hz3, hb3⟩ := hto
        have HB3 := Lib.hid (below2 HB2.out hb3 HB2.out.size)
        have Hz3 := Lib.hid hz3
        clear hb3 hz3
        cases z3 with
        | false =>
          go_wp2_with fail
          go_meet
          exact ⟨true, rfl, Lib.hid nofun, HB3⟩
        | true =>
          have HM := Lib.hid (Hz3.out.1 rfl)
          have hsz3 : szT 3 T ≤ 1500 := Nat.le_trans (szT_ten T) Hsz.out
          go_wp2_with fail
          refine (seen_any m a c T la lc l _ (HT.out.below HB3.out) HM.out (Nat.le_trans (cnt_sz 3 T) hsz3) (allQ_of (b := 0) HM.out hsz3) (Hl.out.below HB3.out) hn Hds.out).mono ?_
          intro e w4 hto
          obtain ⟨z4, rfl, hz4, hb4⟩ := hto
          have HB4 := Lib.hid (below2 HB3.out hb4 HB3.out.size)
          have Hz4 := Lib.hid hz4
          clear hb4 hz4
          go_wp2_with fail
          go_meet
          exact ⟨z4, rfl, Lib.hid (fun h => ⟨hn, Hsz.out, HM.out, (Hz4.out h).1, (Hz4.out h).2⟩), HB4⟩
  case rest =>
    obtain ⟨b, rfl, HP, HB⟩ := hcut
    obtain ⟨wa, hwa⟩ : ∃ wa, wa = wc := ⟨_, rfl⟩
    subst hwa
    cases b with
    | true =>
      go_wp2_with fail
      refine (known39_any _).mono ?_
      rintro e w2 ⟨rfl, hb2⟩
      have HB2 := Lib.hid (below2 HB.out hb2 HB.out.size)
      clear hb2
      go_wp2_with fail
      go_ret
      exact ⟨rfl, HB2.out⟩
    | false =>
      obtain ⟨hn, hsz, hM, hod, hol⟩ := HP.out rfl
      have HM := Lib.hid hM
      have Hod := Lib.hid hod
      have Hol := Lib.hid hol
      have hsz3 := Nat.le_trans (szT_ten T) hsz
      have Hsz3 := Lib.hid hsz3
      clear hM hod hol hsz hsz3 HP
      go_wp2_with fail
      refine (few_any la lc l _ (Hl.out.below HB.out) (by omega)).mono ?_
      intro e w2 hto
      rcases hto with ⟨hno, rfl, hb2⟩ | ⟨hml, fa, fc, V, rfl, hF, hO, hV, hb2⟩
      · have HB2 := Lib.hid (below2 HB.out hb2 HB.out.size)
        clear hno hb2
        go_wp2_with fail
        refine (known39_any _).mono ?_
        rintro e w3 ⟨rfl, hb3⟩
        have HB3 := Lib.hid (below2 HB2.out hb3 HB2.out.size)
        clear hb3
        go_wp2_with fail
        go_ret
        exact ⟨rfl, HB3.out⟩
      · have HB2 := Lib.hid (below2 HB.out hb2 HB.out.size)
        have HF := Lib.hid hF
        have Hml := Lib.hid hml
        have HmV := Lib.hid (show ∀ o ∈ V, MayO o.o from fun o ho => (hV o ho).may)
        have HoV := Lib.hid (ops_of hO (fun v hv => (hV v hv).at_))
        have hVl : V.length ≤ 30 := by have := hF.len; simp at this; omega
        clear hF hml hO hV hb2
        go_wp2_with fail
        have HQ := Lib.hid (allQ_of (b := 0) HM.out Hsz3.out)
        have hct : cntT 3 T ≤ 1500 := Nat.le_trans (cnt_sz 3 T) Hsz3.out
        have HBd := Lib.hid (bdT_of 1000000 3 T (by have := Hsz3.out; omega))
        have Hln := Lib.hid (show ∀ p k u, lookP T p k = some u → u.l.items.length ≤ 2000 ∧ u.l.tombs.length ≤ 2000 from fun p k u hu => by
          have := (allQ_look HM.out HQ.out hu).2
          omega)
        refine (latest_any m a c T _ (HT.out.below HB2.out) HM.out (by omega) HQ.out).mono ?_
        intro e w3 hto
        obtain ⟨n, rfl, hn1, hn2, hpast, hb3⟩ := hto
        have HOld := Lib.hid (oldF_of HT.out HM.out hn1 hpast Hod.out)
        have HB3 := Lib.hid (below2 HB2.out hb3 HB2.out.size)
        have HoV3 := Lib.hid (HoV.out.below hb3)
        clear hb3 hpast
        go_wp2_with fail
        refine (done_any m a c T la lc l n _ (HT.out.below HB3.out) HBd.out HM.out (Hl.out.below HB3.out) hn Hml.out hn1 (by omega) (by omega) Hln.out).mono ?_
        intro e w4 hto
        obtain ⟨hto, hb4⟩ := hto
        have HB4 := Lib.hid (below2 HB3.out hb4 HB3.out.size)
        have HoV4 := Lib.hid (HoV3.out.below hb4)
        have HD1 := Lib.hid hto
        clear hb4 hto
        obtain ⟨A1, hA1⟩ : ∃ A1 : List Nd × Option Addr × Nat × Bool, e = .returned (.tuple #[.slice A1.2.1 A1.1.length A1.2.2.1, .bool A1.2.2.2]) ∧ (A1.2.2.2 = false → 1099511627776 < n + 30) ∧ (A1.2.2.2 = true → DoneI n T (l.map (·.o)) (l.map (·.o)).length A1.1 ∧ ∃ m', TrRd w4 m' A1.2.1 A1.2.2.1 A1.1) := by
          rcases HD1.out with ⟨rfl, h⟩ | ⟨a', c', T', m', rfl, h1, h2⟩
          · exact ⟨([], none, 0, false), rfl, fun _ => by rw [List.length_map] at h; omega, nofun⟩
          · exact ⟨(T', a', c', true), rfl, nofun, fun _ => ⟨h1, m', h2⟩⟩
        obtain ⟨A, aa, ac, z1⟩ := A1
        obtain ⟨rfl, hA2, hA3⟩ := hA1
        have HA2 := Lib.hid hA2
        have HA3 := Lib.hid hA3
        clear HD1 hA2 hA3
        go_wp2_with fail
        refine (done_any m a c T fa fc V n _ (HT.out.below HB4.out) HBd.out HM.out HoV4.out hVl HmV.out hn1 (by omega) (by omega) Hln.out).mono ?_
        intro e w5 hto
        obtain ⟨hto, hb5⟩ := hto
        have HB5 := Lib.hid (below2 HB4.out hb5 HB4.out.size)
        have Hb5 := Lib.hid hb5
        have HD2 := Lib.hid hto
        clear hb5 hto
        obtain ⟨A1, hA1⟩ : ∃ A1 : List Nd × Option Addr × Nat × Bool, e = .returned (.tuple #[.slice A1.2.1 A1.1.length A1.2.2.1, .bool A1.2.2.2]) ∧ (A1.2.2.2 = false → 1099511627776 < n + 30) ∧ (A1.2.2.2 = true → DoneI n T (V.map (·.o)) (V.map (·.o)).length A1.1 ∧ ∃ m', TrRd w5 m' A1.2.1 A1.2.2.1 A1.1) := by
          rcases HD2.out with ⟨rfl, h⟩ | ⟨a', c', T', m', rfl, h1, h2⟩
          · exact ⟨([], none, 0, false), rfl, fun _ => by rw [List.length_map] at h; omega, nofun⟩
          · exact ⟨(T', a', c', true), rfl, nofun, fun _ => ⟨h1, m', h2⟩⟩
        obtain ⟨S, sa, sc, z2⟩ := A1
        obtain ⟨rfl, hA2, hA3⟩ := hA1
        have HS2 := Lib.hid hA2
        have HS3 := Lib.hid hA3
        clear HD2 hA2 hA3
        by_cases hz : z1 = true ∧ z2 = true
        · obtain ⟨rfl, rfl⟩ := hz
          obtain ⟨hi1, m1, hr1⟩ := HA3.out rfl
          obtain ⟨hi2, m2, hr2⟩ := HS3.out rfl
          have hsum : SumEq (V.map (·.o)) (l.map (·.o)) := by have := HF.out.sum; simpa using this
          have hol : ∀ o ∈ l.map (·.o), oldDots o.ds := by intro o ho; obtain ⟨u, hu, rfl⟩ := List.mem_map.1 ho; exact Hol.out u hu
          have hoV : ∀ o ∈ V.map (·.o), oldDots o.ds := few_old hsum (by intro o ho; obtain ⟨u, hu, rfl⟩ := List.mem_map.1 ho; exact HmV.out u hu) hol
          have E : Hid (MnE w w5 T l aa ac A sa sc S) := Lib.hid
            { ra := ⟨m1, hr1.below Hb5.out⟩, rs := ⟨m2, hr2⟩, ma := hi1.may, ms := hi2.may, ba := hi1.bd, bs := hi2.bd,
              ca := by have h7 : cntT 3 A ≤ cntT 3 T + 4 * (l.map (·.o)).length := hi1.cnt; rw [List.length_map] at h7; omega
              cs := by have h7 : cntT 3 S ≤ cntT 3 T + 4 * (V.map (·.o)).length := hi2.cnt; rw [List.length_map] at h7; omega
              la := fun p k v hv => by have := (hi1.len p k v hv).1; rw [List.length_map] at this; omega
              ls := fun p k v hv => by have := (hi2.len p k v hv).1; rw [List.length_map] at this; omega
              ask := fun k p => (ask_same HOld.out ⟨fun p => (hsum.adds p).symm, fun p => (hsum.sets p).symm, fun p => (hsum.says p).symm, fun p s => (hsum.puts p s).symm, fun p s => (hsum.drops p s).symm, fun p s => (hsum.has p s).symm⟩ hol hoV hi1 hi2 k p)
              bel := HB5.out }
          clear hi1 hr1 hi2 hr2 hsum hol hoV HA2 HA3 HS2 HS3 HOld Hln HBd HQ HF Hml HmV HoV HoV3 HoV4 HM Hod Hol Hsz3 HB HB2 HB3 HB4 HB5 Hb5
          have hW : Below w5.heap.size w5 (w5.alloc (.cells #[.slice none 0 0] 39)) := (Below.refl _ _).alloc (Nat.le_refl _) _
          obtain ⟨mA, hrA⟩ := E.out.ra
          go_wp2_with fail
          refine (rows_any (fun _ => True) 3 mA aa ac A none 0 [] w5 _ hrA E.out.ma hW (Sl.nil _ _) (by simp) (by have := E.out.ca; omega) (allQ_true 3 A)).mono ?_
          intro e w6 hto
          obtain ⟨ra, rc, R, rfl, hO, hR, _, hRl, hb⟩ := hto
          have HR := Lib.hid hR
          have HO := Lib.hid hO
          have hrl := hO.sl.2.1
          have hrc := hO.sl.2.2.1
          unfold maxLen at hrc
          have hRl2 : R.length ≤ 2000 := by have := E.out.ca; omega
          have HB6 := Lib.hid (below2 hW hb (by simp))
          have hx6 := (hb.block _ (by simp)).trans (heap_new w5 (.cells #[.slice none 0 0] 39))
          have HX6 := Lib.hid hx6
          have HP0 : Hid (PaE w5 w6 ra rc R (some ⟨w5.heap.size, 0, none⟩) 1 [⟨[], none, 0⟩]) := Lib.hid
            ⟨owns_base hO (by simp), fun r hr => (hR r hr).base (by simp), owns_chg (F := []) (show OwnP (w5.alloc (.cells #[.slice none 0 0] 39)) w5.heap.size (some ⟨w5.heap.size, 0, none⟩) 1 [⟨[], none, 0⟩] from ⟨rfl, .inr ⟨w5.heap.size, 1, #[.slice none 0 0], rfl, Nat.le_refl _, heap_new _ _, Nat.le_refl _, by decide, rfl, rfl⟩⟩) (Chg.of_below hb) (by simp), fun y hy => .inl (by simpa using hy), below2 hW hb (by simp)⟩
          clear hO hR hRl hb hW hx6 hrA HX6 HR HO
          go_wp2_with fail
          go_loopw [12, 85] (fun d i wr => ∃ (q : Nat) (ya : Option Addr) (yc : Nat) (Y : List Pt), q ≤ R.length ∧ i = .int .i64 q ∧ d = .slice ya Y.length yc ∧ Hid (Y.length ≤ 1 + 20 * q) ∧ Hid (PaE w5 wr ra rc R ya yc Y)) (fun _ i _ => R.length - (intOf i).toNat)
          case atStart => exact ⟨0, _, 1, [⟨[], none, 0⟩], Nat.zero_le _, rfl, rfl, Lib.hid (by simp), HP0⟩
          case round =>
            clear HP0
            obtain ⟨q, ya, yc, Y, hq, rfl, rfl, HY, P⟩ := hrel
            have hYl : Y.length ≤ 50000 := by have := HY.out; omega
            by_cases hlt : q < R.length
            · obtain ⟨r, hr⟩ : ∃ r, R[q]? = some r := ⟨R[q], by simp [hlt]⟩
              obtain ⟨ad, had, ⟨c0, c1, c2, c3, c4, c5, c6, c7, c8, c9⟩, hlb⟩ := rws_at P.out.rows.sl hr
              subst had
              have hmem := List.mem_of_getElem? hr
              have Hmem := Lib.hid hmem
              have hpl : r.p.length ≤ 20 := (P.out.each r hmem).2.2.1
              have hpc := (P.out.each r hmem).1.strs.2.1
              have hpm := (P.out.each r hmem).1.strs.2.2.1
              unfold maxLen at hpm
              have hA7 : Below wr.heap.size wr (wr.alloc (.cells (rwcell r).toArray 50)) := (Below.refl _ _).alloc (Nat.le_refl _) _
              have HP7 := Lib.hid (P.out.step hA7)
              have HX7 := Lib.hid (heap_new wr (.cells (rwcell r).toArray 50))
              clear hr hmem hA7
              go_wp2_with fail
              obtain ⟨wq, hwq⟩ : ∃ wq, wq = wr := ⟨_, rfl⟩
              subst hwq
              go_loopw [12, 92] (fun d i wx => ∃ (j : Nat) (ya : Option Addr) (yc : Nat) (Z : List Pt), j ≤ r.p.length ∧ i = .int .i64 j ∧ d = .slice ya Z.length yc ∧ Hid (Z.length = Y.length + j) ∧ Hid (PaE w5 wx (some ad) rc R ya yc Z) ∧ Hid (wx.heap[wq.heap.size]? = some (.cells (rwcell r).toArray 50 (0, 0)))) (fun _ i _ => r.p.length - (intOf i).toNat)
              case atStart => exact ⟨0, ya, yc, Y, Nat.zero_le _, rfl, rfl, Lib.hid (by omega), HP7, HX7⟩
              case round =>
                clear HP7 HX7 c0 c1 c2 c3 c4 c5 c6 c7 c8 c9
                obtain ⟨j, za, zc, Z, hj, rfl, rfl, HZ, P, HX⟩ := hrel
                have hZl : Z.length ≤ 60000 := by have := HZ.out; omega
                have d7 := cells_at HX.out
                have z7 := heap_lt HX.out
                simp only [rwcell, lvcell, lcells] at d7
                by_cases hlt2 : j < r.p.length
                · have hrunH : ∀ W : World, (Instr.sliceAt 39 (.slice r.pa r.p.length r.pc) none (some (.int .i64 ((j : Int) + 1))) none).run Tryz.prog W = .ok (.slice r.pa (j + 1) r.pc) W := fun W => by
                    have := slice_hiS r.pa r.p.length r.pc (j + 1) (by omega) W
                    simpa using this
                  have hpt : PtOf R ⟨r.p.take (j + 1), r.pa, r.pc⟩ := .inr ⟨r, Hmem.out, j + 1, by omega, rfl⟩
                  have hA8 : Below wr.heap.size wr (wr.alloc (.cells #[.slice r.pa (j + 1) r.pc] 39)) := (Below.refl _ _).alloc (Nat.le_refl _) _
                  go_wp2_with (at_builtin; go_must (refine wpList_appP rfl _ _ rfl w5.heap.size za zc Z rfl ?o1 (some ⟨wr.heap.size, 0, none⟩) 1 [⟨r.p.take (j + 1), r.pa, r.pc⟩] rfl ?s1 ?n1 ?b1 ?_))
                  case o1 => exact (P.out.step hA8).pts
                  case s1 => exact pt_one ⟨r.p.take (j + 1), r.pa, r.pc⟩ (by
                    have h := heap_new wr (.cells #[.slice r.pa (j + 1) r.pc] 39)
                    have e : (r.p.take (j + 1)).length = j + 1 := by rw [List.length_take]; omega
                    show (wr.alloc (.cells #[.slice r.pa (j + 1) r.pc] 39)).heap[wr.heap.size]? = some (Obj.cells #[.slice r.pa (r.p.take (j + 1)).length r.pc] 39 (0, 0))
                    rw [e]; exact h)
                  case n1 => simp; omega
                  case b1 => have := P.out.bel.size; simp; omega
                  intro v8 a8 k8 w8 hv8 ho8 hb8 hC8
                  have P8 := Lib.hid ((P.out.step hA8).app ho8 (by
                    intro y hy
                    rw [hv8, List.mem_append, List.mem_singleton] at hy
                    rcases hy with hy | rfl
                    · exact P.out.of_ y hy
                    · exact hpt) hb8 hC8)
                  have HX8 := Lib.hid (heap_chg ((hA8.block _ z7).trans HX.out) hC8 (own_blk (P.out.step hA8).pts ((hA8.block _ z7).trans HX.out) (by decide)))
                  have HZ8 := Lib.hid (show v8.length = Y.length + (j + 1) from by rw [hv8]; have := HZ.out; simp; omega)
                  clear hv8 ho8 hb8 hC8 hA8 hpt d7 z7
                  go_wp2_with fail
                  go_roundw
                  case rel => exact ⟨j + 1, a8, k8, v8, by omega, by go_num, rfl, HZ8, P8, HX8⟩
                  case measure => simp [intOf]; omega
                · have HY2 := Lib.hid (show Z.length ≤ 1 + 20 * (q + 1) from by have := HY.out; have := HZ.out; omega)
                  go_wp2_with fail
                  go_roundw
                  case rel => exact ⟨q + 1, za, zc, Z, by omega, by go_num, rfl, HY2, P⟩
                  case measure => simp [intOf]; omega
            · obtain ⟨wq, hwq⟩ : ∃ wq, wq = wr := ⟨_, rfl⟩
              subst hwq
              have hyl := P.out.pts.sl.2.1
              have hyc := P.out.pts.sl.2.2.1
              unfold maxLen at hyc
              have HBq := Lib.hid (show Below w.heap.size w wq from E.out.bel.trans (P.out.bel.mono E.out.bel.size))
              go_wp2_with fail
              go_loopw [107] (fun i wx => ∃ q : Nat, q ≤ Y.length ∧ i = .int .i64 q ∧ Hid (Below wq.heap.size wq wx)) (fun i _ => Y.length - (intOf i).toNat)
              case atStart => exact ⟨0, Nat.zero_le _, rfl, Lib.hid (Below.refl _ _)⟩
              case round =>
                obtain ⟨q2, hq2, rfl, HB7⟩ := hrel
                by_cases hlt3 : q2 < Y.length
                · obtain ⟨y, hy⟩ : ∃ y, Y[q2]? = some y := ⟨Y[q2], by simp [hlt3]⟩
                  obtain ⟨ad, had, c0, hlb⟩ := pts_at (P.out.pts.below HB7.out).sl hy
                  subst had
                  rw [Nat.mul_one] at c0
                  have HyS := Lib.hid (P.out.strs (List.mem_of_getElem? hy))
                  clear hy
                  go_wp2_with fail
                  go_loopw [18] (fun kd wx => ∃ k : Nat, 1 ≤ k ∧ k ≤ 6 ∧ kd = .int .u8 k ∧ Hid (Below wq.heap.size wq wx)) (fun kd _ => 6 - (intOf kd).toNat)
                  case atStart => exact ⟨1, by omega, by omega, rfl, HB7⟩
                  case round =>
                    clear HB7 c0
                    obtain ⟨k, hk1, hk6, rfl, HB7⟩ := hrel
                    by_cases hlt4 : k ≤ 5
                    · obtain ⟨mA, hrA⟩ := E.out.ra
                      obtain ⟨mS, hrS⟩ := E.out.rs
                      have HrA := Lib.hid (show ∀ W, Below wq.heap.size wq W → TrRd W mA aa ac A from fun W hb => (hrA.below P.out.bel).below hb)
                      have HrS := Lib.hid (show ∀ W, Below wq.heap.size wq W → TrRd W mS sa sc S from fun W hb => (hrS.below P.out.bel).below hb)
                      clear hrA hrS
                      go_wp2_with fail
                      refine (rask_any mA aa ac A y.pa y.pc y.p k _ (HrA.out _ HB7.out) E.out.ba E.out.ma (HyS.out.below HB7.out) (by have := E.out.ca; omega) (fun v hv => by have := E.out.la _ _ v hv; omega)).mono ?_
                      intro e w7 hto
                      obtain ⟨X, f, xa, xc, hX, rfl, hXs, hb7⟩ := hto
                      have hX2 := E.out.ask k y.p
                      rw [hX] at hX2
                      have HX2 := Lib.hid hX2.symm
                      have HXs := Lib.hid hXs
                      have HB8 := Lib.hid (below2 HB7.out hb7 HB7.out.size)
                      clear hX hX2 hXs hb7
                      go_wp2_with fail
                      have hW8 : Below w7.heap.size w7 (w7.alloc (.cells #[.bool X.is, .int .i64 X.n, .slice xa X.l.length xc] 52)) := (Below.refl _ _).alloc (Nat.le_refl _) _
                      have hB8' := below2 HB8.out hW8 HB8.out.size
                      refine (rask_any mS sa sc S y.pa y.pc y.p k _ (HrS.out _ hB8') E.out.bs E.out.ms (HyS.out.below hB8') (by have := E.out.cs; omega) (fun v hv => by have := E.out.ls _ _ v hv; omega)).mono ?_
                      intro e w8 hto
                      obtain ⟨X', f', xb, xd, hX', rfl, hXs', hb8⟩ := hto
                      rw [HX2.out] at hX'
                      injection hX' with hX1 hX3
                      subst hX1 hX3
                      have HXs8 := Lib.hid ((HXs.out.below hW8).below hb8)
                      have HXt8 := Lib.hid hXs'
                      have hx8 := (hb8.block _ (by simp)).trans (heap_new w7 (.cells #[.bool X.is, .int .i64 X.n, .slice xa X.l.length xc] 52))
                      have HB9 := Lib.hid (below2 hB8' hb8 hB8'.size)
                      have d8 := cells_at hx8
                      have z8 := heap_lt hx8
                      clear hW8 hB8' hXs' hb8 hx8 HX2
                      go_wp2_with fail
                      have hW9 : Below w8.heap.size w8 (w8.alloc (.cells #[.bool X.is, .int .i64 X.n, .slice xb X.l.length xd] 52)) := (Below.refl _ _).alloc (Nat.le_refl _) _
                      refine (qsame_any X.is X.n xa xb xc xd X.l _ (HXs8.out.below hW9) (HXt8.out.below hW9)).mono ?_
                      rintro e w9 ⟨rfl, hb9⟩
                      have HB10 := Lib.hid (below2 (below2 HB9.out hW9 HB9.out.size) hb9 (by have := HB9.out.size; simp; omega))
                      clear hW9 hb9 d8 z8
                      go_wp2_with fail
                      go_roundw
                      case rel => exact ⟨k + 1, by omega, by omega, by go_num, HB10⟩
                      case measure => simp [intOf]; omega
                    · have hk5 : k = 6 := by omega
                      subst hk5
                      go_wp2_with fail
                      go_roundw
                      case rel => exact ⟨q2 + 1, by omega, by go_num, HB7⟩
                      case measure => simp [intOf]; omega
                · go_wp2_with fail
                  refine (known39_any _).mono ?_
                  rintro e w9 ⟨rfl, hb9⟩
                  have HB9 := Lib.hid (below2 (below2 HBq.out HB7.out HBq.out.size) hb9 (by have := HBq.out.size; have := HB7.out.size; omega))
                  clear hb9
                  go_wp2_with fail
                  go_ret
                  exact ⟨rfl, HB9.out⟩
        · have HT30 := Lib.hid (show 1099511627776 < n + 30 from by
            cases z1 with
            | false => exact HA2.out rfl
            | true =>
              cases z2 with
              | false => exact HS2.out rfl
              | true => exact absurd ⟨rfl, rfl⟩ hz)
          have ht30 : 1099511627776 < n + 30 := HT30.out
          have hzz : (z1 && z2) = false := by cases z1 <;> cases z2 <;> simp_all
          cases z1 with
          | false =>
            go_wp2_with fail
            refine (known39_any _).mono ?_
            rintro e w6 ⟨rfl, hb6⟩
            have HB6 := Lib.hid (below2 HB5.out hb6 HB5.out.size)
            clear hb6
            go_wp2_with fail
            go_ret
            exact ⟨rfl, HB6.out⟩
          | true =>
            obtain rfl : z2 = false := by simpa using hzz
            go_wp2_with fail
            refine (known39_any _).mono ?_
            rintro e w6 ⟨rfl, hb6⟩
            have HB6 := Lib.hid (below2 HB5.out hb6 HB5.out.size)
            clear hb6
            go_wp2_with fail
            go_ret
            exact ⟨rfl, HB6.out⟩
end Go.Proofs.YtmabjghjkgicgaaGreat
