/- The program's op.Same, commit.Same, and slices.EqualFunc of commits by it: exact. | A snapshot's commits inserted one by one, plainly: what is flawed, what is gone. No program in sight. | Snapshots in memory, flaws in memory; audit.head and record.Graph: the contracts. -/
import Derived.Test.YtaandcblndldmaaGreatBatC
import Derived.Test.YtaandcblndldmaaGreatGraA
import Derived.Test.YtaandcblndldmaaGreatLwL
import Derived.Test.YtaandcblndldmaaGreatRgE
import Derived.Test.YtaandcblndldmaaGreatMatB
import Derived.Test.YtaandcblndldmaaGreatWitA
import Derived.Test.YtaandcblndldmaaGreatGraC
import Derived.Test.YtaandcblndldmaaGreatGraV
/- AudA -/
namespace Go.Proofs.YtaandcblndldmaaGreat
open Go.RowKit
set_option linter.unusedVariables false
set_option linter.unusedSimpArgs false

end Go.Proofs.YtaandcblndldmaaGreat

/- AudP -/
namespace Go.Proofs.YtaandcblndldmaaGreat
open Go.RowKit
set_option linter.unusedVariables false
set_option linter.unusedSimpArgs false

/-- what stands behind some commits: how many came, which were inserted, the last one of these, flaws, which are gone -/
structure Au where
  L : List Cm
  last : Option Cm
  fl : List (Nat × Int)
  gone : List Nat
def auBad (last : Option Cm) (c : Cm) : Bool := match last with | none => false | some x => ltCb c x
noncomputable def auStep (F : List Dt) (s : Au) (k : Nat) (c : Cm) : Au :=
  if insE F (findC s.L) s.L.length c = 0 then ⟨s.L ++ [c], some c, if auBad s.last c = true then s.fl ++ [(k, 16)] else s.fl, s.gone⟩
  else ⟨s.L, s.last, s.fl ++ [(k, insE F (findC s.L) s.L.length c)], s.gone ++ [k]⟩
noncomputable def auFrom (F : List Dt) : Nat → Au → List Cm → Au
  | _, s, [] => s
  | k, s, c :: r => auFrom F (k + 1) (auStep F s k c) r
noncomputable def auF (F : List Dt) (cs : List Cm) : Au := auFrom F 0 ⟨[], none, [], []⟩ cs
theorem auFrom_snoc (F : List Dt) (c : Cm) : ∀ (cs : List Cm) (k : Nat) (s : Au), auFrom F k s (cs ++ [c]) = auStep F (auFrom F k s cs) (k + cs.length) c
  | [], k, s => by simp [auFrom]
  | d :: r, k, s => by
    rw [List.cons_append, auFrom, auFrom_snoc F c r (k + 1), auFrom, List.length_cons]
    congr 1; omega
theorem auF_snoc (F : List Dt) (cs : List Cm) (c : Cm) : auF F (cs ++ [c]) = auStep F (auF F cs) cs.length c := by
  unfold auF
  rw [auFrom_snoc, Nat.zero_add]
theorem auF_nil (F : List Dt) : auF F [] = ⟨[], none, [], []⟩ := rfl
theorem auF_take (F : List Dt) {cs : List Cm} {k : Nat} {c : Cm} (h : cs[k]? = some c) : auF F (cs.take (k + 1)) = auStep F (auF F (cs.take k)) k c := by
  have hk := (List.getElem?_eq_some_iff.1 h).1
  rw [List.take_add_one, h]
  show auF F (cs.take k ++ [c]) = _
  rw [auF_snoc, List.length_take, Nat.min_eq_left (by omega)]
/-- what holds on the way -/
structure AuP (cs : List Cm) (s : Au) : Prop where
  nodup : (s.L.map (·.d)).Nodup
  sub : s.L.Sublist cs
  fg : s.fl = [] → s.gone = []
  all : s.gone = [] → s.L = cs
  last : s.last = s.L.getLast?
  sorted : s.fl = [] → s.L.Pairwise ltC
  clean : s.gone = [] → s.L.Pairwise ltC → s.fl = []
  len : s.L.length + s.gone.length = cs.length
  each : ∀ k ∈ s.gone, k < cs.length
  fle : ∀ x ∈ s.fl, x.1 < cs.length
theorem insE_new {F : List Dt} {L : List Cm} {n : Nat} {c : Cm} (h : insE F (findC L) n c = 0) : ∀ x ∈ L, x.d ≠ c.d := by
  obtain ⟨hM, hG0, _⟩ := insE_zero h
  have hfn : findC L c.d = none := by
    cases hf : findC L c.d with
    | none => rfl
    | some y => unfold hasG at hG0; rw [hf] at hG0; cases hG0
  exact findC_none.1 hfn
theorem pair_snoc {L : List Cm} {c : Cm} (h : (L ++ [c]).Pairwise ltC) : L.Pairwise ltC ∧ ∀ x ∈ L, ltC x c := by
  rw [List.pairwise_append] at h
  exact ⟨h.1, fun x hx => h.2.2 x hx c (by simp)⟩
theorem auF_P (F : List Dt) (cs : List Cm) : AuP cs (auF F cs) := by
  induction cs using snoc_rec with
  | h0 => exact ⟨by simp [auF_nil], List.Sublist.refl _, fun _ => rfl, fun _ => rfl, rfl, fun _ => List.Pairwise.nil, fun _ _ => rfl, rfl, fun k hk => (by cases hk), fun k hk => (by cases hk)⟩
  | h1 cs c ih =>
    rw [auF_snoc]
    generalize auF F cs = s at ih ⊢
    obtain ⟨L, last, fl, gone⟩ := s
    obtain ⟨h1, h2, h3, h4, h5, h6, h7, h8, h9, h10⟩ := ih
    dsimp only at *
    unfold auStep
    dsimp only
    by_cases hz : insE F (findC L) L.length c = 0
    · rw [if_pos hz]
      have hnew := insE_new hz
      have hbad : auBad last c = true ↔ ∃ x, L.getLast? = some x ∧ ltC c x := by
        rw [h5]
        unfold auBad
        cases hl : L.getLast? with
        | none => simp
        | some x => simp [ltCb_iff]
      refine ⟨?_, h2.append (List.Sublist.refl _), fun he => ?_, fun he => by rw [h4 he], by simp, fun he => ?_, fun he hp => ?_, by simp; omega, fun k hk => by have := h9 k hk; simp; omega, fun x hx => ?_⟩
      · rw [List.map_append, List.nodup_append]
        refine ⟨h1, by simp, fun a ha b hb => ?_⟩
        obtain ⟨x, hx, rfl⟩ := List.mem_map.1 ha
        simp at hb
        subst hb
        exact hnew x hx
      · dsimp only at he ⊢
        by_cases hb : auBad last c = true
        · rw [if_pos hb] at he; simp at he
        · rw [if_neg hb] at he; exact h3 he
      · dsimp only at he ⊢
        by_cases hb : auBad last c = true
        · rw [if_pos hb] at he; simp at he
        · rw [if_neg hb] at he
          have hs := h6 he
          rw [List.pairwise_append]
          refine ⟨hs, by simp, fun a ha b hb2 => ?_⟩
          simp at hb2
          subst hb2
          obtain ⟨x, hx⟩ : ∃ x, L.getLast? = some x := by
            cases hl : L.getLast? with
            | none => rw [List.getLast?_eq_none_iff] at hl; subst hl; cases ha
            | some x => exact ⟨x, rfl⟩
          have hxm : x ∈ L := List.mem_of_getLast? hx
          have hxc : ltC x b := by
            rcases ltC_total (hnew x hxm) with h | h
            · exact h
            · exact absurd (hbad.2 ⟨x, hx, h⟩) hb
          obtain ⟨ys, rfl⟩ : ∃ ys, L = ys ++ [x] := by
            have := List.getLast?_eq_some_iff.1 hx
            exact this
          rcases List.mem_append.1 ha with ha | ha
          · exact ltC_trans ((pair_snoc hs).2 a ha) hxc
          · simp at ha; subst ha; exact hxc
      · dsimp only at he hp ⊢
        obtain ⟨hp1, hp2⟩ := pair_snoc hp
        have hb : ¬ auBad last c = true := fun hb => by
          obtain ⟨x, hx, hlt⟩ := hbad.1 hb
          exact ltC_irrefl _ (ltC_trans hlt (hp2 x (List.mem_of_getLast? hx)))
        rw [if_neg hb]
        exact h7 he hp1
      · dsimp only at hx
        by_cases hb : auBad last c = true
        · rw [if_pos hb] at hx
          rcases List.mem_append.1 hx with hx | hx
          · have := h10 x hx; simp; omega
          · simp at hx; subst hx; simp
        · rw [if_neg hb] at hx; have := h10 x hx; simp; omega
    · rw [if_neg hz]
      refine ⟨h1, h2.trans (List.sublist_append_left _ _), fun he => by simp at he, fun he => by simp at he, h5, fun he => by simp at he, fun he => by simp at he, by simp; omega, fun k hk => ?_, fun x hx => ?_⟩
      · rcases List.mem_append.1 hk with hk | hk
        · have := h9 k hk; simp; omega
        · simp at hk; subst hk; simp
      · rcases List.mem_append.1 hx with hx | hx
        · have := h10 x hx; simp; omega
        · simp at hx; subst hx; simp
end Go.Proofs.YtaandcblndldmaaGreat

/- AudB -/
namespace Go.Proofs.YtaandcblndldmaaGreat
open Go.RowKit
set_option linter.unusedVariables false
set_option linter.unusedSimpArgs false

/-- a snapshot and where it lies: the replica's number k and life ip, incarnations, baseline, commits -/
structure Sw where
  k : Nat
  ip : Int
  ia : Option Addr
  ic : Nat
  incs : List Int
  b : Bw
  la : Option Addr
  lc : Nat
  l : List Cw
abbrev sncells (k : Nat) (ip : Int) (ia : Option Addr) (n ic : Nat) (num : Int) (fa : Option Addr) (fn fc : Nat) (ta : Option Addr) (tn tc : Nat) (t : Int) (ra : Option Addr) (rn rc : Nat) (la : Option Addr) (ln lc : Nat) : Array Value :=
  #[.int .u8 k, .int .u32 ip, .slice ia n ic, .int .u64 num, .slice fa fn fc, .slice ta tn tc, .int .u64 t, .slice ra rn rc, .slice la ln lc]
abbrev swcells (v : Sw) : Array Value := sncells v.k v.ip v.ia v.incs.length v.ic v.b.b.num v.b.fa v.b.b.f.length v.b.fc v.b.ta v.b.b.tips.length v.b.tc v.b.b.t v.b.ra v.b.b.tr.length v.b.rc v.la v.l.length v.lc
structure SwAt (w : World) (m : Nat) (v : Sw) : Prop where
  inc : U32 w v.ia v.ic v.incs
  b : BwAt w m v.b
  cms : Cms w v.la v.lc v.l
  k : v.k ≤ 255
  ip : 0 ≤ v.ip ∧ v.ip ≤ 4294967295
theorem SwAt.below {w w' : World} {m : Nat} {v : Sw} (h : SwAt w m v) (hb : Below w.heap.size w w') : SwAt w' m v := ⟨h.inc.below hb, h.b.below hb, h.cms.below hb, h.k, h.ip⟩
/-- not great beyond measure -/
structure SwN (v : Sw) : Prop where
  incs : v.incs.length ≤ 1100000
  f : v.b.b.f.length ≤ 1100000
  tips : v.b.b.tips.length ≤ 1100000
  tr : BdA 1100000 3 v.b.b.tr
  few : v.l.length ≤ 1100000
  each : ∀ u ∈ v.l, CwB u
/-- may the snapshot's replica be -/
def whoB (v : Sw) : Bool := mayK ⟨v.k, v.ip, v.incs, []⟩ v.incs.length
/-- flaws in memory of one's own -/
abbrev Fw := Int × Int
def fcells (l : List Fw) : List Value := l.flatMap fun x => [.int .i64 x.1, .int .i64 x.2]
theorem fcells_append (l m : List Fw) : fcells (l ++ m) = fcells l ++ fcells m := List.flatMap_append
theorem fcells_one : ∀ l : List Fw, ∀ u ∈ fcells l, u.oneCell' = true := by
  intro l u hu
  obtain ⟨x, _, hx⟩ := List.mem_flatMap.1 hu
  simp at hx
  rcases hx with rfl | rfl <;> rfl
theorem Tryz.info_flaw : (Tryz.prog.info? 77).map (fun i => (i.zero, i.size, i.bytes)) = some (some (.agg #[.int .i64 0, .int .i64 0]), 2, 16) := by kernel_rfl
def OwnFl (w : World) (base : Nat) (a : Option Addr) (c : Nat) (v : List Fw) : Prop := w.ownsRow base 77 2 (.slice a v.length c) v.length (fcells v)
def FlV (w : World) (a : Option Addr) (c : Nat) (v : List Fw) : Prop := Sl w 2 a v.length c (fcells v)
theorem OwnFl.sl {w : World} {base : Nat} {a : Option Addr} {c : Nat} {v : List Fw} (h : OwnFl w base a c v) : FlV w a c v := Sl.of_owns h
theorem OwnFl.nil (w : World) (base : Nat) : OwnFl w base none 0 [] := World.ownsRow_nil _ _ _ _
theorem OwnFl.base {w : World} {base base' : Nat} {a : Option Addr} {c : Nat} {v : List Fw} (h : OwnFl w base a c v) (hb : base' ≤ base) : OwnFl w base' a c v := owns_base h hb
theorem OwnFl.below {w w' : World} {base : Nat} {a : Option Addr} {c : Nat} {v : List Fw} (h : OwnFl w base a c v) (hb : Below w.heap.size w w') : OwnFl w' base a c v := owns_chg (F := []) h (Chg.of_below hb) (by simp)
theorem flv_one {w : World} {b : Nat} {x y : Int} (h : w.heap[b]? = some (.cells #[.int .i64 x, .int .i64 y] 77 (0, 0))) : FlV w (some ⟨b, 0, none⟩) 1 [(x, y)] :=
  Sl.blk (C := #[.int .i64 x, .int .i64 y]) h rfl (by simp [maxLen])
section
variable {w : World} {ops : Array Oper} {rest : List Oper} {o : Oper} {a : Act} {Q : Exit → Act → World → Prop}
theorem wpList_appFl (hgd : o.guard = none) (s x : Operand) (ho : o.op = .call { callee := .builtin .append, args := #[s, x], argTypes := #[42, 42] })
    (base : Nat) (va : Option Addr) (vc : Nat) (v : List Fw) (hs : a.eval s = .slice va v.length vc) (hown : OwnFl w base va vc v)
    (sa : Option Addr) (c : Nat) (u : List Fw) (hx : a.eval x = .slice sa u.length c) (hsl : FlV w sa c u) (hn : v.length + u.length ≤ 3000000) (hbase : base ≤ w.heap.size)
    (h : ∀ v' a' c' w', v' = v ++ u → OwnFl w' base a' c' v' → Below base w w' → Chg (ob va) w w' → (∀ k ∈ ob a', k ∈ ob va ∨ w.heap.size ≤ k) → wpList Tryz.prog ops Q rest (a.put o.dst (.slice a' v'.length c')) w') : wpList Tryz.prog ops Q (o :: rest) a w := by
  obtain ⟨i0, hi0, hz0, hz1, hz2⟩ := info_parts Tryz.info_flaw
  refine wpList_append_sl hgd s x 42 ho base 77 i0 (.agg #[.int .i64 0, .int .i64 0]) 2 16 Tryz.underlying42 hi0 hz0 hz1 hz2 rfl (by decide) va v.length vc (fcells v) hs hown sa u.length c (fcells u) hx hsl (fcells_one u) (by unfold maxLen; omega) (by omega) hbase fun a' c' w' h1 h2 h3 => ?_
  have := h (v ++ u) a' c' w' rfl (by unfold OwnFl; rw [fcells_append, List.length_append]; exact h1) (h2.below hbase fun k hk => (owns_lt hown k hk).1) h2 h3
  rwa [List.length_append] at this
end
/-- what is wrong, but for the commits -/
def headL (w b : Bool) : List Fw := (if w = true then [] else [(-1, 2)]) ++ (if b = true then [] else [(-1, 4)])
def HeadATo (w : World) (v : Sw) (e : Ending) (w' : World) : Prop :=
  ∃ (a : Option Addr) (c : Nat) (q : Bool) (L : List Fw), e = .returned (.slice a L.length c) ∧ L = headL (whoB v) q ∧ (q = true ↔ BaseP v.b.b) ∧ OwnFl w' w.heap.size a c L ∧ Below w.heap.size w w'

set_option maxRecDepth 100000 in
set_option maxHeartbeats 16000000 in
theorem headA_any (v : Sw) (m : Nat) (w : World) (h : SwAt w m v) (hN : SwN v) : Calls Tryz.prog 31 #[.agg (swcells v)] w (HeadATo w v) := by
  obtain ⟨k, ip, ia, ic, incs, ⟨⟨num, F, tips, t, tr⟩, fa, fc, ta, tc, ra, rc⟩, la, lc, l⟩ := v
  have H := Lib.hid h
  have HN := Lib.hid hN
  have hk := h.k
  have n1 := hN.incs
  have n2 := hN.f
  have n3 := hN.tips
  dsimp only at hk n1 n2 n3
  have B0 : Hid (BoxE 35 w (w.alloc (.cells (sncells k ip ia incs.length ic num fa F.length fc ta tips.length tc t ra tr.length rc la l.length lc) 35)) (sncells k ip ia incs.length ic num fa F.length fc ta tips.length tc t ra tr.length rc la l.length lc)) := Lib.hid ⟨heap_new _ _, (Below.refl _ _).alloc (Nat.le_refl _) _⟩
  clear h hN
  simp only [swcells]
  go_enter Tryz.func31, Tryz.ntmps31
  go_upto_region 3 with (fail)
  generalize (w.alloc (.cells (sncells k ip ia incs.length ic num fa F.length fc ta tips.length tc t ra tr.length rc la l.length lc) 35)) = wa at B0 ⊢
  have d0 := cells_at B0.out.blk
  simp only [sncells] at d0
  have z0 := heap_lt B0.out.blk
  have BD := Lib.hid (B0.out.step ((Below.refl _ _).drew))
  clear B0
  refine region_text [([0, 1, 2, 3, 4, 5, 6, 7, 8, 9, 10, 11, 12, 13, 14, 15, 16, 17, 18, 19, 20, 21, 22, 23, 24, 25, 26], false)] mixed (by kernel_rfl) ?_
  simp only [wpSegs, List.map_cons, List.map_nil, List.getD_cons_succ, List.getD_cons_zero]
  go_wp2_with fail
  refine (mayActor_any k ip _).mono ?_
  rintro e w1 ⟨rfl, hb⟩
  have B1 := Lib.hid (BD.out.step hb)
  clear hb d0 z0 BD
  have d0 := cells_at B1.out.blk
  simp only [sncells] at d0
  have z0 := heap_lt B1.out.blk
  cases hm : mayA ((k : Int), ip) with
  | false =>
    have He := Lib.hid (show whoB ⟨k, ip, ia, ic, incs, ⟨⟨num, F, tips, t, tr⟩, fa, fc, ta, tc, ra, rc⟩, la, lc, l⟩ = false by simp [whoB, mayK, hm])
    clear hm
    go_wp2_with fail
    refine And.intro (by kernel_rfl) ?_
    go_wp2_with (at_builtin; go_must (refine wpList_appFl rfl _ _ rfl w1.heap.size none 0 [] rfl (OwnFl.nil _ _) (some ⟨w1.heap.size, 0, none⟩) 1 [(-1, 2)] rfl (flv_one (heap_new _ _)) ?n1 ?b1 ?_))
    case n1 => simp
    case b1 => simp
    intro v1 a1 c1 w4 hv ho hb6 _ _
    have hv1 : v1.length ≤ 1 := by rw [hv]; simp
    have Hv1 := Lib.hid hv
    have HO1 := Lib.hid ho
    have B4 := Lib.hid (B1.out.step (((Below.refl _ _).alloc (Nat.le_refl _) _).trans hb6))
    clear ho hb6 hv d0 z0
    have d0 := cells_at B4.out.blk
    simp only [sncells] at d0
    have z0 := heap_lt B4.out.blk
    go_wp2_with fail
    refine (mayBase_any ⟨⟨num, F, tips, t, tr⟩, fa, fc, ta, tc, ra, rc⟩ m _ (H.out.b.below B4.out.bel) (by dsimp only; omega) (by dsimp only; omega) HN.out.tr).mono ?_
    rintro e w5 ⟨q, rfl, hq, hb⟩
    have HQ := Lib.hid hq
    have B5 := Lib.hid (below2 B4.out.bel hb B4.out.bel.size)
    have HB5 := Lib.hid hb
    clear hb hq
    cases q
    case true =>
      go_wp2_with fail
      go_ret
      exact ⟨a1, c1, true, v1, rfl, by rw [Hv1.out, He.out]; rfl, (by simpa using HQ.out), (HO1.out.base B1.out.bel.size).below HB5.out, B5.out⟩
    case false =>
      go_wp2_with (at_builtin; go_must (refine wpList_appFl rfl _ _ rfl w.heap.size a1 c1 v1 rfl ?o2 (some ⟨w5.heap.size, 0, none⟩) 1 [(-1, 4)] rfl (flv_one (heap_new _ _)) ?n2 ?b2 ?_))
      case o2 => exact ((HO1.out.base B1.out.bel.size).below HB5.out).below ((Below.refl _ _).alloc (Nat.le_refl _) _)
      case n2 => simp; omega
      case b2 => have := B5.out.size; simp; omega
      intro v2 a2 c2 w6 hv ho hb6 _ _
      have Hv2 := Lib.hid hv
      have HO2 := Lib.hid ho
      have BB2 := Lib.hid ((B5.out.alloc B5.out.size _).trans hb6)
      clear ho hb6 hv
      go_wp2_with fail
      go_ret
      exact ⟨a2, c2, false, v2, rfl, by rw [Hv2.out, Hv1.out, He.out]; rfl, HQ.out, HO2.out, BB2.out⟩
  | true =>
    have Hm := Lib.hid hm
    clear hm
    go_wp2_with fail
    refine (mayIncs_any ia ic incs incs.length _ (H.out.inc.below B1.out.bel) n1).mono ?_
    rintro e w2 ⟨rfl, hb⟩
    have B2 := Lib.hid (B1.out.step hb)
    clear hb d0 z0
    have d0 := cells_at B2.out.blk
    simp only [sncells] at d0
    have z0 := heap_lt B2.out.blk
    cases hmi : mayIncs incs incs.length with
    | false =>
      have He := Lib.hid (show whoB ⟨k, ip, ia, ic, incs, ⟨⟨num, F, tips, t, tr⟩, fa, fc, ta, tc, ra, rc⟩, la, lc, l⟩ = false by simp [whoB, mayK, hmi])
      clear hmi
      go_wp2_with fail
      refine And.intro (by kernel_rfl) ?_
      go_wp2_with (at_builtin; go_must (refine wpList_appFl rfl _ _ rfl w2.heap.size none 0 [] rfl (OwnFl.nil _ _) (some ⟨w2.heap.size, 0, none⟩) 1 [(-1, 2)] rfl (flv_one (heap_new _ _)) ?n1 ?b1 ?_))
      case n1 => simp
      case b1 => simp
      intro v1 a1 c1 w4 hv ho hb6 _ _
      have hv1 : v1.length ≤ 1 := by rw [hv]; simp
      have Hv1 := Lib.hid hv
      have HO1 := Lib.hid ho
      have B4 := Lib.hid (B2.out.step (((Below.refl _ _).alloc (Nat.le_refl _) _).trans hb6))
      clear ho hb6 hv d0 z0
      have d0 := cells_at B4.out.blk
      simp only [sncells] at d0
      have z0 := heap_lt B4.out.blk
      go_wp2_with fail
      refine (mayBase_any ⟨⟨num, F, tips, t, tr⟩, fa, fc, ta, tc, ra, rc⟩ m _ (H.out.b.below B4.out.bel) (by dsimp only; omega) (by dsimp only; omega) HN.out.tr).mono ?_
      rintro e w5 ⟨q, rfl, hq, hb⟩
      have HQ := Lib.hid hq
      have B5 := Lib.hid (below2 B4.out.bel hb B4.out.bel.size)
      have HB5 := Lib.hid hb
      clear hb hq
      cases q
      case true =>
        go_wp2_with fail
        go_ret
        exact ⟨a1, c1, true, v1, rfl, by rw [Hv1.out, He.out]; rfl, (by simpa using HQ.out), (HO1.out.base B2.out.bel.size).below HB5.out, B5.out⟩
      case false =>
        go_wp2_with (at_builtin; go_must (refine wpList_appFl rfl _ _ rfl w.heap.size a1 c1 v1 rfl ?o2 (some ⟨w5.heap.size, 0, none⟩) 1 [(-1, 4)] rfl (flv_one (heap_new _ _)) ?n2 ?b2 ?_))
        case o2 => exact ((HO1.out.base B2.out.bel.size).below HB5.out).below ((Below.refl _ _).alloc (Nat.le_refl _) _)
        case n2 => simp; omega
        case b2 => have := B5.out.size; simp; omega
        intro v2 a2 c2 w6 hv ho hb6 _ _
        have Hv2 := Lib.hid hv
        have HO2 := Lib.hid ho
        have BB2 := Lib.hid ((B5.out.alloc B5.out.size _).trans hb6)
        clear ho hb6 hv
        go_wp2_with fail
        go_ret
        exact ⟨a2, c2, false, v2, rfl, by rw [Hv2.out, Hv1.out, He.out]; rfl, HQ.out, HO2.out, BB2.out⟩
    | true =>
      have Hmi := Lib.hid hmi
      clear hmi
      by_cases hkn : (k : Int) < (incs.length : Int)
      rotate_left
      · have y0 : decide ((incs.length : Int) ≤ (k : Int)) = true := decide_eq_true (by omega)
        have He := Lib.hid (show whoB ⟨k, ip, ia, ic, incs, ⟨⟨num, F, tips, t, tr⟩, fa, fc, ta, tc, ra, rc⟩, la, lc, l⟩ = false by simp [whoB, mayK, hkn])
        go_wp2_with fail
        refine And.intro (by kernel_rfl) ?_
        go_wp2_with (at_builtin; go_must (refine wpList_appFl rfl _ _ rfl w2.heap.size none 0 [] rfl (OwnFl.nil _ _) (some ⟨w2.heap.size, 0, none⟩) 1 [(-1, 2)] rfl (flv_one (heap_new _ _)) ?n1 ?b1 ?_))
        case n1 => simp
        case b1 => simp
        intro v1 a1 c1 w4 hv ho hb6 _ _
        have hv1 : v1.length ≤ 1 := by rw [hv]; simp
        have Hv1 := Lib.hid hv
        have HO1 := Lib.hid ho
        have B4 := Lib.hid (B2.out.step (((Below.refl _ _).alloc (Nat.le_refl _) _).trans hb6))
        clear ho hb6 hv d0 z0
        have d0 := cells_at B4.out.blk
        simp only [sncells] at d0
        have z0 := heap_lt B4.out.blk
        go_wp2_with fail
        refine (mayBase_any ⟨⟨num, F, tips, t, tr⟩, fa, fc, ta, tc, ra, rc⟩ m _ (H.out.b.below B4.out.bel) (by dsimp only; omega) (by dsimp only; omega) HN.out.tr).mono ?_
        rintro e w5 ⟨q, rfl, hq, hb⟩
        have HQ := Lib.hid hq
        have B5 := Lib.hid (below2 B4.out.bel hb B4.out.bel.size)
        have HB5 := Lib.hid hb
        clear hb hq
        cases q
        case true =>
          go_wp2_with fail
          go_ret
          exact ⟨a1, c1, true, v1, rfl, by rw [Hv1.out, He.out]; rfl, (by simpa using HQ.out), (HO1.out.base B2.out.bel.size).below HB5.out, B5.out⟩
        case false =>
          go_wp2_with (at_builtin; go_must (refine wpList_appFl rfl _ _ rfl w.heap.size a1 c1 v1 rfl ?o2 (some ⟨w5.heap.size, 0, none⟩) 1 [(-1, 4)] rfl (flv_one (heap_new _ _)) ?n2 ?b2 ?_))
          case o2 => exact ((HO1.out.base B2.out.bel.size).below HB5.out).below ((Below.refl _ _).alloc (Nat.le_refl _) _)
          case n2 => simp; omega
          case b2 => have := B5.out.size; simp; omega
          intro v2 a2 c2 w6 hv ho hb6 _ _
          have Hv2 := Lib.hid hv
          have HO2 := Lib.hid ho
          have BB2 := Lib.hid ((B5.out.alloc B5.out.size _).trans hb6)
          clear ho hb6 hv
          go_wp2_with fail
          go_ret
          exact ⟨a2, c2, false, v2, rfl, by rw [Hv2.out, Hv1.out, He.out]; rfl, HQ.out, HO2.out, BB2.out⟩
      have y0 : decide ((incs.length : Int) ≤ (k : Int)) = false := decide_eq_false (by omega)
      have hl : k < incs.length := by omega
      obtain ⟨x, hx⟩ : ∃ x, incs[k]? = some x := ⟨incs[k], by simp [hl]⟩
      have He := Lib.hid (mayK_of (a := ⟨k, ip, incs, []⟩) (n := incs.length) Hm.out hkn Hmi.out (x := x) (by simpa using hx))
      obtain ⟨ad, had, c0, hl0⟩ := (H.out.inc.below B2.out.bel).at hx
      subst had
      clear hx
      by_cases hxi : x = ip
      · have y1 : (x != ip) = false := by rw [hxi]; simp
        replace He := Lib.hid (show whoB ⟨k, ip, some ad, ic, incs, ⟨⟨num, F, tips, t, tr⟩, fa, fc, ta, tc, ra, rc⟩, la, lc, l⟩ = true from He.out.trans (by rw [hxi]; simp))
        go_wp2_with fail
        refine And.intro (by kernel_rfl) ?_
        clear c0
        go_wp2_with fail
        refine (mayBase_any ⟨⟨num, F, tips, t, tr⟩, fa, fc, ta, tc, ra, rc⟩ m _ (H.out.b.below B2.out.bel) (by dsimp only; omega) (by dsimp only; omega) HN.out.tr).mono ?_
        rintro e w5 ⟨q, rfl, hq, hb⟩
        have HQ := Lib.hid hq
        have B5 := Lib.hid (below2 B2.out.bel hb B2.out.bel.size)
        have HB5 := Lib.hid hb
        clear hb hq
        cases q
        case true =>
          go_wp2_with fail
          go_ret
          exact ⟨none, 0, true, [], rfl, by rw [He.out]; rfl, (by simpa using HQ.out), OwnFl.nil _ _, B5.out⟩
        case false =>
          go_wp2_with (at_builtin; go_must (refine wpList_appFl rfl _ _ rfl w.heap.size none 0 [] rfl ?o1 (some ⟨w5.heap.size, 0, none⟩) 1 [(-1, 4)] rfl (flv_one (heap_new _ _)) ?n1 ?b1 ?_))
          case o1 => exact OwnFl.nil _ _
          case n1 => simp
          case b1 => have := B5.out.size; simp; omega
          intro v1 a1 c1 w6 hv ho hb6 _ _
          have Hv1 := Lib.hid hv
          have HO1 := Lib.hid ho
          have BB1 := Lib.hid ((B5.out.alloc B5.out.size _).trans hb6)
          clear ho hb6 hv
          go_wp2_with fail
          go_ret
          exact ⟨a1, c1, false, _, rfl, by rw [Hv1.out, He.out]; rfl, HQ.out, HO1.out, BB1.out⟩
      · have y1 : (x != ip) = true := by rw [bne_iff_ne]; exact hxi
        replace He := Lib.hid (show whoB ⟨k, ip, some ad, ic, incs, ⟨⟨num, F, tips, t, tr⟩, fa, fc, ta, tc, ra, rc⟩, la, lc, l⟩ = false from He.out.trans (by rw [beq_eq_false_iff_ne]; exact hxi))
        go_wp2_with fail
        refine And.intro (by kernel_rfl) ?_
        clear c0
        go_wp2_with (at_builtin; go_must (refine wpList_appFl rfl _ _ rfl w2.heap.size none 0 [] rfl (OwnFl.nil _ _) (some ⟨w2.heap.size, 0, none⟩) 1 [(-1, 2)] rfl (flv_one (heap_new _ _)) ?n1 ?b1 ?_))
        case n1 => simp
        case b1 => simp
        intro v1 a1 c1 w4 hv ho hb6 _ _
        have hv1 : v1.length ≤ 1 := by rw [hv]; simp
        have Hv1 := Lib.hid hv
        have HO1 := Lib.hid ho
        have B4 := Lib.hid (B2.out.step (((Below.refl _ _).alloc (Nat.le_refl _) _).trans hb6))
        clear ho hb6 hv d0 z0
        have d0 := cells_at B4.out.blk
        simp only [sncells] at d0
        have z0 := heap_lt B4.out.blk
        go_wp2_with fail
        refine (mayBase_any ⟨⟨num, F, tips, t, tr⟩, fa, fc, ta, tc, ra, rc⟩ m _ (H.out.b.below B4.out.bel) (by dsimp only; omega) (by dsimp only; omega) HN.out.tr).mono ?_
        rintro e w5 ⟨q, rfl, hq, hb⟩
        have HQ := Lib.hid hq
        have B5 := Lib.hid (below2 B4.out.bel hb B4.out.bel.size)
        have HB5 := Lib.hid hb
        clear hb hq
        cases q
        case true =>
          go_wp2_with fail
          go_ret
          exact ⟨a1, c1, true, v1, rfl, by rw [Hv1.out, He.out]; rfl, (by simpa using HQ.out), (HO1.out.base B2.out.bel.size).below HB5.out, B5.out⟩
        case false =>
          go_wp2_with (at_builtin; go_must (refine wpList_appFl rfl _ _ rfl w.heap.size a1 c1 v1 rfl ?o2 (some ⟨w5.heap.size, 0, none⟩) 1 [(-1, 4)] rfl (flv_one (heap_new _ _)) ?n2 ?b2 ?_))
          case o2 => exact ((HO1.out.base B2.out.bel.size).below HB5.out).below ((Below.refl _ _).alloc (Nat.le_refl _) _)
          case n2 => simp; omega
          case b2 => have := B5.out.size; simp; omega
          intro v2 a2 c2 w6 hv ho hb6 _ _
          have Hv2 := Lib.hid hv
          have HO2 := Lib.hid ho
          have BB2 := Lib.hid ((B5.out.alloc B5.out.size _).trans hb6)
          clear ho hb6 hv
          go_wp2_with fail
          go_ret
          exact ⟨a2, c2, false, v2, rfl, by rw [Hv2.out, Hv1.out, He.out]; rfl, HQ.out, HO2.out, BB2.out⟩
end Go.Proofs.YtaandcblndldmaaGreat
