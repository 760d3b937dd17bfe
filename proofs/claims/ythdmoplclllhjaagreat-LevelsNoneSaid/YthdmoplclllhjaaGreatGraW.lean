/- graph.VV, graph.Get: contracts. -/
import Derived.Test.YthdmoplclllhjaaGreatGraV
namespace Go.Proofs.YthdmoplclllhjaaGreat
open Go.RowKit
set_option linter.unusedVariables false
set_option linter.unusedSimpArgs false

theorem okV_nil : okV [] := fun d hd => by cases hd
theorem zeroCw_at (w : World) : CwAt w zeroCw := ⟨(OwnD.nil w 0).vec, (OwnD.nil w 0).vec, (OwnS.nil w 0).strs, (OwnD.nil w 0).vec, ⟨⟨⟨⟨by decide, by decide⟩, by decide, by decide⟩, by decide, by decide⟩, okV_nil, okV_nil, ⟨by decide, by decide⟩, okV_nil⟩⟩
/-- a block with a commit is a row of one -/
theorem own1_of {w : World} {g : Nat} {v : Cw} (h : w.heap[g]? = some (.cells (cwcells v) 46 (0, 0))) : OwnC w 0 (some ⟨g, 0, none⟩) 1 [v] :=
  ⟨by rw [ccs_length], .inr ⟨g, 1, cwcells v, rfl, Nat.zero_le _, h, Nat.le_refl _, by decide, rfl, by simp [ccs, ccel]⟩⟩
theorem own1_blk {w : World} {g : Nat} {v : Cw} (h : OwnC w 0 (some ⟨g, 0, none⟩) 1 [v]) : w.heap[g]? = some (.cells (cwcells v) 46 (0, 0)) := by
  rcases h.2 with ⟨h1, _⟩ | ⟨g', cap, cur, h1, _, hg, _, _, hs, ht⟩
  · simp at h1
  · simp only [Value.slice.injEq, Option.some.injEq, Addr.mk.injEq, and_true, true_and] at h1
    obtain ⟨rfl, _, rfl⟩ := h1
    rw [hg]
    have : cur.toList = (cwcells v).toList := by
      rw [← List.take_of_length_le (l := cur.toList) (i := [v].length * 11) (by rw [Array.length_toList, hs]; exact Nat.le_refl _), ht]
      simp [ccs, ccel]
    rw [Array.toList_inj.1 this]
theorem put1 {w : World} {g : Nat} {v : Cw} (u : Cw) (h : w.heap[g]? = some (.cells (cwcells v) 46 (0, 0))) :
    (w.setCells g 0 (ccel u)).heap[g]? = some (.cells (cwcells u) 46 (0, 0)) ∧ Chg [g] w (w.setCells g 0 (ccel u)) := by
  have h1 := OwnC.put (q := 0) u (own1_of h) (by simp)
  simp only [Nat.zero_mul, List.set_cons_zero] at h1
  exact ⟨own1_blk h1.1, h1.2⟩
theorem there1 {w : World} {g : Nat} {v : Cw} (h : w.heap[g]? = some (.cells (cwcells v) 46 (0, 0))) : w.there g 0 11 := by
  have := OwnC.there (q := 0) (own1_of h) (v := v) rfl
  simpa using this
/-- a commit, or that there is none -/
def GetTo (w : World) (o : Option Cm) (e : Ending) (w' : World) : Prop :=
  ∃ u : Cw, e = .returned (.tuple #[.agg (cwcells u), .bool o.isSome]) ∧ u.c = o.getD zeroC ∧ CwOwn w' w.heap.size u ∧ Below w.heap.size w w'
set_option maxRecDepth 100000 in
set_option maxHeartbeats 4000000 in
theorem get_G (pg mb : Nat) (w0 : World) (m : Nat) (b : Bw) (L : List Cw) (va : Option Addr) (vc : Nat) (vv : List Dt) (r i s : Int) (w : World) (h : GrAt w pg mb w0 m b L va vc vv) (hd : okD ((r, i), s)) :
    Calls Tryz.prog 41 #[.pointer (some ⟨pg, 0, none⟩), .agg #[.int .u8 r, .int .u32 i, .int .u64 s]] w (GetTo w (findC (cms L) ((r, i), s))) := by
  have H := Lib.hid h
  have g0 := cells_at h.blk
  simp only [gcells] at g0
  have hpg := heap_lt h.blk
  clear h
  have hB0 : Below w.heap.size w ((w.alloc (.cells #[.int .u8 r, .int .u32 i, .int .u64 s] 41)).alloc (.cells (ccells 0 0 0 none 0 0 none 0 0 0 0 none 0 0 0 ⟨#[]⟩ none 0 0) 46)) := ((Below.refl _ _).alloc (Nat.le_refl _) _).alloc (by simp) _
  have HB0 := Lib.hid hB0
  go_enter Tryz.func41, Tryz.ntmps41
  go_wp2_with fail
  refine (none_some pg mb _ (H.out.below HB0.out).c5).mono ?_
  rintro e w1 ⟨rfl, rfl⟩
  obtain ⟨V, is, hl, hVc, hVa, hVo, his⟩ : ∃ (V : Cw) (is : Bool), (∀ W, Below w.heap.size w W → (Instr.lookup 77 (.map (some mb)) (.agg #[.int .u8 r, .int .u32 i, .int .u64 s]) true).run Tryz.prog W = .ok (.tuple #[.agg (cwcells V), .bool is]) W) ∧
      V.c = (findC (cms L) ((r, i), s)).getD zeroC ∧ CwAt w V ∧ (V.c.ps.length ≤ 1000000 ∧ V.c.vv.length ≤ 1000000 ∧ V.c.o.p.length ≤ 1000000 ∧ V.c.o.ds.length ≤ 1000000) ∧ is = (findC (cms L) ((r, i), s)).isSome := by
    rw [← fdW_c]
    cases hf : fdW L ((r, i), s) with
    | none => exact ⟨zeroCw, false, fun W hW => H.out.no2 hW hd hf, rfl, zeroCw_at w, by decide, rfl⟩
    | some v =>
      have hv := (fdW_some hf).1
      have hm := H.out.may v hv
      exact ⟨v, true, fun W hW => H.out.yes2 hW hd hf, rfl, (H.out.each v hv).at_, ⟨by have := hm.few; omega, by have := canon_few hm.canon; omega, by have := hm.op.path.2.1; omega, by have := hm.op.few; omega⟩, rfl⟩
  obtain ⟨h1, h2, h3, h4⟩ := hVo
  have HA := Lib.hid hVa
  have HV := Lib.hid hVc
  have His := Lib.hid his
  clear his
  obtain ⟨⟨⟨⟨r0, i0⟩, s0⟩, ps, uu, t, ⟨k, n, x, p, ds⟩⟩, qa, qc, ua, uc, pa, pc, da, dc⟩ := V
  have l1 := hl _ hB0.drew
  have l2 := hl _ (hB0.alloc hB0.size (.cells (ccells 0 0 0 none 0 0 none 0 0 0 0 none 0 0 0 ⟨#[]⟩ none 0 0) 46)).drew
  simp only [cwcells, ccells] at l1 l2
  clear hl hVa hVc hB0
  go_wp2_with fail
  refine region_tree (.seg [0, 1, 2, 3, 4] false (.fork (.seg [5, 6, 7, 8, 9, 10, 11] false .done) (.seg [9, 5, 6, 7, 8, 10, 11] false .done))) mixed (by kernel_rfl) ?_
  simp only [wpSg, List.map_cons, List.map_nil, List.getD_cons_succ, List.getD_cons_zero]
  go_wp2_with fail
  refine And.intro ?_ ?_
  all_goals
    go_wp2_with fail
    refine And.intro (by kernel_rfl) ?_
    go_wp2_with fail
    refine (ownC_any ⟨⟨((r0, i0), s0), ps, uu, t, ⟨k, n, x, p, ds⟩⟩, qa, qc, ua, uc, pa, pc, da, dc⟩ _ (HA.out.below ((HB0.out.alloc HB0.out.size _).drew)) h1 h2 h3 h4).mono ?_
    rintro e w4 ⟨u, rfl, huc, how, hb⟩
    have hb' : Below (w.heap.size + 1 + 1 + 1) ((((w.alloc (.cells #[.int .u8 r, .int .u32 i, .int .u64 s] 41)).alloc (.cells (ccells 0 0 0 none 0 0 none 0 0 0 0 none 0 0 0 ⟨#[]⟩ none 0 0) 46)).alloc (.cells (ccells r0 i0 s0 qa ps.length qc ua uu.length uc t k pa p.length pc n x da ds.length dc) 46)).drew) w4 := by simpa using hb
    have hk : w4.heap[w.heap.size + 1]? = some (.cells (cwcells zeroCw) 46 (0, 0)) := (hb'.block _ (by omega)).trans ((heap_old _ _ (by simp)).trans (heap_new2 _ _ _))
    have HK := Lib.hid hk
    have HU := Lib.hid huc
    have HT := Lib.hid (there1 hk)
    have HO := Lib.hid how
    have HB4 := Lib.hid (show Below w.heap.size w w4 from (HB0.out.alloc HB0.out.size _).drew.trans (hb'.mono (by omega)))
    clear hb hb' hk huc how l1 l2
    go_wp2_with (refine wpList_store_cw rfl _ _ rfl (w.heap.size + 1) 0 u rfl rfl HT.out ?_)
    obtain ⟨hp, hcg⟩ := put1 u HK.out
    have hn : NoRow w4 [w.heap.size + 1] := fun q hq C t' fr hh => by
      rw [List.mem_singleton] at hq
      subst hq
      rw [HK.out] at hh
      cases hh
      exact ⟨by decide, by decide⟩
    have how5 := HO.out.chg hcg hn
    have hb5 := HB4.out.trans (hcg.below HB4.out.size (by simp))
    generalize w4.setCells (w.heap.size + 1) 0 (ccel u) = w5 at *
    have HO5 := Lib.hid how5
    have HB5 := Lib.hid hb5
    have d0 := cells_at hp
    have HUc := Lib.hid (show u.c = (findC (cms L) ((r, i), s)).getD zeroC from HU.out.trans HV.out)
    obtain ⟨⟨⟨⟨r9, i9⟩, s9⟩, ps9, uu9, t9, ⟨k9, n9, x9, p9, ds9⟩⟩, qa9, qc9, ua9, uc9, pa9, pc9, da9, dc9⟩ := u
    simp only [cwcells, ccells] at d0
    clear HT HO HB4 HK HU hn hcg how5 hb5
    go_wp2_with fail
    exact bodyPost_ret (v := .tuple #[.agg (ccells r9 i9 s9 qa9 ps9.length qc9 ua9 uu9.length uc9 t9 k9 pa9 p9.length pc9 n9 x9 da9 ds9.length dc9), .bool is]) (by simp [results, Tryz.results41, go_sem, d0]; try rfl) rfl ⟨_, congrArg (fun z => Ending.returned (.tuple #[.agg (ccells r9 i9 s9 qa9 ps9.length qc9 ua9 uu9.length uc9 t9 k9 pa9 p9.length pc9 n9 x9 da9 ds9.length dc9), .bool z])) His.out, HUc.out, HO5.out.base (by simp <;> omega), HB5.out⟩

end Go.Proofs.YthdmoplclllhjaaGreat
