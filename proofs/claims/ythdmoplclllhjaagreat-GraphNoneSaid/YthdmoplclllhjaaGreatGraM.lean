/- graph.Heads: contract. -/
import Derived.Test.YthdmoplclllhjaaGreatGraL
namespace Go.Proofs.YthdmoplclllhjaaGreat
open Go.RowKit
set_option linter.unusedVariables false
set_option linter.unusedSimpArgs false

theorem keysD_any (mb : Nat) (w : World) : Calls Tryz.prog 94 #[.map (some mb)] w fun e w' =>
    e = .returned (.func (.func 152) #[] #[.pointer (some ⟨w.heap.size, 0, none⟩)]) ∧ w' = w.alloc (.cells #[.map (some mb)] 77) := by
  go_enter Tryz.func94, Tryz.ntmps94
  go_wp2_with fail
  go_ret
  exact ⟨rfl, rfl⟩
/-- the heads of commits above some tips -/
def HeadsP (tips : List Dt) (L : List Cm) (Hl : List Dt) : Prop := Hl.Pairwise ltD ∧ ∀ d, d ∈ Hl ↔ (d ∈ tips ∨ ∃ c ∈ L, c.d = d) ∧ behindB L d = false
def HeadsTo (w : World) (tips : List Dt) (L : List Cm) (e : Ending) (w' : World) : Prop :=
  ∃ a c Hl, e = .returned (.slice a (List.length Hl) c) ∧ HeadsP tips L Hl ∧ okV Hl ∧ Hl.length ≤ 100200 ∧ OwnD w' w.heap.size a c Hl ∧ Below w.heap.size w w'
theorem strict_of {l : List Dt} (h : l.Pairwise fun x y => lessD y x = false) (hn : l.Nodup) : l.Pairwise ltD := by
  refine (h.and hn).imp ?_
  rintro a b ⟨h1, h2⟩
  rcases lessD_total h2 with h3 | h3
  · exact h3
  · rw [h3] at h1; cases h1
theorem heads_of {tips : List Dt} {L : List Cw} {F : List Dt} {ss l : List Dt} (hk : KeysInD (fvW L) L.length ss) (ht : tips.Pairwise ltD) (hw : ∀ d ∈ tips, hasV F d = true) (ho : ∀ v ∈ L, hasV F v.c.d = false) (hd : ∀ v ∈ L, okD v.c.d)
    (hp : l.Perm (keepP (behindB (cms L)) (ss ++ tips))) (hs : l.Pairwise fun x y => lessD y x = false) (hn : ((cms L).map (·.d)).Nodup) : HeadsP tips (cms L) l := by
  obtain ⟨k1, k2, k3, k4⟩ := hk
  have hmem : ∀ d, d ∈ ss ↔ ∃ c ∈ cms L, c.d = d := fun d => by
    constructor
    · intro h
      have h2 := (k4 d (k3 d h)).1 h
      cases hf : fvW L d with
      | none => rw [hf] at h2; cases h2
      | some x =>
        obtain ⟨v, hv, hvd, _⟩ := fvW_some hf
        exact ⟨v.c, List.mem_map.2 ⟨v, hv, rfl⟩, hvd⟩
    · rintro ⟨c, hc, rfl⟩
      obtain ⟨v, hv, rfl⟩ := List.mem_map.1 hc
      refine (k4 _ (hd v hv)).2 ?_
      unfold fvW
      rw [fvW_mem hn hv]; rfl
  have hnd : (ss ++ tips).Nodup := by
    refine List.nodup_append.2 ⟨k2, ht.imp (fun {a b} h e => by subst e; exact ltD_irrefl _ h), fun a ha b hb e => ?_⟩
    subst e
    obtain ⟨c, hc, hcd⟩ := (hmem a).1 ha
    obtain ⟨v, hv, rfl⟩ := List.mem_map.1 hc
    have h1 := ho v hv
    rw [hcd, hw a hb] at h1
    cases h1
  refine ⟨strict_of hs (hp.nodup_iff.2 (hnd.filter _)), fun d => ?_⟩
  rw [hp.mem_iff]
  unfold keepP
  rw [List.mem_filter, List.mem_append, hmem]
  simp only [Bool.not_eq_true', or_comm]
set_option maxRecDepth 100000 in
set_option maxHeartbeats 8000000 in
theorem heads_G (pg mb : Nat) (w0 : World) (m : Nat) (b : Bw) (L : List Cw) (va : Option Addr) (vc : Nat) (vv : List Dt) (w : World) (h : GrAt w pg mb w0 m b L va vc vv) :
    Calls Tryz.prog 23 #[.pointer (some ⟨pg, 0, none⟩)] w (HeadsTo w b.b.tips (cms L)) := by
  have H := Lib.hid h
  have hpg := heap_lt h.blk
  have g0 := cells_at h.blk
  simp only [gcells] at g0
  have hB : Below w.heap.size w (w.alloc (.cells #[.pointer (some ⟨pg, 0, none⟩)] 33)) := (Below.refl _ _).alloc (Nat.le_refl _) _
  have HB := Lib.hid hB
  have hemb := enters_of Tryz.func91 (by kernel_rfl) rfl
  clear h hB
  go_enter Tryz.func23, Tryz.ntmps23
  go_wp2_with fail
  refine (none_some pg mb _ (H.out.below HB.out).c5).mono ?_
  rintro e w1 ⟨rfl, rfl⟩
  go_wp2_with fail
  refine region_text [([0, 1, 2, 3, 6, 7, 8, 9, 10, 12], false), ([4], true), ([5], true), ([11, 13, 14], false)] mixed (by kernel_rfl) ?_
  simp only [wpSegs, List.map_cons, List.map_nil, List.getD_cons_succ, List.getD_cons_zero]
  go_wp2_with fail
  refine (keysD_any mb _).mono ?_
  rintro e w2 ⟨rfl, hw2⟩
  have hX2 : Below (w.alloc (.cells #[.pointer (some ⟨pg, 0, none⟩)] 33)).drew.heap.size (w.alloc (.cells #[.pointer (some ⟨pg, 0, none⟩)] 33)).drew w2 := by rw [hw2]; exact (Below.refl _ _).alloc (Nat.le_refl _) _
  have hm2 : w2.heap[w.heap.size + 1]? = some (.cells #[.map (some mb)] 77 (0, 0)) := by rw [hw2]; exact heap_new2 _ _ _
  have b2 := (new1 (((Below.refl _ _).drew).trans hX2))
  have HX2 := Lib.hid hX2
  have HM2 := Lib.hid hm2
  have HG2 := Lib.hid b2.1
  have HB2 := Lib.hid b2.2.2
  have hz2 := b2.2.1
  clear hX2 hm2 b2 hw2
  go_wp2_with fail
  refine And.intro (Agree.of_below HX2.out) ?_
  go_wp2_with fail
  refine (collectD_keys (w.heap.size + 1) mb L.length (fvW L) w2 HM2.out ((H.out.below HB2.out).map.mapF) (by have := H.out.max; omega)).mono ?_
  rintro e w3 ⟨a3, c3, ss, rfl, hks, hown3, hb3⟩
  have HK := Lib.hid hks
  have hk1 := hks.1
  have O3 := Lib.hid (show OwnD w3 (w.heap.size + 1) a3 c3 ss from owns_base hown3 hz2)
  have Hb3 := Lib.hid hb3
  have HB3 := Lib.hid (below2 HB2.out hb3 HB2.out.size)
  have hz3 : w.heap.size + 1 ≤ w3.heap.size := by have := hb3.size; omega
  have HG3 := Lib.hid ((hb3.block _ (heap_lt HG2.out)).trans HG2.out)
  have hmax := H.out.max
  have htm := H.out.tmax
  clear hks hown3 hb3 HX2 HM2 HG2
  go_wp2_with fail
  refine And.intro (Agree.of_below Hb3.out) ?_
  go_wp2_with (at_builtin; go_must (refine wpList_appD rfl _ _ rfl (w.heap.size + 1) a3 c3 ss rfl O3.out b.ta b.tc b.b.tips rfl (((H.out.base.tips).below H.out.bel).below HB3.out) ?n1 ?b1 ?_))
  case n1 => omega
  case b1 => exact hz3
  intro v4 a4 c4 w4 hv4 ho4 hb4 hch4
  have HB4 := Lib.hid (HB3.out.trans (hb4.mono (Nat.le_succ _)))
  have HG4 := Lib.hid ((hb4.block w.heap.size (Nat.lt_succ_self _)).trans HG3.out)
  have O4 := Lib.hid ho4
  have Hv4 := Lib.hid hv4
  have hl4 : v4.length ≤ 100200 := by rw [hv4, List.length_append]; omega
  have hok4 : ∀ d ∈ v4, okD d := by
    intro d hd
    rw [hv4] at hd
    rcases List.mem_append.1 hd with hd | hd
    · exact HK.out.2.2.1 d hd
    · exact H.out.base.okt d hd
  have Hok4 := Lib.hid hok4
  clear hv4 ho4 hb4 hch4 hok4 Hb3 HG3
  have key : ∀ r i s, ((r, i), s) ∈ v4 → ∀ W, Chg (ob a4) w4 W → Calls Tryz.prog 91 (#[.agg #[.int .u8 r, .int .u32 i, .int .u64 s]] ++ #[.pointer (some ⟨w.heap.size, 0, none⟩)]) W (fun e W' => e = .returned (.bool (behindB (cms L) ((r, i), s))) ∧ Below W.heap.size W W') := by
    intro r i s hd W hW
    have hge := fun k hk => (owns_lt O4.out k hk).1
    have hW1 : Below (w.heap.size + 1) w4 W := hW.below (heap_lt HG4.out |> fun h => by omega) hge
    exact behind_any pg mb w0 m b L va vc vv w.heap.size r i s W (H.out.below (HB4.out.trans (hW1.mono (Nat.le_succ _)))) (by rw [cells_at ((hW1.block _ (Nat.lt_succ_self _)).trans HG4.out)]; rfl) (Hok4.out _ hd)
  have Key := Lib.hid key
  clear key
  go_wp2_with fail
  refine (deleteD_fn 91 #[.pointer (some ⟨w.heap.size, 0, none⟩)] (behindB (cms L)) a4 c4 (w.heap.size + 1) v4 _ O4.out (by omega) hemb Key.out).mono ?_
  rintro e w5 ⟨v5, rfl, hv5, ho5, hc5⟩
  have O5 := Lib.hid ho5
  have Hv5 := Lib.hid hv5
  have hl5 : v5.length ≤ 100200 := by rw [hv5]; exact Nat.le_trans (List.length_filter_le _ _) hl4
  have HB5 := Lib.hid (HB4.out.trans ((hc5.below (by have := heap_lt HG4.out; omega) (fun k hk => (owns_lt O4.out k hk).1)).mono (Nat.le_succ _)))
  have hz5 : w.heap.size + 1 ≤ w5.heap.size := by have := heap_lt HG4.out; have := hc5.size; omega
  clear hv5 ho5 hc5 Key
  go_wp2_with fail
  refine And.intro (by kernel_rfl) ?_
  go_wp2_with fail
  refine (sortD_any a4 c4 (w.heap.size + 1) v5 _ O5.out (by omega)).mono ?_
  rintro e w6 ⟨rfl, v6, hl6, hp6, hs6, ho6, hc6⟩
  have O6 := Lib.hid ho6
  have HP6 := Lib.hid (show HeadsP b.b.tips (cms L) v6 from heads_of HK.out H.out.bp.rise H.out.bp.within H.out.out (fun v hv => (H.out.each v hv).ok.d) (by rw [← Hv4.out, ← Hv5.out]; exact hp6) hs6 H.out.nodup)
  have HB6 := Lib.hid (HB5.out.trans ((hc6.below (hz5) (fun k hk => (owns_lt O5.out k hk).1)).mono (Nat.le_succ _)))
  have Hok6 := Lib.hid (show okV v6 from fun d hd => Hok4.out d (by have h1 := hp6.mem_iff.1 hd; rw [Hv5.out] at h1; exact (List.mem_filter.1 h1).1))
  have Hl6 := Lib.hid hl6
  clear ho6 hc6 hp6 hs6
  go_wp2_with fail
  go_ret
  exact ⟨a4, c4, v6, by rw [Hl6.out]; rfl, HP6.out, Hok6.out, by rw [Hl6.out]; exact hl5, O6.out.base (Nat.le_succ _), HB6.out⟩
end Go.Proofs.YthdmoplclllhjaaGreat
