/- varvelaw06.known: true. Printed by genlaw06k.py. -/
import Derived.Test.YtmabjghjkgicgaaLawD
import Derived.Test.YtmabjghjkgicgaaRegN
namespace Go.Proofs.Ytmabjghjkgicgaa
open Go.RowKit
set_option linter.unusedVariables false
set_option linter.unusedSimpArgs false

def cntL (n : Int) : Lf := { bare 1 with n := n }
def oneI : Lf := { bare 3 with items := [(⟨0, ((0, 1), 1), ⟨#[117]⟩⟩ : It)] }
def oneT : Lf := { bare 3 with tombs := [(((0, 1), 1) : Dt)] }
theorem mayC (n : Int) : MayLf (cntL n) := .inl ⟨rfl, ⟨rfl, rfl, rfl⟩, rfl, rfl⟩
theorem okB (k : Int) (h : 0 ≤ k ∧ k ≤ 255) (n : Int) : okL { bare k with n := n } := ⟨h, by simp [isU, bare], by simp [okD, okA, bare, noDot], fun x hx => by simp [bare] at hx, fun x hx => by simp [bare] at hx⟩
theorem okC (n : Int) : okL (cntL n) := okB 1 (by decide) n
theorem ok3 : okL (bare 3) := okB 3 (by decide) 0
theorem okI1 : okL oneI := ⟨by simp [oneI, bare], by simp [isU, oneI, bare], by simp [okD, okA, oneI, bare, noDot], fun x hx => by simp [oneI] at hx; subst hx; exact ⟨by simp [isU], by simp [okD, okA]⟩, fun x hx => by simp [oneI, bare] at hx⟩
theorem okT1 : okL oneT := ⟨by simp [oneT, bare], by simp [isU, oneT, bare], by simp [okD, okA, oneT, bare, noDot], fun x hx => by simp [oneT, bare] at hx, fun x hx => by simp [oneT] at hx; subst hx; simp [okD, okA]⟩
theorem may3 : MayLf (bare 3) := .inr (.inr (.inl ⟨rfl, rfl, ⟨rfl, rfl, rfl⟩, ⟨fun x hx => by simp [bare] at hx, .nil, .nil⟩, fun x hx => by simp [bare] at hx, .nil, fun x hx => by simp [bare] at hx⟩))
theorem mayI1 : MayLf oneI := .inr (.inr (.inl ⟨rfl, rfl, ⟨rfl, rfl, rfl⟩, ⟨fun x hx => by simp [oneI] at hx; subst hx; exact ⟨by decide, by decide, fun h => (by cases h), fun _ => rfl⟩, by simp [oneI], by simp [oneI, dotsOf]⟩, fun x hx => by simp [oneI, bare] at hx, .nil, fun x hx => by simp [oneI, bare] at hx⟩))
theorem mayT1 : MayLf oneT := .inr (.inr (.inl ⟨rfl, rfl, ⟨rfl, rfl, rfl⟩, ⟨fun x hx => by simp [oneT, bare] at hx, .nil, .nil⟩, fun x hx => by simp [oneT] at hx; subst hx; decide, by simp [oneT], fun x hx => by simp [oneT, dotsOf, bare]⟩))
theorem sumR : MergeR (cntL 5) (cntL 7) (cntL 4) 0 (cntL 6) := .inr (.inr ⟨⟨mayC 5, mayC 7, mayC 4⟩, rfl, rfl, rfl, .inl ⟨rfl, by rfl⟩⟩)
theorem setR : MergeR (bare 3) oneI oneT 0 oneT := .inr (.inr ⟨⟨may3, mayI1, mayT1⟩, rfl, rfl, rfl, .inr (.inr (.inl ⟨rfl, [(((0, 1), 1) : Dt)], [], ⟨by simp, fun d => by simp [oneI, oneT, bare]⟩, ⟨.nil, fun x => by simp [oneI, oneT, bare]; rintro rfl; rfl⟩, rfl⟩))⟩)

theorem cntL_any (n : Int) (w : World) : Calls Try.prog 21 #[.int .i64 n] w fun e w' => e = .returned (.agg #[.int .u8 1, .int .i64 n, .int .u64 0, .int .u8 0, .int .u32 0, .int .u64 0, .string ⟨#[]⟩, .slice none 0 0, .slice none 0 0]) ∧ Below w.heap.size w w' := by
  go_enter Try.func21, Try.ntmps21
  go_wp2_with fail
  refine bodyPost_ret (v := .agg #[.int .u8 1, .int .i64 n, .int .u64 0, .int .u8 0, .int .u32 0, .int .u64 0, .string ⟨#[]⟩, .slice none 0 0, .slice none 0 0]) (by simp [results, Try.results21, go_sem]) rfl ⟨rfl, (Below.refl _ _).alloc (Nat.le_refl _) _⟩
theorem new3_any (w : World) : Calls Try.prog 22 #[.int .u8 3] w fun e w' => e = .returned (.agg #[.int .u8 3, .int .i64 0, .int .u64 0, .int .u8 0, .int .u32 0, .int .u64 0, .string ⟨#[]⟩, .slice none 0 0, .slice none 0 0]) ∧ Below w.heap.size w w' := by
  go_enter Try.func22, Try.ntmps22
  go_wp2_with fail
  refine bodyPost_ret (v := .agg #[.int .u8 3, .int .i64 0, .int .u64 0, .int .u8 0, .int .u32 0, .int .u64 0, .string ⟨#[]⟩, .slice none 0 0, .slice none 0 0]) (by simp [results, Try.results22, go_sem]) rfl ⟨rfl, (Below.refl _ _).alloc (Nat.le_refl _) _⟩
def KTo (w wx : World) (pa : Nat) (Ma : Lv) (vb vf : Value) : Prop := ∃ pb M, vb = .pointer (some ⟨pb, 0, none⟩) ∧ vf = .int .i64 0 ∧ LvBlk wx pb M ∧ M.l = oneT ∧ LvBlk wx pa Ma ∧ Below w.heap.size w wx
theorem k_new {w v W : World} {pa : Nat} {Ma M : Lv} (hB : Below w.heap.size w v) (h : Below v.heap.size v W) (ha : LvBlk v pa Ma) (hM : M.l = oneT) : KTo w (aL W M) pa Ma (.pointer (some ⟨W.heap.size, 0, none⟩)) (.int .i64 0) :=
  have hn : Below W.heap.size W (aL W M) := (Below.refl _ W).alloc (Nat.le_refl _) _
  have h1 := below2 h hn h.size
  ⟨_, M, rfl, rfl, heap_new _ _, hM, ha.below h1, below2 hB h1 hB.size⟩
theorem k_old {w v W : World} {pa pb : Nat} {Ma M : Lv} (hB : Below w.heap.size w v) (h : Below v.heap.size v W) (ha : LvBlk v pa Ma) (hM : M.l = oneT) (hz : Zc W pb) (hp : v.heap.size ≤ pb) : KTo w (nineL W pb M) pa Ma (.pointer (some ⟨pb, 0, none⟩)) (.int .i64 0) :=
  have h1 := below_lv h hp M
  ⟨_, M, rfl, rfl, put_lv hz M, hM, ha.below h1, below2 hB h1 hB.size⟩
def DBlk (w : World) (p : Nat) : Prop := w.heap[p]? = some (.cells #[.int .u8 0, .int .u32 1, .int .u64 1] 31 (0, 0))
def IBlk (w : World) (p : Nat) : Prop := w.heap[p]? = some (.cells #[.int .u64 0, .int .u8 0, .int .u32 1, .int .u64 1, .string ⟨#[117]⟩] 58 (0, 0))
theorem DBlk.below {w w' : World} {p : Nat} (h : DBlk w p) (hb : Below w.heap.size w w') : DBlk w' p := (hb.block _ (heap_lt h)).trans h
theorem IBlk.below {w w' : World} {p : Nat} (h : IBlk w p) (hb : Below w.heap.size w w') : IBlk w' p := (hb.block _ (heap_lt h)).trans h
set_option maxRecDepth 100000 in
set_option maxHeartbeats 8000000 in
theorem known_any (w : World) : Calls Try.prog 6 #[] w fun e w' => e = .returned (.bool true) ∧ Below w.heap.size w w' := by
  go_enter Try.func6, Try.ntmps6
  go_wp2_with fail
  refine (cntL_any 5 _).mono ?_
  rintro e v1 ⟨rfl, hb1⟩
  have HB1 := Lib.hid hb1
  clear hb1
  go_wp2_with fail
  refine (cntL_any 7 _).mono ?_
  rintro e v2 ⟨rfl, hb2⟩
  have HB2 := Lib.hid (below2 HB1.out hb2 HB1.out.size)
  clear hb2
  go_wp2_with fail
  refine (cntL_any 4 _).mono ?_
  rintro e v3 ⟨rfl, hb3⟩
  have HB3 := Lib.hid (below2 HB2.out hb3 HB2.out.size)
  clear hb3
  go_wp2_with fail
  refine (merge_any (cntL 5) (cntL 7) (cntL 4) none none none none none none 0 0 0 0 0 0 _ (LfAt.none rfl rfl) (LfAt.none rfl rfl) (LfAt.none rfl rfl) (okC 5) (okC 7) (okC 4) (by simp [cntL, bare]) (by simp [cntL, bare]) (by simp [cntL, bare]) (by simp [cntL, bare])).mono ?_
  intro e v4 hto
  obtain ⟨Ma, code, rfl, hr, rd, ow, hbb⟩ := hto.lv
  obtain ⟨hc, hMa⟩ := hr.uniq sumR
  subst hc
  have HMa := Lib.hid hMa
  have HB4 := Lib.hid (below2 HB3.out hbb HB3.out.size)
  clear hto hr rd ow hbb hMa HB1 HB2 HB3
  go_upto_region 4 with (fail)
  go_cut [5, 6] (fun vb vf wx => KTo w wx v4.heap.size Ma vb vf)
  case first =>
    refine region_many (.seg [1, 2, 5] false (.fork (.seg [0] true (.fork (.seg [3, 4] false (.fork (.seg [6, 7] false (.fork (.seg [8, 9, 10, 11, 12, 13, 14] false .done) (.seg [12, 8, 9, 10, 11, 13, 14] false .done))) (.seg [12, 6, 7, 8, 9, 10, 11, 13, 14] false .done))) (.fork (.seg [6, 7] false (.fork (.seg [3, 4] false (.fork (.seg [8, 9, 10, 11, 12, 13, 14] false .done) (.seg [12, 8, 9, 10, 11, 13, 14] false .done))) (.seg [12, 3, 4, 8, 9, 10, 11, 13, 14] false .done))) (.seg [12] false (.fork (.seg [3, 4, 6, 7, 8, 9, 10, 11, 13, 14] false .done) (.seg [6, 7, 3, 4, 8, 9, 10, 11, 13, 14] false .done)))))) (.fork (.seg [3, 4] false (.fork (.seg [0] true (.fork (.seg [6, 7] false (.fork (.seg [8, 9, 10, 11, 12, 13, 14] false .done) (.seg [12, 8, 9, 10, 11, 13, 14] false .done))) (.seg [12, 6, 7, 8, 9, 10, 11, 13, 14] false .done))) (.fork (.seg [6, 7] false (.fork (.seg [0] true (.fork (.seg [8, 9, 10, 11, 12, 13, 14] false .done) (.seg [12, 8, 9, 10, 11, 13, 14] false .done))) (.seg [12] false (.seg [0] true (.seg [8, 9, 10, 11, 13, 14] false .done))))) (.seg [12] false (.fork (.seg [0] true (.seg [6, 7, 8, 9, 10, 11, 13, 14] false .done)) (.seg [6, 7] false (.seg [0] true (.seg [8, 9, 10, 11, 13, 14] false .done)))))))) (.fork (.seg [6, 7] false (.fork (.seg [0] true (.fork (.seg [3, 4] false (.fork (.seg [8, 9, 10, 11, 12, 13, 14] false .done) (.seg [12, 8, 9, 10, 11, 13, 14] false .done))) (.seg [12, 3, 4, 8, 9, 10, 11, 13, 14] false .done))) (.fork (.seg [3, 4] false (.fork (.seg [0] true (.fork (.seg [8, 9, 10, 11, 12, 13, 14] false .done) (.seg [12, 8, 9, 10, 11, 13, 14] false .done))) (.seg [12] false (.seg [0] true (.seg [8, 9, 10, 11, 13, 14] false .done))))) (.seg [12] false (.fork (.seg [0] true (.seg [3, 4, 8, 9, 10, 11, 13, 14] false .done)) (.seg [3, 4] false (.seg [0] true (.seg [8, 9, 10, 11, 13, 14] false .done)))))))) (.seg [12] false (.fork (.seg [0] true (.fork (.seg [3, 4, 6, 7, 8, 9, 10, 11, 13, 14] false .done) (.seg [6, 7, 3, 4, 8, 9, 10, 11, 13, 14] false .done))) (.fork (.seg [3, 4] false (.fork (.seg [0] true (.seg [6, 7, 8, 9, 10, 11, 13, 14] false .done)) (.seg [6, 7] false (.seg [0] true (.seg [8, 9, 10, 11, 13, 14] false .done))))) (.seg [6, 7] false (.fork (.seg [0] true (.seg [3, 4, 8, 9, 10, 11, 13, 14] false .done)) (.seg [3, 4] false (.seg [0] true (.seg [8, 9, 10, 11, 13, 14] false .done)))))))))))) mixed (by kernel_rfl) ?_
    simp only [wpSg, List.map_cons, List.map_nil, List.getD_cons_succ, List.getD_cons_zero]
    have hbv : Below v4.heap.size v4 (((v4.alloc (.cells (lcells Ma.l Ma.ia Ma.ic Ma.ta Ma.tc) 40)).alloc (.cells #[.int .u8 0, .int .u32 1, .int .u64 1] 31)).drew) := (((Below.refl _ _).alloc (Nat.le_refl _) _).alloc (by simp) _).drew
    have hba : LvBlk (((v4.alloc (.cells (lcells Ma.l Ma.ia Ma.ic Ma.ta Ma.tc) 40)).alloc (.cells #[.int .u8 0, .int .u32 1, .int .u64 1] 31)).drew) v4.heap.size Ma := (heap_old _ _ (by simp)).trans (heap_new _ _)
    have hbd : DBlk (((v4.alloc (.cells (lcells Ma.l Ma.ia Ma.ic Ma.ta Ma.tc) 40)).alloc (.cells #[.int .u8 0, .int .u32 1, .int .u64 1] 31)).drew) (v4.heap.size + 1) := heap_new2 _ _ _
    have hsz : v4.heap.size + 2 = ((v4.alloc (.cells (lcells Ma.l Ma.ia Ma.ic Ma.ta Ma.tc) 40)).alloc (.cells #[.int .u8 0, .int .u32 1, .int .u64 1] 31)).drew.heap.size := by simp
    simp only [lcells] at hbv hba hbd hsz
    generalize (((v4.alloc (.cells #[.int .u8 Ma.l.k, .int .i64 Ma.l.n, .int .u64 Ma.l.t, .int .u8 Ma.l.d.1.1, .int .u32 Ma.l.d.1.2, .int .u64 Ma.l.d.2, .string Ma.l.x, .slice Ma.ia Ma.l.items.length Ma.ic, .slice Ma.ta Ma.l.tombs.length Ma.tc] 40)).alloc (.cells #[.int .u8 0, .int .u32 1, .int .u64 1] 31)).drew) = v0 at *
    have HV := Lib.hid (below2 HB4.out hbv HB4.out.size)
    have HA := Lib.hid hba
    have HD := Lib.hid hbd
    have d0 := cells_at hbd
    have hs0 : v4.heap.size + 1 < v0.heap.size := by omega
    clear hbv hba hbd
    go_wp2_with fail
    refine And.intro ?_ ?_
    · skip
      go_wp2_with fail
      refine (new3_any _).mono ?_
      rintro e y1 ⟨rfl, hbb⟩
      have HAg := Lib.hid (Agree.of_below hbb)
      have hb1 : Below v0.heap.size v0 y1 := hbb
      have hq1 := hb1.size
      have HD := Lib.hid (HD.out.below hb1)
      have HV1 := Lib.hid hb1
      clear hb1 d0
      have d0 := cells_at HD.out
      have hld1 : v4.heap.size + 1 < y1.heap.size := by omega
      clear hbb
      go_wp2_with fail
      refine And.intro HAg.out ?_
      clear HAg
      refine And.intro ?_ ?_
      · skip
        go_wp2_with fail
        refine And.intro ?_ ?_
        · skip
          go_wp2_with fail
          refine And.intro ?_ ?_
          · skip
            go_wp2_with fail
            refine (merge_any (bare 3) oneI oneT none none (some ⟨y1.heap.size, 0, none⟩) none none (some ⟨y1.heap.size + 1, 0, none⟩) 0 0 1 0 0 1 _ (LfAt.none rfl rfl) ⟨its_one (new2 (Below.refl _ _)).1, Sl.nil _ 3, by simp [oneI], by simp [oneI, bare]⟩ ⟨Sl.nil _ 5, vec_one (new2 (Below.refl _ _)).2.1, by simp [oneT, bare], by simp [oneT]⟩ ok3 okI1 okT1 (by simp [oneI]) (by simp [oneT, bare]) (by simp [oneI, bare]) (by simp [oneT])).mono ?_
            intro e y2 hto
            obtain ⟨M, code, rfl, hr, rd, ow, hbb⟩ := hto.lv
            obtain ⟨hc, hM⟩ := hr.uniq setR
            subst hc
            have HM := Lib.hid hM
            clear hto hr rd ow hM
            have hb2 : Below y1.heap.size y1 y2 := below2 (((Below.refl y1.heap.size y1).alloc (Nat.le_refl _) (.cells #[.int .u64 0, .int .u8 0, .int .u32 1, .int .u64 1, .string ⟨#[117]⟩] 58)).alloc (by simp) (.cells #[.int .u8 0, .int .u32 1, .int .u64 1] 31)) hbb (((Below.refl y1.heap.size y1).alloc (Nat.le_refl _) (.cells #[.int .u64 0, .int .u8 0, .int .u32 1, .int .u64 1, .string ⟨#[117]⟩] 58)).alloc (by simp) (.cells #[.int .u8 0, .int .u32 1, .int .u64 1] 31)).size
            have HI : Hid (IBlk y2 (y1.heap.size)) := Lib.hid (new2 hbb).1
            have HT : Hid (DBlk y2 (y1.heap.size + 1)) := Lib.hid (new2 hbb).2.1
            have hq2 : y1.heap.size + 2 ≤ y2.heap.size := (new2 hbb).2.2.1
            have HD := Lib.hid (HD.out.below hb2)
            have HV2 := Lib.hid (below2 HV1.out hb2 HV1.out.size)
            clear hb2 d0
            have d0 := cells_at HD.out
            have hlI2 : y1.heap.size < y2.heap.size := by omega
            have hlT2 : y1.heap.size + 1 < y2.heap.size := by omega
            have hld2 : v4.heap.size + 1 < y2.heap.size := by omega
            clear hbb
            go_wp2_with fail
            refine And.intro (by kernel_rfl) ?_
            go_wp2_with fail
            go_meet
            exact k_new HV.out HV2.out HA.out HM.out
          · skip
            go_wp2_with fail
            refine (merge_any (bare 3) oneI oneT none none (some ⟨y1.heap.size, 0, none⟩) none none (some ⟨y1.heap.size + 1, 0, none⟩) 0 0 1 0 0 1 _ (LfAt.none rfl rfl) ⟨its_one (new3 (Below.refl _ _)).1, Sl.nil _ 3, by simp [oneI], by simp [oneI, bare]⟩ ⟨Sl.nil _ 5, vec_one (new3 (Below.refl _ _)).2.1, by simp [oneT, bare], by simp [oneT]⟩ ok3 okI1 okT1 (by simp [oneI]) (by simp [oneT, bare]) (by simp [oneI, bare]) (by simp [oneT])).mono ?_
            intro e y2 hto
            obtain ⟨M, code, rfl, hr, rd, ow, hbb⟩ := hto.lv
            obtain ⟨hc, hM⟩ := hr.uniq setR
            subst hc
            have HM := Lib.hid hM
            clear hto hr rd ow hM
            have hb2 : Below y1.heap.size y1 y2 := below2 ((((Below.refl y1.heap.size y1).alloc (Nat.le_refl _) (.cells #[.int .u64 0, .int .u8 0, .int .u32 1, .int .u64 1, .string ⟨#[117]⟩] 58)).alloc (by simp) (.cells #[.int .u8 0, .int .u32 1, .int .u64 1] 31)).alloc (by simp <;> omega) (.cells #[.int .u8 0, .int .i64 0, .int .u64 0, .int .u8 0, .int .u32 0, .int .u64 0, .string ⟨#[]⟩, .slice none 0 0, .slice none 0 0] 40)) hbb ((((Below.refl y1.heap.size y1).alloc (Nat.le_refl _) (.cells #[.int .u64 0, .int .u8 0, .int .u32 1, .int .u64 1, .string ⟨#[117]⟩] 58)).alloc (by simp) (.cells #[.int .u8 0, .int .u32 1, .int .u64 1] 31)).alloc (by simp <;> omega) (.cells #[.int .u8 0, .int .i64 0, .int .u64 0, .int .u8 0, .int .u32 0, .int .u64 0, .string ⟨#[]⟩, .slice none 0 0, .slice none 0 0] 40)).size
            have HI : Hid (IBlk y2 (y1.heap.size)) := Lib.hid (new3 hbb).1
            have HT : Hid (DBlk y2 (y1.heap.size + 1)) := Lib.hid (new3 hbb).2.1
            have HB : Hid (Zc y2 (y1.heap.size + 2)) := Lib.hid (new3 hbb).2.2.1
            have hq2 : y1.heap.size + 3 ≤ y2.heap.size := (new3 hbb).2.2.2.1
            have HD := Lib.hid (HD.out.below hb2)
            have HV2 := Lib.hid (below2 HV1.out hb2 HV1.out.size)
            clear hb2 d0
            have d0 := cells_at HD.out
            have hlI2 : y1.heap.size < y2.heap.size := by omega
            have hlT2 : y1.heap.size + 1 < y2.heap.size := by omega
            have hlB2 : y1.heap.size + 2 < y2.heap.size := by omega
            have gB := cells_at HB.out
            have fB := free_at HB.out
            have hld2 : v4.heap.size + 1 < y2.heap.size := by omega
            clear hbb
            go_wp2_with fail
            refine And.intro (by kernel_rfl) ?_
            go_wp2_with fail
            go_meet
            exact k_old HV.out HV2.out HA.out HM.out HB.out (by omega)
        · skip
          go_wp2_with fail
          refine (merge_any (bare 3) oneI oneT none none (some ⟨y1.heap.size, 0, none⟩) none none (some ⟨y1.heap.size + 1 + 1, 0, none⟩) 0 0 1 0 0 1 _ (LfAt.none rfl rfl) ⟨its_one (new3 (Below.refl _ _)).1, Sl.nil _ 3, by simp [oneI], by simp [oneI, bare]⟩ ⟨Sl.nil _ 5, vec_one (new3 (Below.refl _ _)).2.2.1, by simp [oneT, bare], by simp [oneT]⟩ ok3 okI1 okT1 (by simp [oneI]) (by simp [oneT, bare]) (by simp [oneI, bare]) (by simp [oneT])).mono ?_
          intro e y2 hto
          obtain ⟨M, code, rfl, hr, rd, ow, hbb⟩ := hto.lv
          obtain ⟨hc, hM⟩ := hr.uniq setR
          subst hc
          have HM := Lib.hid hM
          clear hto hr rd ow hM
          have hb2 : Below y1.heap.size y1 y2 := below2 ((((Below.refl y1.heap.size y1).alloc (Nat.le_refl _) (.cells #[.int .u64 0, .int .u8 0, .int .u32 1, .int .u64 1, .string ⟨#[117]⟩] 58)).alloc (by simp) (.cells #[.int .u8 0, .int .i64 0, .int .u64 0, .int .u8 0, .int .u32 0, .int .u64 0, .string ⟨#[]⟩, .slice none 0 0, .slice none 0 0] 40)).alloc (by simp <;> omega) (.cells #[.int .u8 0, .int .u32 1, .int .u64 1] 31)) hbb ((((Below.refl y1.heap.size y1).alloc (Nat.le_refl _) (.cells #[.int .u64 0, .int .u8 0, .int .u32 1, .int .u64 1, .string ⟨#[117]⟩] 58)).alloc (by simp) (.cells #[.int .u8 0, .int .i64 0, .int .u64 0, .int .u8 0, .int .u32 0, .int .u64 0, .string ⟨#[]⟩, .slice none 0 0, .slice none 0 0] 40)).alloc (by simp <;> omega) (.cells #[.int .u8 0, .int .u32 1, .int .u64 1] 31)).size
          have HI : Hid (IBlk y2 (y1.heap.size)) := Lib.hid (new3 hbb).1
          have HB : Hid (Zc y2 (y1.heap.size + 1)) := Lib.hid (new3 hbb).2.1
          have HT : Hid (DBlk y2 (y1.heap.size + 2)) := Lib.hid (new3 hbb).2.2.1
          have hq2 : y1.heap.size + 3 ≤ y2.heap.size := (new3 hbb).2.2.2.1
          have HD := Lib.hid (HD.out.below hb2)
          have HV2 := Lib.hid (below2 HV1.out hb2 HV1.out.size)
          clear hb2 d0
          have d0 := cells_at HD.out
          have hlI2 : y1.heap.size < y2.heap.size := by omega
          have hlB2 : y1.heap.size + 1 < y2.heap.size := by omega
          have gB := cells_at HB.out
          have fB := free_at HB.out
          have hlT2 : y1.heap.size + 2 < y2.heap.size := by omega
          have hld2 : v4.heap.size + 1 < y2.heap.size := by omega
          clear hbb
          go_wp2_with fail
          refine And.intro (by kernel_rfl) ?_
          go_wp2_with fail
          go_meet
          exact k_old HV.out HV2.out HA.out HM.out HB.out (by omega)
      · skip
        refine And.intro ?_ ?_
        · skip
          go_wp2_with fail
          refine And.intro ?_ ?_
          · skip
            go_wp2_with fail
            refine And.intro ?_ ?_
            · skip
              go_wp2_with fail
              refine (merge_any (bare 3) oneI oneT none none (some ⟨y1.heap.size + 1, 0, none⟩) none none (some ⟨y1.heap.size, 0, none⟩) 0 0 1 0 0 1 _ (LfAt.none rfl rfl) ⟨its_one (new2 (Below.refl _ _)).2.1, Sl.nil _ 3, by simp [oneI], by simp [oneI, bare]⟩ ⟨Sl.nil _ 5, vec_one (new2 (Below.refl _ _)).1, by simp [oneT, bare], by simp [oneT]⟩ ok3 okI1 okT1 (by simp [oneI]) (by simp [oneT, bare]) (by simp [oneI, bare]) (by simp [oneT])).mono ?_
              intro e y2 hto
              obtain ⟨M, code, rfl, hr, rd, ow, hbb⟩ := hto.lv
              obtain ⟨hc, hM⟩ := hr.uniq setR
              subst hc
              have HM := Lib.hid hM
              clear hto hr rd ow hM
              have hb2 : Below y1.heap.size y1 y2 := below2 (((Below.refl y1.heap.size y1).alloc (Nat.le_refl _) (.cells #[.int .u8 0, .int .u32 1, .int .u64 1] 31)).alloc (by simp) (.cells #[.int .u64 0, .int .u8 0, .int .u32 1, .int .u64 1, .string ⟨#[117]⟩] 58)) hbb (((Below.refl y1.heap.size y1).alloc (Nat.le_refl _) (.cells #[.int .u8 0, .int .u32 1, .int .u64 1] 31)).alloc (by simp) (.cells #[.int .u64 0, .int .u8 0, .int .u32 1, .int .u64 1, .string ⟨#[117]⟩] 58)).size
              have HT : Hid (DBlk y2 (y1.heap.size)) := Lib.hid (new2 hbb).1
              have HI : Hid (IBlk y2 (y1.heap.size + 1)) := Lib.hid (new2 hbb).2.1
              have hq2 : y1.heap.size + 2 ≤ y2.heap.size := (new2 hbb).2.2.1
              have HD := Lib.hid (HD.out.below hb2)
              have HV2 := Lib.hid (below2 HV1.out hb2 HV1.out.size)
              clear hb2 d0
              have d0 := cells_at HD.out
              have hlT2 : y1.heap.size < y2.heap.size := by omega
              have hlI2 : y1.heap.size + 1 < y2.heap.size := by omega
              have hld2 : v4.heap.size + 1 < y2.heap.size := by omega
              clear hbb
              go_wp2_with fail
              refine And.intro (by kernel_rfl) ?_
              go_wp2_with fail
              go_meet
              exact k_new HV.out HV2.out HA.out HM.out
            · skip
              go_wp2_with fail
              refine (merge_any (bare 3) oneI oneT none none (some ⟨y1.heap.size + 1, 0, none⟩) none none (some ⟨y1.heap.size, 0, none⟩) 0 0 1 0 0 1 _ (LfAt.none rfl rfl) ⟨its_one (new3 (Below.refl _ _)).2.1, Sl.nil _ 3, by simp [oneI], by simp [oneI, bare]⟩ ⟨Sl.nil _ 5, vec_one (new3 (Below.refl _ _)).1, by simp [oneT, bare], by simp [oneT]⟩ ok3 okI1 okT1 (by simp [oneI]) (by simp [oneT, bare]) (by simp [oneI, bare]) (by simp [oneT])).mono ?_
              intro e y2 hto
              obtain ⟨M, code, rfl, hr, rd, ow, hbb⟩ := hto.lv
              obtain ⟨hc, hM⟩ := hr.uniq setR
              subst hc
              have HM := Lib.hid hM
              clear hto hr rd ow hM
              have hb2 : Below y1.heap.size y1 y2 := below2 ((((Below.refl y1.heap.size y1).alloc (Nat.le_refl _) (.cells #[.int .u8 0, .int .u32 1, .int .u64 1] 31)).alloc (by simp) (.cells #[.int .u64 0, .int .u8 0, .int .u32 1, .int .u64 1, .string ⟨#[117]⟩] 58)).alloc (by simp <;> omega) (.cells #[.int .u8 0, .int .i64 0, .int .u64 0, .int .u8 0, .int .u32 0, .int .u64 0, .string ⟨#[]⟩, .slice none 0 0, .slice none 0 0] 40)) hbb ((((Below.refl y1.heap.size y1).alloc (Nat.le_refl _) (.cells #[.int .u8 0, .int .u32 1, .int .u64 1] 31)).alloc (by simp) (.cells #[.int .u64 0, .int .u8 0, .int .u32 1, .int .u64 1, .string ⟨#[117]⟩] 58)).alloc (by simp <;> omega) (.cells #[.int .u8 0, .int .i64 0, .int .u64 0, .int .u8 0, .int .u32 0, .int .u64 0, .string ⟨#[]⟩, .slice none 0 0, .slice none 0 0] 40)).size
              have HT : Hid (DBlk y2 (y1.heap.size)) := Lib.hid (new3 hbb).1
              have HI : Hid (IBlk y2 (y1.heap.size + 1)) := Lib.hid (new3 hbb).2.1
              have HB : Hid (Zc y2 (y1.heap.size + 2)) := Lib.hid (new3 hbb).2.2.1
              have hq2 : y1.heap.size + 3 ≤ y2.heap.size := (new3 hbb).2.2.2.1
              have HD := Lib.hid (HD.out.below hb2)
              have HV2 := Lib.hid (below2 HV1.out hb2 HV1.out.size)
              clear hb2 d0
              have d0 := cells_at HD.out
              have hlT2 : y1.heap.size < y2.heap.size := by omega
              have hlI2 : y1.heap.size + 1 < y2.heap.size := by omega
              have hlB2 : y1.heap.size + 2 < y2.heap.size := by omega
              have gB := cells_at HB.out
              have fB := free_at HB.out
              have hld2 : v4.heap.size + 1 < y2.heap.size := by omega
              clear hbb
              go_wp2_with fail
              refine And.intro (by kernel_rfl) ?_
              go_wp2_with fail
              go_meet
              exact k_old HV.out HV2.out HA.out HM.out HB.out (by omega)
          · skip
            go_wp2_with fail
            refine (merge_any (bare 3) oneI oneT none none (some ⟨y1.heap.size + 1 + 1, 0, none⟩) none none (some ⟨y1.heap.size, 0, none⟩) 0 0 1 0 0 1 _ (LfAt.none rfl rfl) ⟨its_one (new3 (Below.refl _ _)).2.2.1, Sl.nil _ 3, by simp [oneI], by simp [oneI, bare]⟩ ⟨Sl.nil _ 5, vec_one (new3 (Below.refl _ _)).1, by simp [oneT, bare], by simp [oneT]⟩ ok3 okI1 okT1 (by simp [oneI]) (by simp [oneT, bare]) (by simp [oneI, bare]) (by simp [oneT])).mono ?_
            intro e y2 hto
            obtain ⟨M, code, rfl, hr, rd, ow, hbb⟩ := hto.lv
            obtain ⟨hc, hM⟩ := hr.uniq setR
            subst hc
            have HM := Lib.hid hM
            clear hto hr rd ow hM
            have hb2 : Below y1.heap.size y1 y2 := below2 ((((Below.refl y1.heap.size y1).alloc (Nat.le_refl _) (.cells #[.int .u8 0, .int .u32 1, .int .u64 1] 31)).alloc (by simp) (.cells #[.int .u8 0, .int .i64 0, .int .u64 0, .int .u8 0, .int .u32 0, .int .u64 0, .string ⟨#[]⟩, .slice none 0 0, .slice none 0 0] 40)).alloc (by simp <;> omega) (.cells #[.int .u64 0, .int .u8 0, .int .u32 1, .int .u64 1, .string ⟨#[117]⟩] 58)) hbb ((((Below.refl y1.heap.size y1).alloc (Nat.le_refl _) (.cells #[.int .u8 0, .int .u32 1, .int .u64 1] 31)).alloc (by simp) (.cells #[.int .u8 0, .int .i64 0, .int .u64 0, .int .u8 0, .int .u32 0, .int .u64 0, .string ⟨#[]⟩, .slice none 0 0, .slice none 0 0] 40)).alloc (by simp <;> omega) (.cells #[.int .u64 0, .int .u8 0, .int .u32 1, .int .u64 1, .string ⟨#[117]⟩] 58)).size
            have HT : Hid (DBlk y2 (y1.heap.size)) := Lib.hid (new3 hbb).1
            have HB : Hid (Zc y2 (y1.heap.size + 1)) := Lib.hid (new3 hbb).2.1
            have HI : Hid (IBlk y2 (y1.heap.size + 2)) := Lib.hid (new3 hbb).2.2.1
            have hq2 : y1.heap.size + 3 ≤ y2.heap.size := (new3 hbb).2.2.2.1
            have HD := Lib.hid (HD.out.below hb2)
            have HV2 := Lib.hid (below2 HV1.out hb2 HV1.out.size)
            clear hb2 d0
            have d0 := cells_at HD.out
            have hlT2 : y1.heap.size < y2.heap.size := by omega
            have hlB2 : y1.heap.size + 1 < y2.heap.size := by omega
            have gB := cells_at HB.out
            have fB := free_at HB.out
            have hlI2 : y1.heap.size + 2 < y2.heap.size := by omega
            have hld2 : v4.heap.size + 1 < y2.heap.size := by omega
            clear hbb
            go_wp2_with fail
            refine And.intro (by kernel_rfl) ?_
            go_wp2_with fail
            go_meet
            exact k_old HV.out HV2.out HA.out HM.out HB.out (by omega)
        · skip
          go_wp2_with fail
          refine And.intro ?_ ?_
          · skip
            go_wp2_with fail
            refine (merge_any (bare 3) oneI oneT none none (some ⟨y1.heap.size + 1, 0, none⟩) none none (some ⟨y1.heap.size + 1 + 1, 0, none⟩) 0 0 1 0 0 1 _ (LfAt.none rfl rfl) ⟨its_one (new3 (Below.refl _ _)).2.1, Sl.nil _ 3, by simp [oneI], by simp [oneI, bare]⟩ ⟨Sl.nil _ 5, vec_one (new3 (Below.refl _ _)).2.2.1, by simp [oneT, bare], by simp [oneT]⟩ ok3 okI1 okT1 (by simp [oneI]) (by simp [oneT, bare]) (by simp [oneI, bare]) (by simp [oneT])).mono ?_
            intro e y2 hto
            obtain ⟨M, code, rfl, hr, rd, ow, hbb⟩ := hto.lv
            obtain ⟨hc, hM⟩ := hr.uniq setR
            subst hc
            have HM := Lib.hid hM
            clear hto hr rd ow hM
            have hb2 : Below y1.heap.size y1 y2 := below2 ((((Below.refl y1.heap.size y1).alloc (Nat.le_refl _) (.cells #[.int .u8 0, .int .i64 0, .int .u64 0, .int .u8 0, .int .u32 0, .int .u64 0, .string ⟨#[]⟩, .slice none 0 0, .slice none 0 0] 40)).alloc (by simp) (.cells #[.int .u64 0, .int .u8 0, .int .u32 1, .int .u64 1, .string ⟨#[117]⟩] 58)).alloc (by simp <;> omega) (.cells #[.int .u8 0, .int .u32 1, .int .u64 1] 31)) hbb ((((Below.refl y1.heap.size y1).alloc (Nat.le_refl _) (.cells #[.int .u8 0, .int .i64 0, .int .u64 0, .int .u8 0, .int .u32 0, .int .u64 0, .string ⟨#[]⟩, .slice none 0 0, .slice none 0 0] 40)).alloc (by simp) (.cells #[.int .u64 0, .int .u8 0, .int .u32 1, .int .u64 1, .string ⟨#[117]⟩] 58)).alloc (by simp <;> omega) (.cells #[.int .u8 0, .int .u32 1, .int .u64 1] 31)).size
            have HB : Hid (Zc y2 (y1.heap.size)) := Lib.hid (new3 hbb).1
            have HI : Hid (IBlk y2 (y1.heap.size + 1)) := Lib.hid (new3 hbb).2.1
            have HT : Hid (DBlk y2 (y1.heap.size + 2)) := Lib.hid (new3 hbb).2.2.1
            have hq2 : y1.heap.size + 3 ≤ y2.heap.size := (new3 hbb).2.2.2.1
            have HD := Lib.hid (HD.out.below hb2)
            have HV2 := Lib.hid (below2 HV1.out hb2 HV1.out.size)
            clear hb2 d0
            have d0 := cells_at HD.out
            have hlB2 : y1.heap.size < y2.heap.size := by omega
            have gB := cells_at HB.out
            have fB := free_at HB.out
            have hlI2 : y1.heap.size + 1 < y2.heap.size := by omega
            have hlT2 : y1.heap.size + 2 < y2.heap.size := by omega
            have hld2 : v4.heap.size + 1 < y2.heap.size := by omega
            clear hbb
            go_wp2_with fail
            refine And.intro (by kernel_rfl) ?_
            go_wp2_with fail
            go_meet
            exact k_old HV.out HV2.out HA.out HM.out HB.out (by omega)
          · skip
            go_wp2_with fail
            refine (merge_any (bare 3) oneI oneT none none (some ⟨y1.heap.size + 1 + 1, 0, none⟩) none none (some ⟨y1.heap.size + 1, 0, none⟩) 0 0 1 0 0 1 _ (LfAt.none rfl rfl) ⟨its_one (new3 (Below.refl _ _)).2.2.1, Sl.nil _ 3, by simp [oneI], by simp [oneI, bare]⟩ ⟨Sl.nil _ 5, vec_one (new3 (Below.refl _ _)).2.1, by simp [oneT, bare], by simp [oneT]⟩ ok3 okI1 okT1 (by simp [oneI]) (by simp [oneT, bare]) (by simp [oneI, bare]) (by simp [oneT])).mono ?_
            intro e y2 hto
            obtain ⟨M, code, rfl, hr, rd, ow, hbb⟩ := hto.lv
            obtain ⟨hc, hM⟩ := hr.uniq setR
            subst hc
            have HM := Lib.hid hM
            clear hto hr rd ow hM
            have hb2 : Below y1.heap.size y1 y2 := below2 ((((Below.refl y1.heap.size y1).alloc (Nat.le_refl _) (.cells #[.int .u8 0, .int .i64 0, .int .u64 0, .int .u8 0, .int .u32 0, .int .u64 0, .string ⟨#[]⟩, .slice none 0 0, .slice none 0 0] 40)).alloc (by simp) (.cells #[.int .u8 0, .int .u32 1, .int .u64 1] 31)).alloc (by simp <;> omega) (.cells #[.int .u64 0, .int .u8 0, .int .u32 1, .int .u64 1, .string ⟨#[117]⟩] 58)) hbb ((((Below.refl y1.heap.size y1).alloc (Nat.le_refl _) (.cells #[.int .u8 0, .int .i64 0, .int .u64 0, .int .u8 0, .int .u32 0, .int .u64 0, .string ⟨#[]⟩, .slice none 0 0, .slice none 0 0] 40)).alloc (by simp) (.cells #[.int .u8 0, .int .u32 1, .int .u64 1] 31)).alloc (by simp <;> omega) (.cells #[.int .u64 0, .int .u8 0, .int .u32 1, .int .u64 1, .string ⟨#[117]⟩] 58)).size
            have HB : Hid (Zc y2 (y1.heap.size)) := Lib.hid (new3 hbb).1
            have HT : Hid (DBlk y2 (y1.heap.size + 1)) := Lib.hid (new3 hbb).2.1
            have HI : Hid (IBlk y2 (y1.heap.size + 2)) := Lib.hid (new3 hbb).2.2.1
            have hq2 : y1.heap.size + 3 ≤ y2.heap.size := (new3 hbb).2.2.2.1
            have HD := Lib.hid (HD.out.below hb2)
            have HV2 := Lib.hid (below2 HV1.out hb2 HV1.out.size)
            clear hb2 d0
            have d0 := cells_at HD.out
            have hlB2 : y1.heap.size < y2.heap.size := by omega
            have gB := cells_at HB.out
            have fB := free_at HB.out
            have hlT2 : y1.heap.size + 1 < y2.heap.size := by omega
            have hlI2 : y1.heap.size + 2 < y2.heap.size := by omega
            have hld2 : v4.heap.size + 1 < y2.heap.size := by omega
            clear hbb
            go_wp2_with fail
            refine And.intro (by kernel_rfl) ?_
            go_wp2_with fail
            go_meet
            exact k_old HV.out HV2.out HA.out HM.out HB.out (by omega)
    · skip
      refine And.intro ?_ ?_
      · skip
        go_wp2_with fail
        refine And.intro ?_ ?_
        · skip
          go_wp2_with fail
          refine (new3_any _).mono ?_
          rintro e y1 ⟨rfl, hbb⟩
          have HAg := Lib.hid (Agree.of_below hbb)
          have hb1 : Below v0.heap.size v0 y1 := below2 ((Below.refl v0.heap.size v0).alloc (Nat.le_refl _) (.cells #[.int .u64 0, .int .u8 0, .int .u32 1, .int .u64 1, .string ⟨#[117]⟩] 58)) hbb ((Below.refl v0.heap.size v0).alloc (Nat.le_refl _) (.cells #[.int .u64 0, .int .u8 0, .int .u32 1, .int .u64 1, .string ⟨#[117]⟩] 58)).size
          have HI : Hid (IBlk y1 (v0.heap.size)) := Lib.hid (new1 hbb).1
          have hq1 : v0.heap.size + 1 ≤ y1.heap.size := (new1 hbb).2.1
          have HD := Lib.hid (HD.out.below hb1)
          have HV1 := Lib.hid hb1
          clear hb1 d0
          have d0 := cells_at HD.out
          have hlI1 : v0.heap.size < y1.heap.size := by omega
          have hld1 : v4.heap.size + 1 < y1.heap.size := by omega
          clear hbb
          go_wp2_with fail
          refine And.intro HAg.out ?_
          clear HAg
          refine And.intro ?_ ?_
          · skip
            go_wp2_with fail
            refine And.intro ?_ ?_
            · skip
              go_wp2_with fail
              refine (merge_any (bare 3) oneI oneT none none (some ⟨v0.heap.size, 0, none⟩) none none (some ⟨y1.heap.size, 0, none⟩) 0 0 1 0 0 1 _ (LfAt.none rfl rfl) ⟨its_one (HI.out.below ((Below.refl y1.heap.size y1).alloc (Nat.le_refl _) (.cells #[.int .u8 0, .int .u32 1, .int .u64 1] 31))), Sl.nil _ 3, by simp [oneI], by simp [oneI, bare]⟩ ⟨Sl.nil _ 5, vec_one (new1 (Below.refl _ _)).1, by simp [oneT, bare], by simp [oneT]⟩ ok3 okI1 okT1 (by simp [oneI]) (by simp [oneT, bare]) (by simp [oneI, bare]) (by simp [oneT])).mono ?_
              intro e y2 hto
              obtain ⟨M, code, rfl, hr, rd, ow, hbb⟩ := hto.lv
              obtain ⟨hc, hM⟩ := hr.uniq setR
              subst hc
              have HM := Lib.hid hM
              clear hto hr rd ow hM
              have hb2 : Below y1.heap.size y1 y2 := below2 ((Below.refl y1.heap.size y1).alloc (Nat.le_refl _) (.cells #[.int .u8 0, .int .u32 1, .int .u64 1] 31)) hbb ((Below.refl y1.heap.size y1).alloc (Nat.le_refl _) (.cells #[.int .u8 0, .int .u32 1, .int .u64 1] 31)).size
              have HT : Hid (DBlk y2 (y1.heap.size)) := Lib.hid (new1 hbb).1
              have hq2 : y1.heap.size + 1 ≤ y2.heap.size := (new1 hbb).2.1
              have HI := Lib.hid (HI.out.below hb2)
              have HD := Lib.hid (HD.out.below hb2)
              have HV2 := Lib.hid (below2 HV1.out hb2 HV1.out.size)
              clear hb2 d0
              have d0 := cells_at HD.out
              have hlI2 : v0.heap.size < y2.heap.size := by omega
              have hlT2 : y1.heap.size < y2.heap.size := by omega
              have hld2 : v4.heap.size + 1 < y2.heap.size := by omega
              clear hbb
              go_wp2_with fail
              refine And.intro (by kernel_rfl) ?_
              go_wp2_with fail
              go_meet
              exact k_new HV.out HV2.out HA.out HM.out
            · skip
              go_wp2_with fail
              refine (merge_any (bare 3) oneI oneT none none (some ⟨v0.heap.size, 0, none⟩) none none (some ⟨y1.heap.size, 0, none⟩) 0 0 1 0 0 1 _ (LfAt.none rfl rfl) ⟨its_one (HI.out.below (((Below.refl y1.heap.size y1).alloc (Nat.le_refl _) (.cells #[.int .u8 0, .int .u32 1, .int .u64 1] 31)).alloc (by simp) (.cells #[.int .u8 0, .int .i64 0, .int .u64 0, .int .u8 0, .int .u32 0, .int .u64 0, .string ⟨#[]⟩, .slice none 0 0, .slice none 0 0] 40))), Sl.nil _ 3, by simp [oneI], by simp [oneI, bare]⟩ ⟨Sl.nil _ 5, vec_one (new2 (Below.refl _ _)).1, by simp [oneT, bare], by simp [oneT]⟩ ok3 okI1 okT1 (by simp [oneI]) (by simp [oneT, bare]) (by simp [oneI, bare]) (by simp [oneT])).mono ?_
              intro e y2 hto
              obtain ⟨M, code, rfl, hr, rd, ow, hbb⟩ := hto.lv
              obtain ⟨hc, hM⟩ := hr.uniq setR
              subst hc
              have HM := Lib.hid hM
              clear hto hr rd ow hM
              have hb2 : Below y1.heap.size y1 y2 := below2 (((Below.refl y1.heap.size y1).alloc (Nat.le_refl _) (.cells #[.int .u8 0, .int .u32 1, .int .u64 1] 31)).alloc (by simp) (.cells #[.int .u8 0, .int .i64 0, .int .u64 0, .int .u8 0, .int .u32 0, .int .u64 0, .string ⟨#[]⟩, .slice none 0 0, .slice none 0 0] 40)) hbb (((Below.refl y1.heap.size y1).alloc (Nat.le_refl _) (.cells #[.int .u8 0, .int .u32 1, .int .u64 1] 31)).alloc (by simp) (.cells #[.int .u8 0, .int .i64 0, .int .u64 0, .int .u8 0, .int .u32 0, .int .u64 0, .string ⟨#[]⟩, .slice none 0 0, .slice none 0 0] 40)).size
              have HT : Hid (DBlk y2 (y1.heap.size)) := Lib.hid (new2 hbb).1
              have HB : Hid (Zc y2 (y1.heap.size + 1)) := Lib.hid (new2 hbb).2.1
              have hq2 : y1.heap.size + 2 ≤ y2.heap.size := (new2 hbb).2.2.1
              have HI := Lib.hid (HI.out.below hb2)
              have HD := Lib.hid (HD.out.below hb2)
              have HV2 := Lib.hid (below2 HV1.out hb2 HV1.out.size)
              clear hb2 d0
              have d0 := cells_at HD.out
              have hlI2 : v0.heap.size < y2.heap.size := by omega
              have hlT2 : y1.heap.size < y2.heap.size := by omega
              have hlB2 : y1.heap.size + 1 < y2.heap.size := by omega
              have gB := cells_at HB.out
              have fB := free_at HB.out
              have hld2 : v4.heap.size + 1 < y2.heap.size := by omega
              clear hbb
              go_wp2_with fail
              refine And.intro (by kernel_rfl) ?_
              go_wp2_with fail
              go_meet
              exact k_old HV.out HV2.out HA.out HM.out HB.out (by omega)
          · skip
            go_wp2_with fail
            refine (merge_any (bare 3) oneI oneT none none (some ⟨v0.heap.size, 0, none⟩) none none (some ⟨y1.heap.size + 1, 0, none⟩) 0 0 1 0 0 1 _ (LfAt.none rfl rfl) ⟨its_one (HI.out.below (((Below.refl y1.heap.size y1).alloc (Nat.le_refl _) (.cells #[.int .u8 0, .int .i64 0, .int .u64 0, .int .u8 0, .int .u32 0, .int .u64 0, .string ⟨#[]⟩, .slice none 0 0, .slice none 0 0] 40)).alloc (by simp) (.cells #[.int .u8 0, .int .u32 1, .int .u64 1] 31))), Sl.nil _ 3, by simp [oneI], by simp [oneI, bare]⟩ ⟨Sl.nil _ 5, vec_one (new2 (Below.refl _ _)).2.1, by simp [oneT, bare], by simp [oneT]⟩ ok3 okI1 okT1 (by simp [oneI]) (by simp [oneT, bare]) (by simp [oneI, bare]) (by simp [oneT])).mono ?_
            intro e y2 hto
            obtain ⟨M, code, rfl, hr, rd, ow, hbb⟩ := hto.lv
            obtain ⟨hc, hM⟩ := hr.uniq setR
            subst hc
            have HM := Lib.hid hM
            clear hto hr rd ow hM
            have hb2 : Below y1.heap.size y1 y2 := below2 (((Below.refl y1.heap.size y1).alloc (Nat.le_refl _) (.cells #[.int .u8 0, .int .i64 0, .int .u64 0, .int .u8 0, .int .u32 0, .int .u64 0, .string ⟨#[]⟩, .slice none 0 0, .slice none 0 0] 40)).alloc (by simp) (.cells #[.int .u8 0, .int .u32 1, .int .u64 1] 31)) hbb (((Below.refl y1.heap.size y1).alloc (Nat.le_refl _) (.cells #[.int .u8 0, .int .i64 0, .int .u64 0, .int .u8 0, .int .u32 0, .int .u64 0, .string ⟨#[]⟩, .slice none 0 0, .slice none 0 0] 40)).alloc (by simp) (.cells #[.int .u8 0, .int .u32 1, .int .u64 1] 31)).size
            have HB : Hid (Zc y2 (y1.heap.size)) := Lib.hid (new2 hbb).1
            have HT : Hid (DBlk y2 (y1.heap.size + 1)) := Lib.hid (new2 hbb).2.1
            have hq2 : y1.heap.size + 2 ≤ y2.heap.size := (new2 hbb).2.2.1
            have HI := Lib.hid (HI.out.below hb2)
            have HD := Lib.hid (HD.out.below hb2)
            have HV2 := Lib.hid (below2 HV1.out hb2 HV1.out.size)
            clear hb2 d0
            have d0 := cells_at HD.out
            have hlI2 : v0.heap.size < y2.heap.size := by omega
            have hlB2 : y1.heap.size < y2.heap.size := by omega
            have gB := cells_at HB.out
            have fB := free_at HB.out
            have hlT2 : y1.heap.size + 1 < y2.heap.size := by omega
            have hld2 : v4.heap.size + 1 < y2.heap.size := by omega
            clear hbb
            go_wp2_with fail
            refine And.intro (by kernel_rfl) ?_
            go_wp2_with fail
            go_meet
            exact k_old HV.out HV2.out HA.out HM.out HB.out (by omega)
        · skip
          refine And.intro ?_ ?_
          · skip
            go_wp2_with fail
            refine And.intro ?_ ?_
            · skip
              go_wp2_with fail
              refine (new3_any _).mono ?_
              rintro e y1 ⟨rfl, hbb⟩
              have HAg := Lib.hid (Agree.of_below hbb)
              have hb1 : Below v0.heap.size v0 y1 := below2 (((Below.refl v0.heap.size v0).alloc (Nat.le_refl _) (.cells #[.int .u64 0, .int .u8 0, .int .u32 1, .int .u64 1, .string ⟨#[117]⟩] 58)).alloc (by simp) (.cells #[.int .u8 0, .int .u32 1, .int .u64 1] 31)) hbb (((Below.refl v0.heap.size v0).alloc (Nat.le_refl _) (.cells #[.int .u64 0, .int .u8 0, .int .u32 1, .int .u64 1, .string ⟨#[117]⟩] 58)).alloc (by simp) (.cells #[.int .u8 0, .int .u32 1, .int .u64 1] 31)).size
              have HI : Hid (IBlk y1 (v0.heap.size)) := Lib.hid (new2 hbb).1
              have HT : Hid (DBlk y1 (v0.heap.size + 1)) := Lib.hid (new2 hbb).2.1
              have hq1 : v0.heap.size + 2 ≤ y1.heap.size := (new2 hbb).2.2.1
              have HD := Lib.hid (HD.out.below hb1)
              have HV1 := Lib.hid hb1
              clear hb1 d0
              have d0 := cells_at HD.out
              have hlI1 : v0.heap.size < y1.heap.size := by omega
              have hlT1 : v0.heap.size + 1 < y1.heap.size := by omega
              have hld1 : v4.heap.size + 1 < y1.heap.size := by omega
              clear hbb
              go_wp2_with fail
              refine And.intro HAg.out ?_
              clear HAg
              refine And.intro ?_ ?_
              · skip
                go_wp2_with fail
                refine (merge_any (bare 3) oneI oneT none none (some ⟨v0.heap.size, 0, none⟩) none none (some ⟨v0.heap.size + 1, 0, none⟩) 0 0 1 0 0 1 _ (LfAt.none rfl rfl) ⟨its_one (HI.out.below (Below.refl y1.heap.size y1)), Sl.nil _ 3, by simp [oneI], by simp [oneI, bare]⟩ ⟨Sl.nil _ 5, vec_one (HT.out.below (Below.refl y1.heap.size y1)), by simp [oneT, bare], by simp [oneT]⟩ ok3 okI1 okT1 (by simp [oneI]) (by simp [oneT, bare]) (by simp [oneI, bare]) (by simp [oneT])).mono ?_
                intro e y2 hto
                obtain ⟨M, code, rfl, hr, rd, ow, hbb⟩ := hto.lv
                obtain ⟨hc, hM⟩ := hr.uniq setR
                subst hc
                have HM := Lib.hid hM
                clear hto hr rd ow hM
                have hb2 : Below y1.heap.size y1 y2 := hbb
                have hq2 := hb2.size
                have HI := Lib.hid (HI.out.below hb2)
                have HT := Lib.hid (HT.out.below hb2)
                have HD := Lib.hid (HD.out.below hb2)
                have HV2 := Lib.hid (below2 HV1.out hb2 HV1.out.size)
                clear hb2 d0
                have d0 := cells_at HD.out
                have hlI2 : v0.heap.size < y2.heap.size := by omega
                have hlT2 : v0.heap.size + 1 < y2.heap.size := by omega
                have hld2 : v4.heap.size + 1 < y2.heap.size := by omega
                clear hbb
                go_wp2_with fail
                refine And.intro (by kernel_rfl) ?_
                go_wp2_with fail
                go_meet
                exact k_new HV.out HV2.out HA.out HM.out
              · skip
                go_wp2_with fail
                refine (merge_any (bare 3) oneI oneT none none (some ⟨v0.heap.size, 0, none⟩) none none (some ⟨v0.heap.size + 1, 0, none⟩) 0 0 1 0 0 1 _ (LfAt.none rfl rfl) ⟨its_one (HI.out.below ((Below.refl y1.heap.size y1).alloc (Nat.le_refl _) (.cells #[.int .u8 0, .int .i64 0, .int .u64 0, .int .u8 0, .int .u32 0, .int .u64 0, .string ⟨#[]⟩, .slice none 0 0, .slice none 0 0] 40))), Sl.nil _ 3, by simp [oneI], by simp [oneI, bare]⟩ ⟨Sl.nil _ 5, vec_one (HT.out.below ((Below.refl y1.heap.size y1).alloc (Nat.le_refl _) (.cells #[.int .u8 0, .int .i64 0, .int .u64 0, .int .u8 0, .int .u32 0, .int .u64 0, .string ⟨#[]⟩, .slice none 0 0, .slice none 0 0] 40))), by simp [oneT, bare], by simp [oneT]⟩ ok3 okI1 okT1 (by simp [oneI]) (by simp [oneT, bare]) (by simp [oneI, bare]) (by simp [oneT])).mono ?_
                intro e y2 hto
                obtain ⟨M, code, rfl, hr, rd, ow, hbb⟩ := hto.lv
                obtain ⟨hc, hM⟩ := hr.uniq setR
                subst hc
                have HM := Lib.hid hM
                clear hto hr rd ow hM
                have hb2 : Below y1.heap.size y1 y2 := below2 ((Below.refl y1.heap.size y1).alloc (Nat.le_refl _) (.cells #[.int .u8 0, .int .i64 0, .int .u64 0, .int .u8 0, .int .u32 0, .int .u64 0, .string ⟨#[]⟩, .slice none 0 0, .slice none 0 0] 40)) hbb ((Below.refl y1.heap.size y1).alloc (Nat.le_refl _) (.cells #[.int .u8 0, .int .i64 0, .int .u64 0, .int .u8 0, .int .u32 0, .int .u64 0, .string ⟨#[]⟩, .slice none 0 0, .slice none 0 0] 40)).size
                have HB : Hid (Zc y2 (y1.heap.size)) := Lib.hid (new1 hbb).1
                have hq2 : y1.heap.size + 1 ≤ y2.heap.size := (new1 hbb).2.1
                have HI := Lib.hid (HI.out.below hb2)
                have HT := Lib.hid (HT.out.below hb2)
                have HD := Lib.hid (HD.out.below hb2)
                have HV2 := Lib.hid (below2 HV1.out hb2 HV1.out.size)
                clear hb2 d0
                have d0 := cells_at HD.out
                have hlI2 : v0.heap.size < y2.heap.size := by omega
                have hlT2 : v0.heap.size + 1 < y2.heap.size := by omega
                have hlB2 : y1.heap.size < y2.heap.size := by omega
                have gB := cells_at HB.out
                have fB := free_at HB.out
                have hld2 : v4.heap.size + 1 < y2.heap.size := by omega
                clear hbb
                go_wp2_with fail
                refine And.intro (by kernel_rfl) ?_
                go_wp2_with fail
                go_meet
                exact k_old HV.out HV2.out HA.out HM.out HB.out (by omega)
            · skip
              go_wp2_with fail
              refine (new3_any _).mono ?_
              rintro e y1 ⟨rfl, hbb⟩
              have HAg := Lib.hid (Agree.of_below hbb)
              have hb1 : Below v0.heap.size v0 y1 := below2 ((((Below.refl v0.heap.size v0).alloc (Nat.le_refl _) (.cells #[.int .u64 0, .int .u8 0, .int .u32 1, .int .u64 1, .string ⟨#[117]⟩] 58)).alloc (by simp) (.cells #[.int .u8 0, .int .u32 1, .int .u64 1] 31)).alloc (by simp <;> omega) (.cells #[.int .u8 0, .int .i64 0, .int .u64 0, .int .u8 0, .int .u32 0, .int .u64 0, .string ⟨#[]⟩, .slice none 0 0, .slice none 0 0] 40)) hbb ((((Below.refl v0.heap.size v0).alloc (Nat.le_refl _) (.cells #[.int .u64 0, .int .u8 0, .int .u32 1, .int .u64 1, .string ⟨#[117]⟩] 58)).alloc (by simp) (.cells #[.int .u8 0, .int .u32 1, .int .u64 1] 31)).alloc (by simp <;> omega) (.cells #[.int .u8 0, .int .i64 0, .int .u64 0, .int .u8 0, .int .u32 0, .int .u64 0, .string ⟨#[]⟩, .slice none 0 0, .slice none 0 0] 40)).size
              have HI : Hid (IBlk y1 (v0.heap.size)) := Lib.hid (new3 hbb).1
              have HT : Hid (DBlk y1 (v0.heap.size + 1)) := Lib.hid (new3 hbb).2.1
              have HB : Hid (Zc y1 (v0.heap.size + 2)) := Lib.hid (new3 hbb).2.2.1
              have hq1 : v0.heap.size + 3 ≤ y1.heap.size := (new3 hbb).2.2.2.1
              have HD := Lib.hid (HD.out.below hb1)
              have HV1 := Lib.hid hb1
              clear hb1 d0
              have d0 := cells_at HD.out
              have hlI1 : v0.heap.size < y1.heap.size := by omega
              have hlT1 : v0.heap.size + 1 < y1.heap.size := by omega
              have hlB1 : v0.heap.size + 2 < y1.heap.size := by omega
              have gB := cells_at HB.out
              have fB := free_at HB.out
              have hld1 : v4.heap.size + 1 < y1.heap.size := by omega
              clear hbb
              go_wp2_with fail
              refine And.intro HAg.out ?_
              clear HAg
              go_wp2_with fail
              refine (merge_any (bare 3) oneI oneT none none (some ⟨v0.heap.size, 0, none⟩) none none (some ⟨v0.heap.size + 1, 0, none⟩) 0 0 1 0 0 1 _ (LfAt.none rfl rfl) ⟨its_one (HI.out.below (Below.refl y1.heap.size y1)), Sl.nil _ 3, by simp [oneI], by simp [oneI, bare]⟩ ⟨Sl.nil _ 5, vec_one (HT.out.below (Below.refl y1.heap.size y1)), by simp [oneT, bare], by simp [oneT]⟩ ok3 okI1 okT1 (by simp [oneI]) (by simp [oneT, bare]) (by simp [oneI, bare]) (by simp [oneT])).mono ?_
              intro e y2 hto
              obtain ⟨M, code, rfl, hr, rd, ow, hbb⟩ := hto.lv
              obtain ⟨hc, hM⟩ := hr.uniq setR
              subst hc
              have HM := Lib.hid hM
              clear hto hr rd ow hM
              have hb2 : Below y1.heap.size y1 y2 := hbb
              have hq2 := hb2.size
              have HI := Lib.hid (HI.out.below hb2)
              have HT := Lib.hid (HT.out.below hb2)
              have HB := Lib.hid (HB.out.below hb2)
              have HD := Lib.hid (HD.out.below hb2)
              have HV2 := Lib.hid (below2 HV1.out hb2 HV1.out.size)
              clear hb2 d0
              have d0 := cells_at HD.out
              have hlI2 : v0.heap.size < y2.heap.size := by omega
              have hlT2 : v0.heap.size + 1 < y2.heap.size := by omega
              have hlB2 : v0.heap.size + 2 < y2.heap.size := by omega
              have gB := cells_at HB.out
              have fB := free_at HB.out
              have hld2 : v4.heap.size + 1 < y2.heap.size := by omega
              clear hbb
              go_wp2_with fail
              refine And.intro (by kernel_rfl) ?_
              go_wp2_with fail
              go_meet
              exact k_old HV.out HV2.out HA.out HM.out HB.out (by omega)
          · skip
            go_wp2_with fail
            refine And.intro ?_ ?_
            · skip
              go_wp2_with fail
              refine (new3_any _).mono ?_
              rintro e y1 ⟨rfl, hbb⟩
              have HAg := Lib.hid (Agree.of_below hbb)
              have hb1 : Below v0.heap.size v0 y1 := below2 (((Below.refl v0.heap.size v0).alloc (Nat.le_refl _) (.cells #[.int .u64 0, .int .u8 0, .int .u32 1, .int .u64 1, .string ⟨#[117]⟩] 58)).alloc (by simp) (.cells #[.int .u8 0, .int .i64 0, .int .u64 0, .int .u8 0, .int .u32 0, .int .u64 0, .string ⟨#[]⟩, .slice none 0 0, .slice none 0 0] 40)) hbb (((Below.refl v0.heap.size v0).alloc (Nat.le_refl _) (.cells #[.int .u64 0, .int .u8 0, .int .u32 1, .int .u64 1, .string ⟨#[117]⟩] 58)).alloc (by simp) (.cells #[.int .u8 0, .int .i64 0, .int .u64 0, .int .u8 0, .int .u32 0, .int .u64 0, .string ⟨#[]⟩, .slice none 0 0, .slice none 0 0] 40)).size
              have HI : Hid (IBlk y1 (v0.heap.size)) := Lib.hid (new2 hbb).1
              have HB : Hid (Zc y1 (v0.heap.size + 1)) := Lib.hid (new2 hbb).2.1
              have hq1 : v0.heap.size + 2 ≤ y1.heap.size := (new2 hbb).2.2.1
              have HD := Lib.hid (HD.out.below hb1)
              have HV1 := Lib.hid hb1
              clear hb1 d0
              have d0 := cells_at HD.out
              have hlI1 : v0.heap.size < y1.heap.size := by omega
              have hlB1 : v0.heap.size + 1 < y1.heap.size := by omega
              have gB := cells_at HB.out
              have fB := free_at HB.out
              have hld1 : v4.heap.size + 1 < y1.heap.size := by omega
              clear hbb
              go_wp2_with fail
              refine And.intro HAg.out ?_
              clear HAg
              go_wp2_with fail
              refine (merge_any (bare 3) oneI oneT none none (some ⟨v0.heap.size, 0, none⟩) none none (some ⟨y1.heap.size, 0, none⟩) 0 0 1 0 0 1 _ (LfAt.none rfl rfl) ⟨its_one (HI.out.below ((Below.refl y1.heap.size y1).alloc (Nat.le_refl _) (.cells #[.int .u8 0, .int .u32 1, .int .u64 1] 31))), Sl.nil _ 3, by simp [oneI], by simp [oneI, bare]⟩ ⟨Sl.nil _ 5, vec_one (new1 (Below.refl _ _)).1, by simp [oneT, bare], by simp [oneT]⟩ ok3 okI1 okT1 (by simp [oneI]) (by simp [oneT, bare]) (by simp [oneI, bare]) (by simp [oneT])).mono ?_
              intro e y2 hto
              obtain ⟨M, code, rfl, hr, rd, ow, hbb⟩ := hto.lv
              obtain ⟨hc, hM⟩ := hr.uniq setR
              subst hc
              have HM := Lib.hid hM
              clear hto hr rd ow hM
              have hb2 : Below y1.heap.size y1 y2 := below2 ((Below.refl y1.heap.size y1).alloc (Nat.le_refl _) (.cells #[.int .u8 0, .int .u32 1, .int .u64 1] 31)) hbb ((Below.refl y1.heap.size y1).alloc (Nat.le_refl _) (.cells #[.int .u8 0, .int .u32 1, .int .u64 1] 31)).size
              have HT : Hid (DBlk y2 (y1.heap.size)) := Lib.hid (new1 hbb).1
              have hq2 : y1.heap.size + 1 ≤ y2.heap.size := (new1 hbb).2.1
              have HI := Lib.hid (HI.out.below hb2)
              have HB := Lib.hid (HB.out.below hb2)
              have HD := Lib.hid (HD.out.below hb2)
              have HV2 := Lib.hid (below2 HV1.out hb2 HV1.out.size)
              clear hb2 d0
              have d0 := cells_at HD.out
              have hlI2 : v0.heap.size < y2.heap.size := by omega
              have hlB2 : v0.heap.size + 1 < y2.heap.size := by omega
              have gB := cells_at HB.out
              have fB := free_at HB.out
              have hlT2 : y1.heap.size < y2.heap.size := by omega
              have hld2 : v4.heap.size + 1 < y2.heap.size := by omega
              clear hbb
              go_wp2_with fail
              refine And.intro (by kernel_rfl) ?_
              go_wp2_with fail
              go_meet
              exact k_old HV.out HV2.out HA.out HM.out HB.out (by omega)
            · skip
              go_wp2_with fail
              refine (new3_any _).mono ?_
              rintro e y1 ⟨rfl, hbb⟩
              have HAg := Lib.hid (Agree.of_below hbb)
              have hb1 : Below v0.heap.size v0 y1 := below2 ((((Below.refl v0.heap.size v0).alloc (Nat.le_refl _) (.cells #[.int .u64 0, .int .u8 0, .int .u32 1, .int .u64 1, .string ⟨#[117]⟩] 58)).alloc (by simp) (.cells #[.int .u8 0, .int .i64 0, .int .u64 0, .int .u8 0, .int .u32 0, .int .u64 0, .string ⟨#[]⟩, .slice none 0 0, .slice none 0 0] 40)).alloc (by simp <;> omega) (.cells #[.int .u8 0, .int .u32 1, .int .u64 1] 31)) hbb ((((Below.refl v0.heap.size v0).alloc (Nat.le_refl _) (.cells #[.int .u64 0, .int .u8 0, .int .u32 1, .int .u64 1, .string ⟨#[117]⟩] 58)).alloc (by simp) (.cells #[.int .u8 0, .int .i64 0, .int .u64 0, .int .u8 0, .int .u32 0, .int .u64 0, .string ⟨#[]⟩, .slice none 0 0, .slice none 0 0] 40)).alloc (by simp <;> omega) (.cells #[.int .u8 0, .int .u32 1, .int .u64 1] 31)).size
              have HI : Hid (IBlk y1 (v0.heap.size)) := Lib.hid (new3 hbb).1
              have HB : Hid (Zc y1 (v0.heap.size + 1)) := Lib.hid (new3 hbb).2.1
              have HT : Hid (DBlk y1 (v0.heap.size + 2)) := Lib.hid (new3 hbb).2.2.1
              have hq1 : v0.heap.size + 3 ≤ y1.heap.size := (new3 hbb).2.2.2.1
              have HD := Lib.hid (HD.out.below hb1)
              have HV1 := Lib.hid hb1
              clear hb1 d0
              have d0 := cells_at HD.out
              have hlI1 : v0.heap.size < y1.heap.size := by omega
              have hlB1 : v0.heap.size + 1 < y1.heap.size := by omega
              have gB := cells_at HB.out
              have fB := free_at HB.out
              have hlT1 : v0.heap.size + 2 < y1.heap.size := by omega
              have hld1 : v4.heap.size + 1 < y1.heap.size := by omega
              clear hbb
              go_wp2_with fail
              refine And.intro HAg.out ?_
              clear HAg
              go_wp2_with fail
              refine (merge_any (bare 3) oneI oneT none none (some ⟨v0.heap.size, 0, none⟩) none none (some ⟨v0.heap.size + 2, 0, none⟩) 0 0 1 0 0 1 _ (LfAt.none rfl rfl) ⟨its_one (HI.out.below (Below.refl y1.heap.size y1)), Sl.nil _ 3, by simp [oneI], by simp [oneI, bare]⟩ ⟨Sl.nil _ 5, vec_one (HT.out.below (Below.refl y1.heap.size y1)), by simp [oneT, bare], by simp [oneT]⟩ ok3 okI1 okT1 (by simp [oneI]) (by simp [oneT, bare]) (by simp [oneI, bare]) (by simp [oneT])).mono ?_
              intro e y2 hto
              obtain ⟨M, code, rfl, hr, rd, ow, hbb⟩ := hto.lv
              obtain ⟨hc, hM⟩ := hr.uniq setR
              subst hc
              have HM := Lib.hid hM
              clear hto hr rd ow hM
              have hb2 : Below y1.heap.size y1 y2 := hbb
              have hq2 := hb2.size
              have HI := Lib.hid (HI.out.below hb2)
              have HB := Lib.hid (HB.out.below hb2)
              have HT := Lib.hid (HT.out.below hb2)
              have HD := Lib.hid (HD.out.below hb2)
              have HV2 := Lib.hid (below2 HV1.out hb2 HV1.out.size)
              clear hb2 d0
              have d0 := cells_at HD.out
              have hlI2 : v0.heap.size < y2.heap.size := by omega
              have hlB2 : v0.heap.size + 1 < y2.heap.size := by omega
              have gB := cells_at HB.out
              have fB := free_at HB.out
              have hlT2 : v0.heap.size + 2 < y2.heap.size := by omega
              have hld2 : v4.heap.size + 1 < y2.heap.size := by omega
              clear hbb
              go_wp2_with fail
              refine And.intro (by kernel_rfl) ?_
              go_wp2_with fail
              go_meet
              exact k_old HV.out HV2.out HA.out HM.out HB.out (by omega)
      · skip
        refine And.intro ?_ ?_
        · skip
          go_wp2_with fail
          refine And.intro ?_ ?_
          · skip
            go_wp2_with fail
            refine (new3_any _).mono ?_
            rintro e y1 ⟨rfl, hbb⟩
            have HAg := Lib.hid (Agree.of_below hbb)
            have hb1 : Below v0.heap.size v0 y1 := below2 ((Below.refl v0.heap.size v0).alloc (Nat.le_refl _) (.cells #[.int .u8 0, .int .u32 1, .int .u64 1] 31)) hbb ((Below.refl v0.heap.size v0).alloc (Nat.le_refl _) (.cells #[.int .u8 0, .int .u32 1, .int .u64 1] 31)).size
            have HT : Hid (DBlk y1 (v0.heap.size)) := Lib.hid (new1 hbb).1
            have hq1 : v0.heap.size + 1 ≤ y1.heap.size := (new1 hbb).2.1
            have HD := Lib.hid (HD.out.below hb1)
            have HV1 := Lib.hid hb1
            clear hb1 d0
            have d0 := cells_at HD.out
            have hlT1 : v0.heap.size < y1.heap.size := by omega
            have hld1 : v4.heap.size + 1 < y1.heap.size := by omega
            clear hbb
            go_wp2_with fail
            refine And.intro HAg.out ?_
            clear HAg
            refine And.intro ?_ ?_
            · skip
              go_wp2_with fail
              refine And.intro ?_ ?_
              · skip
                go_wp2_with fail
                refine (merge_any (bare 3) oneI oneT none none (some ⟨y1.heap.size, 0, none⟩) none none (some ⟨v0.heap.size, 0, none⟩) 0 0 1 0 0 1 _ (LfAt.none rfl rfl) ⟨its_one (new1 (Below.refl _ _)).1, Sl.nil _ 3, by simp [oneI], by simp [oneI, bare]⟩ ⟨Sl.nil _ 5, vec_one (HT.out.below ((Below.refl y1.heap.size y1).alloc (Nat.le_refl _) (.cells #[.int .u64 0, .int .u8 0, .int .u32 1, .int .u64 1, .string ⟨#[117]⟩] 58))), by simp [oneT, bare], by simp [oneT]⟩ ok3 okI1 okT1 (by simp [oneI]) (by simp [oneT, bare]) (by simp [oneI, bare]) (by simp [oneT])).mono ?_
                intro e y2 hto
                obtain ⟨M, code, rfl, hr, rd, ow, hbb⟩ := hto.lv
                obtain ⟨hc, hM⟩ := hr.uniq setR
                subst hc
                have HM := Lib.hid hM
                clear hto hr rd ow hM
                have hb2 : Below y1.heap.size y1 y2 := below2 ((Below.refl y1.heap.size y1).alloc (Nat.le_refl _) (.cells #[.int .u64 0, .int .u8 0, .int .u32 1, .int .u64 1, .string ⟨#[117]⟩] 58)) hbb ((Below.refl y1.heap.size y1).alloc (Nat.le_refl _) (.cells #[.int .u64 0, .int .u8 0, .int .u32 1, .int .u64 1, .string ⟨#[117]⟩] 58)).size
                have HI : Hid (IBlk y2 (y1.heap.size)) := Lib.hid (new1 hbb).1
                have hq2 : y1.heap.size + 1 ≤ y2.heap.size := (new1 hbb).2.1
                have HT := Lib.hid (HT.out.below hb2)
                have HD := Lib.hid (HD.out.below hb2)
                have HV2 := Lib.hid (below2 HV1.out hb2 HV1.out.size)
                clear hb2 d0
                have d0 := cells_at HD.out
                have hlT2 : v0.heap.size < y2.heap.size := by omega
                have hlI2 : y1.heap.size < y2.heap.size := by omega
                have hld2 : v4.heap.size + 1 < y2.heap.size := by omega
                clear hbb
                go_wp2_with fail
                refine And.intro (by kernel_rfl) ?_
                go_wp2_with fail
                go_meet
                exact k_new HV.out HV2.out HA.out HM.out
              · skip
                go_wp2_with fail
                refine (merge_any (bare 3) oneI oneT none none (some ⟨y1.heap.size, 0, none⟩) none none (some ⟨v0.heap.size, 0, none⟩) 0 0 1 0 0 1 _ (LfAt.none rfl rfl) ⟨its_one (new2 (Below.refl _ _)).1, Sl.nil _ 3, by simp [oneI], by simp [oneI, bare]⟩ ⟨Sl.nil _ 5, vec_one (HT.out.below (((Below.refl y1.heap.size y1).alloc (Nat.le_refl _) (.cells #[.int .u64 0, .int .u8 0, .int .u32 1, .int .u64 1, .string ⟨#[117]⟩] 58)).alloc (by simp) (.cells #[.int .u8 0, .int .i64 0, .int .u64 0, .int .u8 0, .int .u32 0, .int .u64 0, .string ⟨#[]⟩, .slice none 0 0, .slice none 0 0] 40))), by simp [oneT, bare], by simp [oneT]⟩ ok3 okI1 okT1 (by simp [oneI]) (by simp [oneT, bare]) (by simp [oneI, bare]) (by simp [oneT])).mono ?_
                intro e y2 hto
                obtain ⟨M, code, rfl, hr, rd, ow, hbb⟩ := hto.lv
                obtain ⟨hc, hM⟩ := hr.uniq setR
                subst hc
                have HM := Lib.hid hM
                clear hto hr rd ow hM
                have hb2 : Below y1.heap.size y1 y2 := below2 (((Below.refl y1.heap.size y1).alloc (Nat.le_refl _) (.cells #[.int .u64 0, .int .u8 0, .int .u32 1, .int .u64 1, .string ⟨#[117]⟩] 58)).alloc (by simp) (.cells #[.int .u8 0, .int .i64 0, .int .u64 0, .int .u8 0, .int .u32 0, .int .u64 0, .string ⟨#[]⟩, .slice none 0 0, .slice none 0 0] 40)) hbb (((Below.refl y1.heap.size y1).alloc (Nat.le_refl _) (.cells #[.int .u64 0, .int .u8 0, .int .u32 1, .int .u64 1, .string ⟨#[117]⟩] 58)).alloc (by simp) (.cells #[.int .u8 0, .int .i64 0, .int .u64 0, .int .u8 0, .int .u32 0, .int .u64 0, .string ⟨#[]⟩, .slice none 0 0, .slice none 0 0] 40)).size
                have HI : Hid (IBlk y2 (y1.heap.size)) := Lib.hid (new2 hbb).1
                have HB : Hid (Zc y2 (y1.heap.size + 1)) := Lib.hid (new2 hbb).2.1
                have hq2 : y1.heap.size + 2 ≤ y2.heap.size := (new2 hbb).2.2.1
                have HT := Lib.hid (HT.out.below hb2)
                have HD := Lib.hid (HD.out.below hb2)
                have HV2 := Lib.hid (below2 HV1.out hb2 HV1.out.size)
                clear hb2 d0
                have d0 := cells_at HD.out
                have hlT2 : v0.heap.size < y2.heap.size := by omega
                have hlI2 : y1.heap.size < y2.heap.size := by omega
                have hlB2 : y1.heap.size + 1 < y2.heap.size := by omega
                have gB := cells_at HB.out
                have fB := free_at HB.out
                have hld2 : v4.heap.size + 1 < y2.heap.size := by omega
                clear hbb
                go_wp2_with fail
                refine And.intro (by kernel_rfl) ?_
                go_wp2_with fail
                go_meet
                exact k_old HV.out HV2.out HA.out HM.out HB.out (by omega)
            · skip
              go_wp2_with fail
              refine (merge_any (bare 3) oneI oneT none none (some ⟨y1.heap.size + 1, 0, none⟩) none none (some ⟨v0.heap.size, 0, none⟩) 0 0 1 0 0 1 _ (LfAt.none rfl rfl) ⟨its_one (new2 (Below.refl _ _)).2.1, Sl.nil _ 3, by simp [oneI], by simp [oneI, bare]⟩ ⟨Sl.nil _ 5, vec_one (HT.out.below (((Below.refl y1.heap.size y1).alloc (Nat.le_refl _) (.cells #[.int .u8 0, .int .i64 0, .int .u64 0, .int .u8 0, .int .u32 0, .int .u64 0, .string ⟨#[]⟩, .slice none 0 0, .slice none 0 0] 40)).alloc (by simp) (.cells #[.int .u64 0, .int .u8 0, .int .u32 1, .int .u64 1, .string ⟨#[117]⟩] 58))), by simp [oneT, bare], by simp [oneT]⟩ ok3 okI1 okT1 (by simp [oneI]) (by simp [oneT, bare]) (by simp [oneI, bare]) (by simp [oneT])).mono ?_
              intro e y2 hto
              obtain ⟨M, code, rfl, hr, rd, ow, hbb⟩ := hto.lv
              obtain ⟨hc, hM⟩ := hr.uniq setR
              subst hc
              have HM := Lib.hid hM
              clear hto hr rd ow hM
              have hb2 : Below y1.heap.size y1 y2 := below2 (((Below.refl y1.heap.size y1).alloc (Nat.le_refl _) (.cells #[.int .u8 0, .int .i64 0, .int .u64 0, .int .u8 0, .int .u32 0, .int .u64 0, .string ⟨#[]⟩, .slice none 0 0, .slice none 0 0] 40)).alloc (by simp) (.cells #[.int .u64 0, .int .u8 0, .int .u32 1, .int .u64 1, .string ⟨#[117]⟩] 58)) hbb (((Below.refl y1.heap.size y1).alloc (Nat.le_refl _) (.cells #[.int .u8 0, .int .i64 0, .int .u64 0, .int .u8 0, .int .u32 0, .int .u64 0, .string ⟨#[]⟩, .slice none 0 0, .slice none 0 0] 40)).alloc (by simp) (.cells #[.int .u64 0, .int .u8 0, .int .u32 1, .int .u64 1, .string ⟨#[117]⟩] 58)).size
              have HB : Hid (Zc y2 (y1.heap.size)) := Lib.hid (new2 hbb).1
              have HI : Hid (IBlk y2 (y1.heap.size + 1)) := Lib.hid (new2 hbb).2.1
              have hq2 : y1.heap.size + 2 ≤ y2.heap.size := (new2 hbb).2.2.1
              have HT := Lib.hid (HT.out.below hb2)
              have HD := Lib.hid (HD.out.below hb2)
              have HV2 := Lib.hid (below2 HV1.out hb2 HV1.out.size)
              clear hb2 d0
              have d0 := cells_at HD.out
              have hlT2 : v0.heap.size < y2.heap.size := by omega
              have hlB2 : y1.heap.size < y2.heap.size := by omega
              have gB := cells_at HB.out
              have fB := free_at HB.out
              have hlI2 : y1.heap.size + 1 < y2.heap.size := by omega
              have hld2 : v4.heap.size + 1 < y2.heap.size := by omega
              clear hbb
              go_wp2_with fail
              refine And.intro (by kernel_rfl) ?_
              go_wp2_with fail
              go_meet
              exact k_old HV.out HV2.out HA.out HM.out HB.out (by omega)
          · skip
            refine And.intro ?_ ?_
            · skip
              go_wp2_with fail
              refine And.intro ?_ ?_
              · skip
                go_wp2_with fail
                refine (new3_any _).mono ?_
                rintro e y1 ⟨rfl, hbb⟩
                have HAg := Lib.hid (Agree.of_below hbb)
                have hb1 : Below v0.heap.size v0 y1 := below2 (((Below.refl v0.heap.size v0).alloc (Nat.le_refl _) (.cells #[.int .u8 0, .int .u32 1, .int .u64 1] 31)).alloc (by simp) (.cells #[.int .u64 0, .int .u8 0, .int .u32 1, .int .u64 1, .string ⟨#[117]⟩] 58)) hbb (((Below.refl v0.heap.size v0).alloc (Nat.le_refl _) (.cells #[.int .u8 0, .int .u32 1, .int .u64 1] 31)).alloc (by simp) (.cells #[.int .u64 0, .int .u8 0, .int .u32 1, .int .u64 1, .string ⟨#[117]⟩] 58)).size
                have HT : Hid (DBlk y1 (v0.heap.size)) := Lib.hid (new2 hbb).1
                have HI : Hid (IBlk y1 (v0.heap.size + 1)) := Lib.hid (new2 hbb).2.1
                have hq1 : v0.heap.size + 2 ≤ y1.heap.size := (new2 hbb).2.2.1
                have HD := Lib.hid (HD.out.below hb1)
                have HV1 := Lib.hid hb1
                clear hb1 d0
                have d0 := cells_at HD.out
                have hlT1 : v0.heap.size < y1.heap.size := by omega
                have hlI1 : v0.heap.size + 1 < y1.heap.size := by omega
                have hld1 : v4.heap.size + 1 < y1.heap.size := by omega
                clear hbb
                go_wp2_with fail
                refine And.intro HAg.out ?_
                clear HAg
                refine And.intro ?_ ?_
                · skip
                  go_wp2_with fail
                  refine (merge_any (bare 3) oneI oneT none none (some ⟨v0.heap.size + 1, 0, none⟩) none none (some ⟨v0.heap.size, 0, none⟩) 0 0 1 0 0 1 _ (LfAt.none rfl rfl) ⟨its_one (HI.out.below (Below.refl y1.heap.size y1)), Sl.nil _ 3, by simp [oneI], by simp [oneI, bare]⟩ ⟨Sl.nil _ 5, vec_one (HT.out.below (Below.refl y1.heap.size y1)), by simp [oneT, bare], by simp [oneT]⟩ ok3 okI1 okT1 (by simp [oneI]) (by simp [oneT, bare]) (by simp [oneI, bare]) (by simp [oneT])).mono ?_
                  intro e y2 hto
                  obtain ⟨M, code, rfl, hr, rd, ow, hbb⟩ := hto.lv
                  obtain ⟨hc, hM⟩ := hr.uniq setR
                  subst hc
                  have HM := Lib.hid hM
                  clear hto hr rd ow hM
                  have hb2 : Below y1.heap.size y1 y2 := hbb
                  have hq2 := hb2.size
                  have HT := Lib.hid (HT.out.below hb2)
                  have HI := Lib.hid (HI.out.below hb2)
                  have HD := Lib.hid (HD.out.below hb2)
                  have HV2 := Lib.hid (below2 HV1.out hb2 HV1.out.size)
                  clear hb2 d0
                  have d0 := cells_at HD.out
                  have hlT2 : v0.heap.size < y2.heap.size := by omega
                  have hlI2 : v0.heap.size + 1 < y2.heap.size := by omega
                  have hld2 : v4.heap.size + 1 < y2.heap.size := by omega
                  clear hbb
                  go_wp2_with fail
                  refine And.intro (by kernel_rfl) ?_
                  go_wp2_with fail
                  go_meet
                  exact k_new HV.out HV2.out HA.out HM.out
                · skip
                  go_wp2_with fail
                  refine (merge_any (bare 3) oneI oneT none none (some ⟨v0.heap.size + 1, 0, none⟩) none none (some ⟨v0.heap.size, 0, none⟩) 0 0 1 0 0 1 _ (LfAt.none rfl rfl) ⟨its_one (HI.out.below ((Below.refl y1.heap.size y1).alloc (Nat.le_refl _) (.cells #[.int .u8 0, .int .i64 0, .int .u64 0, .int .u8 0, .int .u32 0, .int .u64 0, .string ⟨#[]⟩, .slice none 0 0, .slice none 0 0] 40))), Sl.nil _ 3, by simp [oneI], by simp [oneI, bare]⟩ ⟨Sl.nil _ 5, vec_one (HT.out.below ((Below.refl y1.heap.size y1).alloc (Nat.le_refl _) (.cells #[.int .u8 0, .int .i64 0, .int .u64 0, .int .u8 0, .int .u32 0, .int .u64 0, .string ⟨#[]⟩, .slice none 0 0, .slice none 0 0] 40))), by simp [oneT, bare], by simp [oneT]⟩ ok3 okI1 okT1 (by simp [oneI]) (by simp [oneT, bare]) (by simp [oneI, bare]) (by simp [oneT])).mono ?_
                  intro e y2 hto
                  obtain ⟨M, code, rfl, hr, rd, ow, hbb⟩ := hto.lv
                  obtain ⟨hc, hM⟩ := hr.uniq setR
                  subst hc
                  have HM := Lib.hid hM
                  clear hto hr rd ow hM
                  have hb2 : Below y1.heap.size y1 y2 := below2 ((Below.refl y1.heap.size y1).alloc (Nat.le_refl _) (.cells #[.int .u8 0, .int .i64 0, .int .u64 0, .int .u8 0, .int .u32 0, .int .u64 0, .string ⟨#[]⟩, .slice none 0 0, .slice none 0 0] 40)) hbb ((Below.refl y1.heap.size y1).alloc (Nat.le_refl _) (.cells #[.int .u8 0, .int .i64 0, .int .u64 0, .int .u8 0, .int .u32 0, .int .u64 0, .string ⟨#[]⟩, .slice none 0 0, .slice none 0 0] 40)).size
                  have HB : Hid (Zc y2 (y1.heap.size)) := Lib.hid (new1 hbb).1
                  have hq2 : y1.heap.size + 1 ≤ y2.heap.size := (new1 hbb).2.1
                  have HT := Lib.hid (HT.out.below hb2)
                  have HI := Lib.hid (HI.out.below hb2)
                  have HD := Lib.hid (HD.out.below hb2)
                  have HV2 := Lib.hid (below2 HV1.out hb2 HV1.out.size)
                  clear hb2 d0
                  have d0 := cells_at HD.out
                  have hlT2 : v0.heap.size < y2.heap.size := by omega
                  have hlI2 : v0.heap.size + 1 < y2.heap.size := by omega
                  have hlB2 : y1.heap.size < y2.heap.size := by omega
                  have gB := cells_at HB.out
                  have fB := free_at HB.out
                  have hld2 : v4.heap.size + 1 < y2.heap.size := by omega
                  clear hbb
                  go_wp2_with fail
                  refine And.intro (by kernel_rfl) ?_
                  go_wp2_with fail
                  go_meet
                  exact k_old HV.out HV2.out HA.out HM.out HB.out (by omega)
              · skip
                go_wp2_with fail
                refine (new3_any _).mono ?_
                rintro e y1 ⟨rfl, hbb⟩
                have HAg := Lib.hid (Agree.of_below hbb)
                have hb1 : Below v0.heap.size v0 y1 := below2 ((((Below.refl v0.heap.size v0).alloc (Nat.le_refl _) (.cells #[.int .u8 0, .int .u32 1, .int .u64 1] 31)).alloc (by simp) (.cells #[.int .u64 0, .int .u8 0, .int .u32 1, .int .u64 1, .string ⟨#[117]⟩] 58)).alloc (by simp <;> omega) (.cells #[.int .u8 0, .int .i64 0, .int .u64 0, .int .u8 0, .int .u32 0, .int .u64 0, .string ⟨#[]⟩, .slice none 0 0, .slice none 0 0] 40)) hbb ((((Below.refl v0.heap.size v0).alloc (Nat.le_refl _) (.cells #[.int .u8 0, .int .u32 1, .int .u64 1] 31)).alloc (by simp) (.cells #[.int .u64 0, .int .u8 0, .int .u32 1, .int .u64 1, .string ⟨#[117]⟩] 58)).alloc (by simp <;> omega) (.cells #[.int .u8 0, .int .i64 0, .int .u64 0, .int .u8 0, .int .u32 0, .int .u64 0, .string ⟨#[]⟩, .slice none 0 0, .slice none 0 0] 40)).size
                have HT : Hid (DBlk y1 (v0.heap.size)) := Lib.hid (new3 hbb).1
                have HI : Hid (IBlk y1 (v0.heap.size + 1)) := Lib.hid (new3 hbb).2.1
                have HB : Hid (Zc y1 (v0.heap.size + 2)) := Lib.hid (new3 hbb).2.2.1
                have hq1 : v0.heap.size + 3 ≤ y1.heap.size := (new3 hbb).2.2.2.1
                have HD := Lib.hid (HD.out.below hb1)
                have HV1 := Lib.hid hb1
                clear hb1 d0
                have d0 := cells_at HD.out
                have hlT1 : v0.heap.size < y1.heap.size := by omega
                have hlI1 : v0.heap.size + 1 < y1.heap.size := by omega
                have hlB1 : v0.heap.size + 2 < y1.heap.size := by omega
                have gB := cells_at HB.out
                have fB := free_at HB.out
                have hld1 : v4.heap.size + 1 < y1.heap.size := by omega
                clear hbb
                go_wp2_with fail
                refine And.intro HAg.out ?_
                clear HAg
                go_wp2_with fail
                refine (merge_any (bare 3) oneI oneT none none (some ⟨v0.heap.size + 1, 0, none⟩) none none (some ⟨v0.heap.size, 0, none⟩) 0 0 1 0 0 1 _ (LfAt.none rfl rfl) ⟨its_one (HI.out.below (Below.refl y1.heap.size y1)), Sl.nil _ 3, by simp [oneI], by simp [oneI, bare]⟩ ⟨Sl.nil _ 5, vec_one (HT.out.below (Below.refl y1.heap.size y1)), by simp [oneT, bare], by simp [oneT]⟩ ok3 okI1 okT1 (by simp [oneI]) (by simp [oneT, bare]) (by simp [oneI, bare]) (by simp [oneT])).mono ?_
                intro e y2 hto
                obtain ⟨M, code, rfl, hr, rd, ow, hbb⟩ := hto.lv
                obtain ⟨hc, hM⟩ := hr.uniq setR
                subst hc
                have HM := Lib.hid hM
                clear hto hr rd ow hM
                have hb2 : Below y1.heap.size y1 y2 := hbb
                have hq2 := hb2.size
                have HT := Lib.hid (HT.out.below hb2)
                have HI := Lib.hid (HI.out.below hb2)
                have HB := Lib.hid (HB.out.below hb2)
                have HD := Lib.hid (HD.out.below hb2)
                have HV2 := Lib.hid (below2 HV1.out hb2 HV1.out.size)
                clear hb2 d0
                have d0 := cells_at HD.out
                have hlT2 : v0.heap.size < y2.heap.size := by omega
                have hlI2 : v0.heap.size + 1 < y2.heap.size := by omega
                have hlB2 : v0.heap.size + 2 < y2.heap.size := by omega
                have gB := cells_at HB.out
                have fB := free_at HB.out
                have hld2 : v4.heap.size + 1 < y2.heap.size := by omega
                clear hbb
                go_wp2_with fail
                refine And.intro (by kernel_rfl) ?_
                go_wp2_with fail
                go_meet
                exact k_old HV.out HV2.out HA.out HM.out HB.out (by omega)
            · skip
              go_wp2_with fail
              refine And.intro ?_ ?_
              · skip
                go_wp2_with fail
                refine (new3_any _).mono ?_
                rintro e y1 ⟨rfl, hbb⟩
                have HAg := Lib.hid (Agree.of_below hbb)
                have hb1 : Below v0.heap.size v0 y1 := below2 (((Below.refl v0.heap.size v0).alloc (Nat.le_refl _) (.cells #[.int .u8 0, .int .u32 1, .int .u64 1] 31)).alloc (by simp) (.cells #[.int .u8 0, .int .i64 0, .int .u64 0, .int .u8 0, .int .u32 0, .int .u64 0, .string ⟨#[]⟩, .slice none 0 0, .slice none 0 0] 40)) hbb (((Below.refl v0.heap.size v0).alloc (Nat.le_refl _) (.cells #[.int .u8 0, .int .u32 1, .int .u64 1] 31)).alloc (by simp) (.cells #[.int .u8 0, .int .i64 0, .int .u64 0, .int .u8 0, .int .u32 0, .int .u64 0, .string ⟨#[]⟩, .slice none 0 0, .slice none 0 0] 40)).size
                have HT : Hid (DBlk y1 (v0.heap.size)) := Lib.hid (new2 hbb).1
                have HB : Hid (Zc y1 (v0.heap.size + 1)) := Lib.hid (new2 hbb).2.1
                have hq1 : v0.heap.size + 2 ≤ y1.heap.size := (new2 hbb).2.2.1
                have HD := Lib.hid (HD.out.below hb1)
                have HV1 := Lib.hid hb1
                clear hb1 d0
                have d0 := cells_at HD.out
                have hlT1 : v0.heap.size < y1.heap.size := by omega
                have hlB1 : v0.heap.size + 1 < y1.heap.size := by omega
                have gB := cells_at HB.out
                have fB := free_at HB.out
                have hld1 : v4.heap.size + 1 < y1.heap.size := by omega
                clear hbb
                go_wp2_with fail
                refine And.intro HAg.out ?_
                clear HAg
                go_wp2_with fail
                refine (merge_any (bare 3) oneI oneT none none (some ⟨y1.heap.size, 0, none⟩) none none (some ⟨v0.heap.size, 0, none⟩) 0 0 1 0 0 1 _ (LfAt.none rfl rfl) ⟨its_one (new1 (Below.refl _ _)).1, Sl.nil _ 3, by simp [oneI], by simp [oneI, bare]⟩ ⟨Sl.nil _ 5, vec_one (HT.out.below ((Below.refl y1.heap.size y1).alloc (Nat.le_refl _) (.cells #[.int .u64 0, .int .u8 0, .int .u32 1, .int .u64 1, .string ⟨#[117]⟩] 58))), by simp [oneT, bare], by simp [oneT]⟩ ok3 okI1 okT1 (by simp [oneI]) (by simp [oneT, bare]) (by simp [oneI, bare]) (by simp [oneT])).mono ?_
                intro e y2 hto
                obtain ⟨M, code, rfl, hr, rd, ow, hbb⟩ := hto.lv
                obtain ⟨hc, hM⟩ := hr.uniq setR
                subst hc
                have HM := Lib.hid hM
                clear hto hr rd ow hM
                have hb2 : Below y1.heap.size y1 y2 := below2 ((Below.refl y1.heap.size y1).alloc (Nat.le_refl _) (.cells #[.int .u64 0, .int .u8 0, .int .u32 1, .int .u64 1, .string ⟨#[117]⟩] 58)) hbb ((Below.refl y1.heap.size y1).alloc (Nat.le_refl _) (.cells #[.int .u64 0, .int .u8 0, .int .u32 1, .int .u64 1, .string ⟨#[117]⟩] 58)).size
                have HI : Hid (IBlk y2 (y1.heap.size)) := Lib.hid (new1 hbb).1
                have hq2 : y1.heap.size + 1 ≤ y2.heap.size := (new1 hbb).2.1
                have HT := Lib.hid (HT.out.below hb2)
                have HB := Lib.hid (HB.out.below hb2)
                have HD := Lib.hid (HD.out.below hb2)
                have HV2 := Lib.hid (below2 HV1.out hb2 HV1.out.size)
                clear hb2 d0
                have d0 := cells_at HD.out
                have hlT2 : v0.heap.size < y2.heap.size := by omega
                have hlB2 : v0.heap.size + 1 < y2.heap.size := by omega
                have gB := cells_at HB.out
                have fB := free_at HB.out
                have hlI2 : y1.heap.size < y2.heap.size := by omega
                have hld2 : v4.heap.size + 1 < y2.heap.size := by omega
                clear hbb
                go_wp2_with fail
                refine And.intro (by kernel_rfl) ?_
                go_wp2_with fail
                go_meet
                exact k_old HV.out HV2.out HA.out HM.out HB.out (by omega)
              · skip
                go_wp2_with fail
                refine (new3_any _).mono ?_
                rintro e y1 ⟨rfl, hbb⟩
                have HAg := Lib.hid (Agree.of_below hbb)
                have hb1 : Below v0.heap.size v0 y1 := below2 ((((Below.refl v0.heap.size v0).alloc (Nat.le_refl _) (.cells #[.int .u8 0, .int .u32 1, .int .u64 1] 31)).alloc (by simp) (.cells #[.int .u8 0, .int .i64 0, .int .u64 0, .int .u8 0, .int .u32 0, .int .u64 0, .string ⟨#[]⟩, .slice none 0 0, .slice none 0 0] 40)).alloc (by simp <;> omega) (.cells #[.int .u64 0, .int .u8 0, .int .u32 1, .int .u64 1, .string ⟨#[117]⟩] 58)) hbb ((((Below.refl v0.heap.size v0).alloc (Nat.le_refl _) (.cells #[.int .u8 0, .int .u32 1, .int .u64 1] 31)).alloc (by simp) (.cells #[.int .u8 0, .int .i64 0, .int .u64 0, .int .u8 0, .int .u32 0, .int .u64 0, .string ⟨#[]⟩, .slice none 0 0, .slice none 0 0] 40)).alloc (by simp <;> omega) (.cells #[.int .u64 0, .int .u8 0, .int .u32 1, .int .u64 1, .string ⟨#[117]⟩] 58)).size
                have HT : Hid (DBlk y1 (v0.heap.size)) := Lib.hid (new3 hbb).1
                have HB : Hid (Zc y1 (v0.heap.size + 1)) := Lib.hid (new3 hbb).2.1
                have HI : Hid (IBlk y1 (v0.heap.size + 2)) := Lib.hid (new3 hbb).2.2.1
                have hq1 : v0.heap.size + 3 ≤ y1.heap.size := (new3 hbb).2.2.2.1
                have HD := Lib.hid (HD.out.below hb1)
                have HV1 := Lib.hid hb1
                clear hb1 d0
                have d0 := cells_at HD.out
                have hlT1 : v0.heap.size < y1.heap.size := by omega
                have hlB1 : v0.heap.size + 1 < y1.heap.size := by omega
                have gB := cells_at HB.out
                have fB := free_at HB.out
                have hlI1 : v0.heap.size + 2 < y1.heap.size := by omega
                have hld1 : v4.heap.size + 1 < y1.heap.size := by omega
                clear hbb
                go_wp2_with fail
                refine And.intro HAg.out ?_
                clear HAg
                go_wp2_with fail
                refine (merge_any (bare 3) oneI oneT none none (some ⟨v0.heap.size + 2, 0, none⟩) none none (some ⟨v0.heap.size, 0, none⟩) 0 0 1 0 0 1 _ (LfAt.none rfl rfl) ⟨its_one (HI.out.below (Below.refl y1.heap.size y1)), Sl.nil _ 3, by simp [oneI], by simp [oneI, bare]⟩ ⟨Sl.nil _ 5, vec_one (HT.out.below (Below.refl y1.heap.size y1)), by simp [oneT, bare], by simp [oneT]⟩ ok3 okI1 okT1 (by simp [oneI]) (by simp [oneT, bare]) (by simp [oneI, bare]) (by simp [oneT])).mono ?_
                intro e y2 hto
                obtain ⟨M, code, rfl, hr, rd, ow, hbb⟩ := hto.lv
                obtain ⟨hc, hM⟩ := hr.uniq setR
                subst hc
                have HM := Lib.hid hM
                clear hto hr rd ow hM
                have hb2 : Below y1.heap.size y1 y2 := hbb
                have hq2 := hb2.size
                have HT := Lib.hid (HT.out.below hb2)
                have HB := Lib.hid (HB.out.below hb2)
                have HI := Lib.hid (HI.out.below hb2)
                have HD := Lib.hid (HD.out.below hb2)
                have HV2 := Lib.hid (below2 HV1.out hb2 HV1.out.size)
                clear hb2 d0
                have d0 := cells_at HD.out
                have hlT2 : v0.heap.size < y2.heap.size := by omega
                have hlB2 : v0.heap.size + 1 < y2.heap.size := by omega
                have gB := cells_at HB.out
                have fB := free_at HB.out
                have hlI2 : v0.heap.size + 2 < y2.heap.size := by omega
                have hld2 : v4.heap.size + 1 < y2.heap.size := by omega
                clear hbb
                go_wp2_with fail
                refine And.intro (by kernel_rfl) ?_
                go_wp2_with fail
                go_meet
                exact k_old HV.out HV2.out HA.out HM.out HB.out (by omega)
        · skip
          go_wp2_with fail
          refine And.intro ?_ ?_
          · skip
            go_wp2_with fail
            refine (new3_any _).mono ?_
            rintro e y1 ⟨rfl, hbb⟩
            have HAg := Lib.hid (Agree.of_below hbb)
            have hb1 : Below v0.heap.size v0 y1 := below2 ((Below.refl v0.heap.size v0).alloc (Nat.le_refl _) (.cells #[.int .u8 0, .int .i64 0, .int .u64 0, .int .u8 0, .int .u32 0, .int .u64 0, .string ⟨#[]⟩, .slice none 0 0, .slice none 0 0] 40)) hbb ((Below.refl v0.heap.size v0).alloc (Nat.le_refl _) (.cells #[.int .u8 0, .int .i64 0, .int .u64 0, .int .u8 0, .int .u32 0, .int .u64 0, .string ⟨#[]⟩, .slice none 0 0, .slice none 0 0] 40)).size
            have HB : Hid (Zc y1 (v0.heap.size)) := Lib.hid (new1 hbb).1
            have hq1 : v0.heap.size + 1 ≤ y1.heap.size := (new1 hbb).2.1
            have HD := Lib.hid (HD.out.below hb1)
            have HV1 := Lib.hid hb1
            clear hb1 d0
            have d0 := cells_at HD.out
            have hlB1 : v0.heap.size < y1.heap.size := by omega
            have gB := cells_at HB.out
            have fB := free_at HB.out
            have hld1 : v4.heap.size + 1 < y1.heap.size := by omega
            clear hbb
            go_wp2_with fail
            refine And.intro HAg.out ?_
            clear HAg
            refine And.intro ?_ ?_
            · skip
              go_wp2_with fail
              refine (merge_any (bare 3) oneI oneT none none (some ⟨y1.heap.size, 0, none⟩) none none (some ⟨y1.heap.size + 1, 0, none⟩) 0 0 1 0 0 1 _ (LfAt.none rfl rfl) ⟨its_one (new2 (Below.refl _ _)).1, Sl.nil _ 3, by simp [oneI], by simp [oneI, bare]⟩ ⟨Sl.nil _ 5, vec_one (new2 (Below.refl _ _)).2.1, by simp [oneT, bare], by simp [oneT]⟩ ok3 okI1 okT1 (by simp [oneI]) (by simp [oneT, bare]) (by simp [oneI, bare]) (by simp [oneT])).mono ?_
              intro e y2 hto
              obtain ⟨M, code, rfl, hr, rd, ow, hbb⟩ := hto.lv
              obtain ⟨hc, hM⟩ := hr.uniq setR
              subst hc
              have HM := Lib.hid hM
              clear hto hr rd ow hM
              have hb2 : Below y1.heap.size y1 y2 := below2 (((Below.refl y1.heap.size y1).alloc (Nat.le_refl _) (.cells #[.int .u64 0, .int .u8 0, .int .u32 1, .int .u64 1, .string ⟨#[117]⟩] 58)).alloc (by simp) (.cells #[.int .u8 0, .int .u32 1, .int .u64 1] 31)) hbb (((Below.refl y1.heap.size y1).alloc (Nat.le_refl _) (.cells #[.int .u64 0, .int .u8 0, .int .u32 1, .int .u64 1, .string ⟨#[117]⟩] 58)).alloc (by simp) (.cells #[.int .u8 0, .int .u32 1, .int .u64 1] 31)).size
              have HI : Hid (IBlk y2 (y1.heap.size)) := Lib.hid (new2 hbb).1
              have HT : Hid (DBlk y2 (y1.heap.size + 1)) := Lib.hid (new2 hbb).2.1
              have hq2 : y1.heap.size + 2 ≤ y2.heap.size := (new2 hbb).2.2.1
              have HB := Lib.hid (HB.out.below hb2)
              have HD := Lib.hid (HD.out.below hb2)
              have HV2 := Lib.hid (below2 HV1.out hb2 HV1.out.size)
              clear hb2 d0
              have d0 := cells_at HD.out
              have hlB2 : v0.heap.size < y2.heap.size := by omega
              have gB := cells_at HB.out
              have fB := free_at HB.out
              have hlI2 : y1.heap.size < y2.heap.size := by omega
              have hlT2 : y1.heap.size + 1 < y2.heap.size := by omega
              have hld2 : v4.heap.size + 1 < y2.heap.size := by omega
              clear hbb
              go_wp2_with fail
              refine And.intro (by kernel_rfl) ?_
              go_wp2_with fail
              go_meet
              exact k_old HV.out HV2.out HA.out HM.out HB.out (by omega)
            · skip
              go_wp2_with fail
              refine (merge_any (bare 3) oneI oneT none none (some ⟨y1.heap.size + 1, 0, none⟩) none none (some ⟨y1.heap.size, 0, none⟩) 0 0 1 0 0 1 _ (LfAt.none rfl rfl) ⟨its_one (new2 (Below.refl _ _)).2.1, Sl.nil _ 3, by simp [oneI], by simp [oneI, bare]⟩ ⟨Sl.nil _ 5, vec_one (new2 (Below.refl _ _)).1, by simp [oneT, bare], by simp [oneT]⟩ ok3 okI1 okT1 (by simp [oneI]) (by simp [oneT, bare]) (by simp [oneI, bare]) (by simp [oneT])).mono ?_
              intro e y2 hto
              obtain ⟨M, code, rfl, hr, rd, ow, hbb⟩ := hto.lv
              obtain ⟨hc, hM⟩ := hr.uniq setR
              subst hc
              have HM := Lib.hid hM
              clear hto hr rd ow hM
              have hb2 : Below y1.heap.size y1 y2 := below2 (((Below.refl y1.heap.size y1).alloc (Nat.le_refl _) (.cells #[.int .u8 0, .int .u32 1, .int .u64 1] 31)).alloc (by simp) (.cells #[.int .u64 0, .int .u8 0, .int .u32 1, .int .u64 1, .string ⟨#[117]⟩] 58)) hbb (((Below.refl y1.heap.size y1).alloc (Nat.le_refl _) (.cells #[.int .u8 0, .int .u32 1, .int .u64 1] 31)).alloc (by simp) (.cells #[.int .u64 0, .int .u8 0, .int .u32 1, .int .u64 1, .string ⟨#[117]⟩] 58)).size
              have HT : Hid (DBlk y2 (y1.heap.size)) := Lib.hid (new2 hbb).1
              have HI : Hid (IBlk y2 (y1.heap.size + 1)) := Lib.hid (new2 hbb).2.1
              have hq2 : y1.heap.size + 2 ≤ y2.heap.size := (new2 hbb).2.2.1
              have HB := Lib.hid (HB.out.below hb2)
              have HD := Lib.hid (HD.out.below hb2)
              have HV2 := Lib.hid (below2 HV1.out hb2 HV1.out.size)
              clear hb2 d0
              have d0 := cells_at HD.out
              have hlB2 : v0.heap.size < y2.heap.size := by omega
              have gB := cells_at HB.out
              have fB := free_at HB.out
              have hlT2 : y1.heap.size < y2.heap.size := by omega
              have hlI2 : y1.heap.size + 1 < y2.heap.size := by omega
              have hld2 : v4.heap.size + 1 < y2.heap.size := by omega
              clear hbb
              go_wp2_with fail
              refine And.intro (by kernel_rfl) ?_
              go_wp2_with fail
              go_meet
              exact k_old HV.out HV2.out HA.out HM.out HB.out (by omega)
          · skip
            refine And.intro ?_ ?_
            · skip
              go_wp2_with fail
              refine And.intro ?_ ?_
              · skip
                go_wp2_with fail
                refine (new3_any _).mono ?_
                rintro e y1 ⟨rfl, hbb⟩
                have HAg := Lib.hid (Agree.of_below hbb)
                have hb1 : Below v0.heap.size v0 y1 := below2 (((Below.refl v0.heap.size v0).alloc (Nat.le_refl _) (.cells #[.int .u8 0, .int .i64 0, .int .u64 0, .int .u8 0, .int .u32 0, .int .u64 0, .string ⟨#[]⟩, .slice none 0 0, .slice none 0 0] 40)).alloc (by simp) (.cells #[.int .u64 0, .int .u8 0, .int .u32 1, .int .u64 1, .string ⟨#[117]⟩] 58)) hbb (((Below.refl v0.heap.size v0).alloc (Nat.le_refl _) (.cells #[.int .u8 0, .int .i64 0, .int .u64 0, .int .u8 0, .int .u32 0, .int .u64 0, .string ⟨#[]⟩, .slice none 0 0, .slice none 0 0] 40)).alloc (by simp) (.cells #[.int .u64 0, .int .u8 0, .int .u32 1, .int .u64 1, .string ⟨#[117]⟩] 58)).size
                have HB : Hid (Zc y1 (v0.heap.size)) := Lib.hid (new2 hbb).1
                have HI : Hid (IBlk y1 (v0.heap.size + 1)) := Lib.hid (new2 hbb).2.1
                have hq1 : v0.heap.size + 2 ≤ y1.heap.size := (new2 hbb).2.2.1
                have HD := Lib.hid (HD.out.below hb1)
                have HV1 := Lib.hid hb1
                clear hb1 d0
                have d0 := cells_at HD.out
                have hlB1 : v0.heap.size < y1.heap.size := by omega
                have gB := cells_at HB.out
                have fB := free_at HB.out
                have hlI1 : v0.heap.size + 1 < y1.heap.size := by omega
                have hld1 : v4.heap.size + 1 < y1.heap.size := by omega
                clear hbb
                go_wp2_with fail
                refine And.intro HAg.out ?_
                clear HAg
                go_wp2_with fail
                refine (merge_any (bare 3) oneI oneT none none (some ⟨v0.heap.size + 1, 0, none⟩) none none (some ⟨y1.heap.size, 0, none⟩) 0 0 1 0 0 1 _ (LfAt.none rfl rfl) ⟨its_one (HI.out.below ((Below.refl y1.heap.size y1).alloc (Nat.le_refl _) (.cells #[.int .u8 0, .int .u32 1, .int .u64 1] 31))), Sl.nil _ 3, by simp [oneI], by simp [oneI, bare]⟩ ⟨Sl.nil _ 5, vec_one (new1 (Below.refl _ _)).1, by simp [oneT, bare], by simp [oneT]⟩ ok3 okI1 okT1 (by simp [oneI]) (by simp [oneT, bare]) (by simp [oneI, bare]) (by simp [oneT])).mono ?_
                intro e y2 hto
                obtain ⟨M, code, rfl, hr, rd, ow, hbb⟩ := hto.lv
                obtain ⟨hc, hM⟩ := hr.uniq setR
                subst hc
                have HM := Lib.hid hM
                clear hto hr rd ow hM
                have hb2 : Below y1.heap.size y1 y2 := below2 ((Below.refl y1.heap.size y1).alloc (Nat.le_refl _) (.cells #[.int .u8 0, .int .u32 1, .int .u64 1] 31)) hbb ((Below.refl y1.heap.size y1).alloc (Nat.le_refl _) (.cells #[.int .u8 0, .int .u32 1, .int .u64 1] 31)).size
                have HT : Hid (DBlk y2 (y1.heap.size)) := Lib.hid (new1 hbb).1
                have hq2 : y1.heap.size + 1 ≤ y2.heap.size := (new1 hbb).2.1
                have HB := Lib.hid (HB.out.below hb2)
                have HI := Lib.hid (HI.out.below hb2)
                have HD := Lib.hid (HD.out.below hb2)
                have HV2 := Lib.hid (below2 HV1.out hb2 HV1.out.size)
                clear hb2 d0
                have d0 := cells_at HD.out
                have hlB2 : v0.heap.size < y2.heap.size := by omega
                have gB := cells_at HB.out
                have fB := free_at HB.out
                have hlI2 : v0.heap.size + 1 < y2.heap.size := by omega
                have hlT2 : y1.heap.size < y2.heap.size := by omega
                have hld2 : v4.heap.size + 1 < y2.heap.size := by omega
                clear hbb
                go_wp2_with fail
                refine And.intro (by kernel_rfl) ?_
                go_wp2_with fail
                go_meet
                exact k_old HV.out HV2.out HA.out HM.out HB.out (by omega)
              · skip
                go_wp2_with fail
                refine (new3_any _).mono ?_
                rintro e y1 ⟨rfl, hbb⟩
                have HAg := Lib.hid (Agree.of_below hbb)
                have hb1 : Below v0.heap.size v0 y1 := below2 ((((Below.refl v0.heap.size v0).alloc (Nat.le_refl _) (.cells #[.int .u8 0, .int .i64 0, .int .u64 0, .int .u8 0, .int .u32 0, .int .u64 0, .string ⟨#[]⟩, .slice none 0 0, .slice none 0 0] 40)).alloc (by simp) (.cells #[.int .u64 0, .int .u8 0, .int .u32 1, .int .u64 1, .string ⟨#[117]⟩] 58)).alloc (by simp <;> omega) (.cells #[.int .u8 0, .int .u32 1, .int .u64 1] 31)) hbb ((((Below.refl v0.heap.size v0).alloc (Nat.le_refl _) (.cells #[.int .u8 0, .int .i64 0, .int .u64 0, .int .u8 0, .int .u32 0, .int .u64 0, .string ⟨#[]⟩, .slice none 0 0, .slice none 0 0] 40)).alloc (by simp) (.cells #[.int .u64 0, .int .u8 0, .int .u32 1, .int .u64 1, .string ⟨#[117]⟩] 58)).alloc (by simp <;> omega) (.cells #[.int .u8 0, .int .u32 1, .int .u64 1] 31)).size
                have HB : Hid (Zc y1 (v0.heap.size)) := Lib.hid (new3 hbb).1
                have HI : Hid (IBlk y1 (v0.heap.size + 1)) := Lib.hid (new3 hbb).2.1
                have HT : Hid (DBlk y1 (v0.heap.size + 2)) := Lib.hid (new3 hbb).2.2.1
                have hq1 : v0.heap.size + 3 ≤ y1.heap.size := (new3 hbb).2.2.2.1
                have HD := Lib.hid (HD.out.below hb1)
                have HV1 := Lib.hid hb1
                clear hb1 d0
                have d0 := cells_at HD.out
                have hlB1 : v0.heap.size < y1.heap.size := by omega
                have gB := cells_at HB.out
                have fB := free_at HB.out
                have hlI1 : v0.heap.size + 1 < y1.heap.size := by omega
                have hlT1 : v0.heap.size + 2 < y1.heap.size := by omega
                have hld1 : v4.heap.size + 1 < y1.heap.size := by omega
                clear hbb
                go_wp2_with fail
                refine And.intro HAg.out ?_
                clear HAg
                go_wp2_with fail
                refine (merge_any (bare 3) oneI oneT none none (some ⟨v0.heap.size + 1, 0, none⟩) none none (some ⟨v0.heap.size + 2, 0, none⟩) 0 0 1 0 0 1 _ (LfAt.none rfl rfl) ⟨its_one (HI.out.below (Below.refl y1.heap.size y1)), Sl.nil _ 3, by simp [oneI], by simp [oneI, bare]⟩ ⟨Sl.nil _ 5, vec_one (HT.out.below (Below.refl y1.heap.size y1)), by simp [oneT, bare], by simp [oneT]⟩ ok3 okI1 okT1 (by simp [oneI]) (by simp [oneT, bare]) (by simp [oneI, bare]) (by simp [oneT])).mono ?_
                intro e y2 hto
                obtain ⟨M, code, rfl, hr, rd, ow, hbb⟩ := hto.lv
                obtain ⟨hc, hM⟩ := hr.uniq setR
                subst hc
                have HM := Lib.hid hM
                clear hto hr rd ow hM
                have hb2 : Below y1.heap.size y1 y2 := hbb
                have hq2 := hb2.size
                have HB := Lib.hid (HB.out.below hb2)
                have HI := Lib.hid (HI.out.below hb2)
                have HT := Lib.hid (HT.out.below hb2)
                have HD := Lib.hid (HD.out.below hb2)
                have HV2 := Lib.hid (below2 HV1.out hb2 HV1.out.size)
                clear hb2 d0
                have d0 := cells_at HD.out
                have hlB2 : v0.heap.size < y2.heap.size := by omega
                have gB := cells_at HB.out
                have fB := free_at HB.out
                have hlI2 : v0.heap.size + 1 < y2.heap.size := by omega
                have hlT2 : v0.heap.size + 2 < y2.heap.size := by omega
                have hld2 : v4.heap.size + 1 < y2.heap.size := by omega
                clear hbb
                go_wp2_with fail
                refine And.intro (by kernel_rfl) ?_
                go_wp2_with fail
                go_meet
                exact k_old HV.out HV2.out HA.out HM.out HB.out (by omega)
            · skip
              go_wp2_with fail
              refine And.intro ?_ ?_
              · skip
                go_wp2_with fail
                refine (new3_any _).mono ?_
                rintro e y1 ⟨rfl, hbb⟩
                have HAg := Lib.hid (Agree.of_below hbb)
                have hb1 : Below v0.heap.size v0 y1 := below2 (((Below.refl v0.heap.size v0).alloc (Nat.le_refl _) (.cells #[.int .u8 0, .int .i64 0, .int .u64 0, .int .u8 0, .int .u32 0, .int .u64 0, .string ⟨#[]⟩, .slice none 0 0, .slice none 0 0] 40)).alloc (by simp) (.cells #[.int .u8 0, .int .u32 1, .int .u64 1] 31)) hbb (((Below.refl v0.heap.size v0).alloc (Nat.le_refl _) (.cells #[.int .u8 0, .int .i64 0, .int .u64 0, .int .u8 0, .int .u32 0, .int .u64 0, .string ⟨#[]⟩, .slice none 0 0, .slice none 0 0] 40)).alloc (by simp) (.cells #[.int .u8 0, .int .u32 1, .int .u64 1] 31)).size
                have HB : Hid (Zc y1 (v0.heap.size)) := Lib.hid (new2 hbb).1
                have HT : Hid (DBlk y1 (v0.heap.size + 1)) := Lib.hid (new2 hbb).2.1
                have hq1 : v0.heap.size + 2 ≤ y1.heap.size := (new2 hbb).2.2.1
                have HD := Lib.hid (HD.out.below hb1)
                have HV1 := Lib.hid hb1
                clear hb1 d0
                have d0 := cells_at HD.out
                have hlB1 : v0.heap.size < y1.heap.size := by omega
                have gB := cells_at HB.out
                have fB := free_at HB.out
                have hlT1 : v0.heap.size + 1 < y1.heap.size := by omega
                have hld1 : v4.heap.size + 1 < y1.heap.size := by omega
                clear hbb
                go_wp2_with fail
                refine And.intro HAg.out ?_
                clear HAg
                go_wp2_with fail
                refine (merge_any (bare 3) oneI oneT none none (some ⟨y1.heap.size, 0, none⟩) none none (some ⟨v0.heap.size + 1, 0, none⟩) 0 0 1 0 0 1 _ (LfAt.none rfl rfl) ⟨its_one (new1 (Below.refl _ _)).1, Sl.nil _ 3, by simp [oneI], by simp [oneI, bare]⟩ ⟨Sl.nil _ 5, vec_one (HT.out.below ((Below.refl y1.heap.size y1).alloc (Nat.le_refl _) (.cells #[.int .u64 0, .int .u8 0, .int .u32 1, .int .u64 1, .string ⟨#[117]⟩] 58))), by simp [oneT, bare], by simp [oneT]⟩ ok3 okI1 okT1 (by simp [oneI]) (by simp [oneT, bare]) (by simp [oneI, bare]) (by simp [oneT])).mono ?_
                intro e y2 hto
                obtain ⟨M, code, rfl, hr, rd, ow, hbb⟩ := hto.lv
                obtain ⟨hc, hM⟩ := hr.uniq setR
                subst hc
                have HM := Lib.hid hM
                clear hto hr rd ow hM
                have hb2 : Below y1.heap.size y1 y2 := below2 ((Below.refl y1.heap.size y1).alloc (Nat.le_refl _) (.cells #[.int .u64 0, .int .u8 0, .int .u32 1, .int .u64 1, .string ⟨#[117]⟩] 58)) hbb ((Below.refl y1.heap.size y1).alloc (Nat.le_refl _) (.cells #[.int .u64 0, .int .u8 0, .int .u32 1, .int .u64 1, .string ⟨#[117]⟩] 58)).size
                have HI : Hid (IBlk y2 (y1.heap.size)) := Lib.hid (new1 hbb).1
                have hq2 : y1.heap.size + 1 ≤ y2.heap.size := (new1 hbb).2.1
                have HB := Lib.hid (HB.out.below hb2)
                have HT := Lib.hid (HT.out.below hb2)
                have HD := Lib.hid (HD.out.below hb2)
                have HV2 := Lib.hid (below2 HV1.out hb2 HV1.out.size)
                clear hb2 d0
                have d0 := cells_at HD.out
                have hlB2 : v0.heap.size < y2.heap.size := by omega
                have gB := cells_at HB.out
                have fB := free_at HB.out
                have hlT2 : v0.heap.size + 1 < y2.heap.size := by omega
                have hlI2 : y1.heap.size < y2.heap.size := by omega
                have hld2 : v4.heap.size + 1 < y2.heap.size := by omega
                clear hbb
                go_wp2_with fail
                refine And.intro (by kernel_rfl) ?_
                go_wp2_with fail
                go_meet
                exact k_old HV.out HV2.out HA.out HM.out HB.out (by omega)
              · skip
                go_wp2_with fail
                refine (new3_any _).mono ?_
                rintro e y1 ⟨rfl, hbb⟩
                have HAg := Lib.hid (Agree.of_below hbb)
                have hb1 : Below v0.heap.size v0 y1 := below2 ((((Below.refl v0.heap.size v0).alloc (Nat.le_refl _) (.cells #[.int .u8 0, .int .i64 0, .int .u64 0, .int .u8 0, .int .u32 0, .int .u64 0, .string ⟨#[]⟩, .slice none 0 0, .slice none 0 0] 40)).alloc (by simp) (.cells #[.int .u8 0, .int .u32 1, .int .u64 1] 31)).alloc (by simp <;> omega) (.cells #[.int .u64 0, .int .u8 0, .int .u32 1, .int .u64 1, .string ⟨#[117]⟩] 58)) hbb ((((Below.refl v0.heap.size v0).alloc (Nat.le_refl _) (.cells #[.int .u8 0, .int .i64 0, .int .u64 0, .int .u8 0, .int .u32 0, .int .u64 0, .string ⟨#[]⟩, .slice none 0 0, .slice none 0 0] 40)).alloc (by simp) (.cells #[.int .u8 0, .int .u32 1, .int .u64 1] 31)).alloc (by simp <;> omega) (.cells #[.int .u64 0, .int .u8 0, .int .u32 1, .int .u64 1, .string ⟨#[117]⟩] 58)).size
                have HB : Hid (Zc y1 (v0.heap.size)) := Lib.hid (new3 hbb).1
                have HT : Hid (DBlk y1 (v0.heap.size + 1)) := Lib.hid (new3 hbb).2.1
                have HI : Hid (IBlk y1 (v0.heap.size + 2)) := Lib.hid (new3 hbb).2.2.1
                have hq1 : v0.heap.size + 3 ≤ y1.heap.size := (new3 hbb).2.2.2.1
                have HD := Lib.hid (HD.out.below hb1)
                have HV1 := Lib.hid hb1
                clear hb1 d0
                have d0 := cells_at HD.out
                have hlB1 : v0.heap.size < y1.heap.size := by omega
                have gB := cells_at HB.out
                have fB := free_at HB.out
                have hlT1 : v0.heap.size + 1 < y1.heap.size := by omega
                have hlI1 : v0.heap.size + 2 < y1.heap.size := by omega
                have hld1 : v4.heap.size + 1 < y1.heap.size := by omega
                clear hbb
                go_wp2_with fail
                refine And.intro HAg.out ?_
                clear HAg
                go_wp2_with fail
                refine (merge_any (bare 3) oneI oneT none none (some ⟨v0.heap.size + 2, 0, none⟩) none none (some ⟨v0.heap.size + 1, 0, none⟩) 0 0 1 0 0 1 _ (LfAt.none rfl rfl) ⟨its_one (HI.out.below (Below.refl y1.heap.size y1)), Sl.nil _ 3, by simp [oneI], by simp [oneI, bare]⟩ ⟨Sl.nil _ 5, vec_one (HT.out.below (Below.refl y1.heap.size y1)), by simp [oneT, bare], by simp [oneT]⟩ ok3 okI1 okT1 (by simp [oneI]) (by simp [oneT, bare]) (by simp [oneI, bare]) (by simp [oneT])).mono ?_
                intro e y2 hto
                obtain ⟨M, code, rfl, hr, rd, ow, hbb⟩ := hto.lv
                obtain ⟨hc, hM⟩ := hr.uniq setR
                subst hc
                have HM := Lib.hid hM
                clear hto hr rd ow hM
                have hb2 : Below y1.heap.size y1 y2 := hbb
                have hq2 := hb2.size
                have HB := Lib.hid (HB.out.below hb2)
                have HT := Lib.hid (HT.out.below hb2)
                have HI := Lib.hid (HI.out.below hb2)
                have HD := Lib.hid (HD.out.below hb2)
                have HV2 := Lib.hid (below2 HV1.out hb2 HV1.out.size)
                clear hb2 d0
                have d0 := cells_at HD.out
                have hlB2 : v0.heap.size < y2.heap.size := by omega
                have gB := cells_at HB.out
                have fB := free_at HB.out
                have hlT2 : v0.heap.size + 1 < y2.heap.size := by omega
                have hlI2 : v0.heap.size + 2 < y2.heap.size := by omega
                have hld2 : v4.heap.size + 1 < y2.heap.size := by omega
                clear hbb
                go_wp2_with fail
                refine And.intro (by kernel_rfl) ?_
                go_wp2_with fail
                go_meet
                exact k_old HV.out HV2.out HA.out HM.out HB.out (by omega)
  case rest =>
    obtain ⟨pb, M, rfl, rfl, hb, hM, ha, hB⟩ := hcut
    have HB := Lib.hid hB
    have d0 := cells_at ha
    have d1 := cells_at hb
    simp only [lcells] at d0 d1
    rw [HMa.out] at d0
    rw [hM] at d1
    simp only [cntL, oneT, bare, List.length_nil, List.length_cons] at d0 d1
    clear ha hb hM hB
    go_wp2_with fail
    go_ret
    exact ⟨rfl, HB.out⟩
end Go.Proofs.Ytmabjghjkgicgaa
