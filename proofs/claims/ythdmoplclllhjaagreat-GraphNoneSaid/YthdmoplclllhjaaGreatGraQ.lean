/- varvelaw12.known: the page's examples hold. -/
import Derived.Test.YthdmoplclllhjaaGreatGraO
namespace Go.Proofs.YthdmoplclllhjaaGreat
open Go.RowKit
set_option linter.unusedVariables false
set_option linter.unusedSimpArgs false

def kD : Dt := ((0, 1), 1)
def kD1 : Dt := ((1, 1), 1)
def kO : Opn := ⟨1, 5, ⟨#[]⟩, [⟨#[97]⟩], []⟩
def kC : Cm := ⟨kD, [], [kD], 1, kO⟩
def kL : Cm := ⟨kD1, [kD], [kD, kD1], 2, kO⟩
theorem kO_may : MayOpn kO := by
  refine ⟨by decide, ⟨by decide, by decide, fun s hs => ?_⟩, by decide, by decide, fun _ => ⟨by decide, by decide, by decide, rfl⟩, fun h => absurd rfl h⟩
  simp [kO] at hs
  subst hs
  refine ⟨by decide, by decide, fun j hj => ?_⟩
  have : j = 0 := by have h2 : j < 1 := hj; omega
  subst this
  left; exact ⟨by show 97 ≤ (97 : UInt8).toNat; decide, by show (97 : UInt8).toNat ≤ 122; decide⟩
theorem kC_may : CmP kC := ⟨by decide, by decide, by decide, kO_may, by decide +kernel, by decide +kernel, by decide, ⟨List.Pairwise.nil, fun x hx => by cases hx⟩, ⟨List.Pairwise.nil, fun x hx => by cases hx⟩⟩
theorem kL_may : CmP kL := by
  refine ⟨by decide, by decide, by decide, kO_may, by decide +kernel, by decide +kernel, by decide, ⟨List.pairwise_singleton _ _, fun x hx => ?_⟩, ⟨List.Pairwise.nil, fun x hx => by cases hx⟩⟩
  simp [kL] at hx
  subst hx
  exact ⟨by decide, by decide +kernel⟩
theorem hasG_nil (d : Dt) : hasG [] (findC []) d = false := by
  unfold hasG hasV
  have : getN [] d.1 = 0 := rfl
  rw [this]
  show (false || (may d && decide (d.2 ≤ 0))) = false
  cases h : may d with
  | false => rfl
  | true => have := ((may_iff d).1 h).2.1; simp; omega
theorem kL_gap : insE [] (findC []) 0 kL = 9 := insE_gap kL_may (hasG_nil _) fun h => by
  have := h.ps kD (by simp [kL])
  rw [hasG_nil] at this; cases this
theorem kC_ok : insE [] (findC []) 0 kC = 0 := by
  have hk : ∀ x, knN [] (findC []) kC kC.ps x = getN [kD] x := fun x => by
    show max (min (getN [kD] x) (getN [] x)) (getN [kD] x) = _
    have h1 := (getN_bd [kD] x).1
    have h2 : getN [] x = 0 := rfl
    omega
  refine insE_ok kC_may (hasG_nil _) ⟨fun p hp => (by cases hp), fun h => absurd h (by decide), fun x => ?_⟩ ⟨fun x => ?_, ⟨.inl rfl, fun p hp => (by cases hp)⟩⟩ (by decide)
  · rw [hk]; exact Int.le_refl _
  · rw [hk]; exact Int.le_refl _
theorem kC_has : hasG [] (findC [kC]) kD = true := by
  unfold hasG
  have : findC [kC] kD = some kC := findC_mem (L := [kC]) (by simp) (c := kC) (by simp)
  rw [this]; rfl
theorem kC_twice (n : Nat) : insE [] (findC [kC]) n kC = 8 := insE_twice kC_may kC_has
theorem k_heads {Hl : List Dt} (h : HeadsP [] [kC] Hl) : Hl = [kD] := by
  have hb : behindB [kC] kD = false := by decide +kernel
  refine rising_ext (lt := ltD) ltD_irrefl (fun h k => ltD_trans h k) h.1 (List.pairwise_singleton _ _) fun d => ?_
  rw [h.2 d]
  simp only [List.mem_singleton, List.not_mem_nil, false_or]
  constructor
  · rintro ⟨⟨c, rfl, rfl⟩, _⟩; rfl
  · rintro rfl; exact ⟨⟨kC, rfl, rfl⟩, hb⟩
theorem k_time {n : Int} (h : TimeP 0 [kC] n) : n = 1 := h.uniq ⟨by decide, fun c hc => by simp at hc; subst hc; decide, .inr ⟨kC, by simp, rfl⟩⟩
/-- the blocks of known -/
structure KnE (s : Nat) (w : World) : Prop where
  d : w.heap[s]? = some (.cells #[.int .u8 0, .int .u32 1, .int .u64 1] 41 (0, 0))
  v : w.heap[s + 1]? = some (.cells #[.int .u8 0, .int .u32 1, .int .u64 1] 41 (0, 0))
  p : w.heap[s + 2]? = some (.cells #[.string ⟨#[97]⟩] 9 (0, 0))
  c : w.heap[s + 3]? = some (.cells (ccells 0 1 1 none 0 0 (some ⟨s + 1, 0, none⟩) 1 1 1 1 (some ⟨s + 2, 0, none⟩) 1 1 5 ⟨#[]⟩ none 0 0) 46 (0, 0))
  q : w.heap[s + 5]? = some (.cells #[.int .u8 0, .int .u32 1, .int .u64 1] 41 (0, 0))
  u : w.heap[s + 6]? = some (.cells #[.int .u8 0, .int .u32 1, .int .u64 1, .int .u8 1, .int .u32 1, .int .u64 1] 41 (0, 0))
theorem KnE.chg {s : Nat} {w w' : World} {F : List Nat} (h : KnE s w) (hc : Chg F w w') (hF : ∀ k ∈ F, k < s) : KnE s w' := by
  have hn : ∀ j, s + j ∉ F := fun j hj => by have := hF _ hj; omega
  exact ⟨heap_chg h.d hc (hn 0), heap_chg h.v hc (hn 1), heap_chg h.p hc (hn 2), heap_chg h.c hc (hn 3), heap_chg h.q hc (hn 5), heap_chg h.u hc (hn 6)⟩
theorem KnE.below {s : Nat} {w w' : World} (h : KnE s w) (hb : Below w.heap.size w w') : KnE s w' := h.chg (F := []) (Chg.of_below hb) (fun k hk => by cases hk)
def cwC (s : Nat) : Cw := ⟨kC, none, 0, some ⟨s + 1, 0, none⟩, 1, some ⟨s + 2, 0, none⟩, 1, none, 0⟩
def cwL (s : Nat) : Cw := ⟨kL, some ⟨s + 5, 0, none⟩, 1, some ⟨s + 6, 0, none⟩, 2, some ⟨s + 2, 0, none⟩, 1, none, 0⟩
theorem okD_k : okD kD := ⟨⟨by decide, by decide, by decide⟩, by decide, by decide⟩
theorem okD_k1 : okD kD1 := ⟨⟨by decide, by decide, by decide⟩, by decide, by decide⟩
theorem KnE.cC {s : Nat} {w : World} (h : KnE s w) : CwAt w (cwC s) :=
  ⟨Sl.nil _ _, Sl.blk (n := 1) (size := 3) h.v rfl (by decide), Sl.blk (n := 1) (size := 1) h.p rfl (by decide), Sl.nil _ _, okD_k, fun d hd => (by cases hd), fun d hd => (by simp [cwC, kC] at hd; subst hd; exact okD_k), ⟨by show (0 : Int) ≤ 1; decide, by show (1 : Int) ≤ 18446744073709551615; decide⟩, fun d hd => (by cases hd)⟩
theorem KnE.cL {s : Nat} {w : World} (h : KnE s w) : CwAt w (cwL s) :=
  ⟨Sl.blk (n := 1) (size := 3) h.q rfl (by decide), Sl.blk (n := 2) (size := 3) h.u rfl (by decide), Sl.blk (n := 1) (size := 1) h.p rfl (by decide), Sl.nil _ _, okD_k1, fun d hd => (by simp [cwL, kL] at hd; subst hd; exact okD_k), fun d hd => (by simp [cwL, kL] at hd; rcases hd with rfl | rfl; exact okD_k; exact okD_k1), ⟨by show (0 : Int) ≤ 2; decide, by show (2 : Int) ≤ 18446744073709551615; decide⟩, fun d hd => (by cases hd)⟩
theorem heap_at (w : World) (o : Obj) {k : Nat} (h : k = w.heap.size) : (w.alloc o).heap[k]? = some o := by subst h; exact heap_new w o
theorem held_new {w w' : World} {q : Nat} {C : Array Value} {t : TypeId} {fr : Nat × Nat} (h : w.heap[q]? = some (.cells C t fr)) (h' : w'.heap[q]? = some (.cells C t fr)) : Held (fun k => k = q) w w' := by
  refine .inr fun k o hk ho => ?_
  have hk : k = q := hk
  subst hk
  rw [h] at ho
  have ho := Option.some.inj ho
  subst ho
  exact ⟨fun at_ u e => (by cases e), h'⟩
set_option maxRecDepth 100000 in
set_option maxHeartbeats 8000000 in
theorem known12_any (w : World) : Calls Tryz.prog 15 #[] w fun e w' => e = .returned (.bool true) ∧ Below w.heap.size w w' := by
  go_enter Tryz.func15, Tryz.ntmps15
  go_wp2_with fail
  refine (newE_any w).mono ?_
  intro e w1 hto
  obtain ⟨pg, mb, w0, b, va, vc, rfl, hbb, hG, hB, hz⟩ := hto
  have HG := Lib.hid hG
  have HB := Lib.hid hB
  have hpg := heap_lt hG.blk
  clear hG hB
  go_wp2_with fail
  refine region_tree_at (fun k => k = w1.heap.size) (.seg [0, 2, 3, 4] false (.fork (.seg [1] false (.seg [5] true (.seg [6, 7, 8, 9] false .done))) (.seg [5] true (.seg [1, 6, 7, 8, 9] false .done)))) mixed (by kernel_rfl) ?_
  simp only [wpSgB, List.map_cons, List.map_nil, List.getD_cons_succ, List.getD_cons_zero]
  go_wp2_with fail
  refine And.intro ?ordA ?ordB
  case' ordA =>
    go_wp2_with fail
    refine And.intro (held_new ((heap_old _ _ (by simp <;> omega)).trans ((heap_old _ _ (by simp <;> omega)).trans ((heap_old _ _ (by simp <;> omega)).trans ((heap_old _ _ (by simp <;> omega)).trans ((heap_old _ _ (by simp <;> omega)).trans (heap_new _ _)))))) ((heap_old _ _ (by simp <;> omega)).trans ((heap_old _ _ (by simp <;> omega)).trans ((heap_old _ _ (by simp <;> omega)).trans ((heap_old _ _ (by simp <;> omega)).trans ((heap_old _ _ (by simp <;> omega)).trans (heap_new _ _))))))) ?_
    go_wp2_with fail
    refine And.intro (And.intro (by kernel_rfl) (reads_of ?rds)) ?_
    case rds => exact ⟨rfl, trivial, trivial, trivial, trivial, trivial, trivial, trivial, trivial, trivial, trivial⟩
    go_wp2_with fail
  case' ordB =>
    go_wp2_with fail
    refine And.intro (held_new ((heap_old _ _ (by simp <;> omega)).trans ((heap_old _ _ (by simp <;> omega)).trans ((heap_old _ _ (by simp <;> omega)).trans ((heap_old _ _ (by simp <;> omega)).trans (heap_new _ _))))) ((heap_old _ _ (by simp <;> omega)).trans ((heap_old _ _ (by simp <;> omega)).trans ((heap_old _ _ (by simp <;> omega)).trans ((heap_old _ _ (by simp <;> omega)).trans (heap_new _ _)))))) ?_
    go_wp2_with fail
    refine And.intro (And.intro (by kernel_rfl) (reads_of ?rds)) ?_
    case rds => exact ⟨rfl, trivial, trivial, trivial, trivial, trivial, trivial, trivial, trivial, trivial, trivial⟩
    go_wp2_with fail
  all_goals
    have hK7 : KnE w1.heap.size (((((((w1.alloc (.cells #[.int .u8 0, .int .u32 1, .int .u64 1] 41)).alloc (.cells #[.int .u8 0, .int .u32 1, .int .u64 1] 41)).alloc (.cells #[.string ⟨#[97]⟩] 9)).alloc
        (.cells (ccells 0 1 1 none 0 0 (some ⟨w1.heap.size + 1, 0, none⟩) 1 1 1 1 (some ⟨w1.heap.size + 1 + 1, 0, none⟩) 1 1 5 ⟨#[]⟩ none 0 0) 46)).alloc
        (.cells (ccells 1 1 1 (some ⟨w1.heap.size + 1 + 1 + 1 + 1 + 1, 0, none⟩) 1 1 (some ⟨w1.heap.size + 1 + 1 + 1 + 1 + 1 + 1, 0, none⟩) 2 2 2 1 (some ⟨w1.heap.size + 1 + 1, 0, none⟩) 1 1 5 ⟨#[]⟩ none 0 0) 46)).alloc
        (.cells #[.int .u8 0, .int .u32 1, .int .u64 1] 41)).alloc (.cells #[.int .u8 0, .int .u32 1, .int .u64 1, .int .u8 1, .int .u32 1, .int .u64 1] 41)).drew := by
      refine ⟨((heap_old _ _ (by simp <;> omega)).trans ((heap_old _ _ (by simp <;> omega)).trans ((heap_old _ _ (by simp <;> omega)).trans ((heap_old _ _ (by simp <;> omega)).trans ((heap_old _ _ (by simp <;> omega)).trans ((heap_old _ _ (by simp <;> omega)).trans (heap_new _ _))))))), ((heap_old _ _ (by simp <;> omega)).trans ((heap_old _ _ (by simp <;> omega)).trans ((heap_old _ _ (by simp <;> omega)).trans ((heap_old _ _ (by simp <;> omega)).trans ((heap_old _ _ (by simp <;> omega)).trans (heap_at _ _ (by simp))))))), ((heap_old _ _ (by simp <;> omega)).trans ((heap_old _ _ (by simp <;> omega)).trans ((heap_old _ _ (by simp <;> omega)).trans ((heap_old _ _ (by simp <;> omega)).trans (heap_at _ _ (by simp)))))), ((heap_old _ _ (by simp <;> omega)).trans ((heap_old _ _ (by simp <;> omega)).trans ((heap_old _ _ (by simp <;> omega)).trans (heap_at _ _ (by simp))))), ((heap_old _ _ (by simp <;> omega)).trans (heap_at _ _ (by simp))), (heap_at _ _ (by simp))⟩
    have hB7 : Below w1.heap.size w1 (((((((w1.alloc (.cells #[.int .u8 0, .int .u32 1, .int .u64 1] 41)).alloc (.cells #[.int .u8 0, .int .u32 1, .int .u64 1] 41)).alloc (.cells #[.string ⟨#[97]⟩] 9)).alloc
        (.cells (ccells 0 1 1 none 0 0 (some ⟨w1.heap.size + 1, 0, none⟩) 1 1 1 1 (some ⟨w1.heap.size + 1 + 1, 0, none⟩) 1 1 5 ⟨#[]⟩ none 0 0) 46)).alloc
        (.cells (ccells 1 1 1 (some ⟨w1.heap.size + 1 + 1 + 1 + 1 + 1, 0, none⟩) 1 1 (some ⟨w1.heap.size + 1 + 1 + 1 + 1 + 1 + 1, 0, none⟩) 2 2 2 1 (some ⟨w1.heap.size + 1 + 1, 0, none⟩) 1 1 5 ⟨#[]⟩ none 0 0) 46)).alloc
        (.cells #[.int .u8 0, .int .u32 1, .int .u64 1] 41)).alloc (.cells #[.int .u8 0, .int .u32 1, .int .u64 1, .int .u8 1, .int .u32 1, .int .u64 1] 41)).drew := (((((((Below.refl _ _).alloc (Nat.le_refl _) _).alloc (by simp) _).alloc (by simp <;> omega) _).alloc (by simp <;> omega) _).alloc (by simp <;> omega) _).alloc (by simp <;> omega) _).alloc (by simp <;> omega) _ |>.drew
    obtain ⟨w7, hw7⟩ : ∃ W, W = (((((((w1.alloc (.cells #[.int .u8 0, .int .u32 1, .int .u64 1] 41)).alloc (.cells #[.int .u8 0, .int .u32 1, .int .u64 1] 41)).alloc (.cells #[.string ⟨#[97]⟩] 9)).alloc
        (.cells (ccells 0 1 1 none 0 0 (some ⟨w1.heap.size + 1, 0, none⟩) 1 1 1 1 (some ⟨w1.heap.size + 1 + 1, 0, none⟩) 1 1 5 ⟨#[]⟩ none 0 0) 46)).alloc
        (.cells (ccells 1 1 1 (some ⟨w1.heap.size + 1 + 1 + 1 + 1 + 1, 0, none⟩) 1 1 (some ⟨w1.heap.size + 1 + 1 + 1 + 1 + 1 + 1, 0, none⟩) 2 2 2 1 (some ⟨w1.heap.size + 1 + 1, 0, none⟩) 1 1 5 ⟨#[]⟩ none 0 0) 46)).alloc
        (.cells #[.int .u8 0, .int .u32 1, .int .u64 1] 41)).alloc (.cells #[.int .u8 0, .int .u32 1, .int .u64 1, .int .u8 1, .int .u32 1, .int .u64 1] 41)).drew := ⟨_, rfl⟩
    rw [← hw7] at hK7 hB7
    simp only [ccells] at hw7
    rw [← hw7]
    have HK7 := Lib.hid hK7
    have HB7 := Lib.hid hB7
    clear hK7 hB7 hw7
    refine (insert_G pg mb w0 0 b [] va vc [] (cwL w1.heap.size) w7 (HG.out.below HB7.out) HK7.out.cL (by simp [cwL, kL])).mono ?_
    intro e w8 hto
    have he9 : insE b.b.f (findC (cms [])) ([] : List Cw).length (cwL w1.heap.size).c = 9 := by rw [hbb]; exact kL_gap
    obtain ⟨he, hto⟩ := hto
    rw [he9] at he hto
    subst he
    obtain ⟨_, hb8⟩ | ⟨h0, _⟩ := hto
    rotate_left
    · exact absurd h0 (by decide)
    have HK8 := Lib.hid (HK7.out.below hb8)
    have HB8 := Lib.hid (below2 HB7.out hb8 HB7.out.size)
    have c8 := cells_at HK8.out.c
    simp only [ccells] at c8
    clear hb8 he9
    go_wp2_with fail
    refine (insert_G pg mb w0 0 b [] va vc [] (cwC w1.heap.size) w8 (HG.out.below HB8.out) HK8.out.cC (by simp [cwC, kC])).mono ?_
    intro e w9 hto
    have he0 : insE b.b.f (findC (cms [])) ([] : List Cw).length (cwC w1.heap.size).c = 0 := by rw [hbb]; exact kC_ok
    obtain ⟨he, hto⟩ := hto
    rw [he0] at he hto
    subst he
    obtain ⟨h0, _⟩ | ⟨_, u, va', vc', hu, hG9, hc9⟩ := hto
    · exact absurd rfl h0
    have hcms : cms ([] ++ [u]) = [kC] := by show [u.c] = _; rw [hu]; rfl
    have hmb := HG.out.map.lt
    have HK9 := Lib.hid (HK8.out.chg hc9 (fun k hk => by simp at hk; rcases hk with rfl | rfl <;> assumption))
    have HG9 := Lib.hid hG9
    have HB9 := Lib.hid (show Below w.heap.size w w9 from (HB.out.trans (HB8.out.mono HB.out.size)).trans (hc9.below (by have := HB.out.size; have := HB8.out.size; omega) (fun k hk => by have h1 := HG9.out.old; simp at hk; rcases hk with rfl | rfl <;> omega)))
    have c9 := cells_at HK9.out.c
    simp only [ccells] at c9
    clear hG9 hc9 he0 c8 hu
    go_wp2_with fail
    refine (insert_G pg mb w0 0 b ([] ++ [u]) va' vc' _ (cwC w1.heap.size) w9 HG9.out HK9.out.cC (by simp [cwC, kC])).mono ?_
    intro e w10 hto
    have he8 : insE b.b.f (findC (cms ([] ++ [u]))) ([] ++ [u] : List Cw).length (cwC w1.heap.size).c = 8 := by rw [hcms, hbb]; exact kC_twice _
    obtain ⟨he, hto⟩ := hto
    rw [he8] at he hto
    subst he
    obtain ⟨_, hb10⟩ | ⟨h0, _⟩ := hto
    rotate_left
    · exact absurd h0 (by decide)
    have HK10 := Lib.hid (HK9.out.below hb10)
    have HG10 := Lib.hid (HG9.out.below hb10)
    have HB10 := Lib.hid (below2 HB9.out hb10 HB9.out.size)
    clear hb10 he8 c9
    go_wp2_with fail
    refine (heads_G pg mb w0 0 b ([] ++ [u]) va' vc' _ w10 HG10.out).mono ?_
    intro e w11 hto
    obtain ⟨a11, c11, Hl, rfl, hP, hok, hl, hown, hb11⟩ := hto
    obtain rfl : Hl = [kD] := k_heads (by rw [hcms, hbb] at hP; exact hP)
    obtain ⟨ad, had, e0, e1, e2, hl0⟩ := (hown.vec).at (k := 0) (d := kD) rfl
    have ez : ad.add (0 * 3) = ad := by simp [Addr.add]
    rw [ez] at e0 e1 e2
    simp only [kD] at e0 e1 e2
    subst had
    have HK11 := Lib.hid (HK10.out.below hb11)
    have HG11 := Lib.hid (HG10.out.below hb11)
    have HB11 := Lib.hid (below2 HB10.out hb11 HB10.out.size)
    have d11 := cells_at HK11.out.d
    have z11 := heap_lt HK11.out.d
    have heq : eqD ((0, 1), 1) ((0, 1), 1) = true := by decide
    clear hb11 hP hok hl hown ez
    go_wp2_with fail
    refine region_text [([0, 1, 2, 3, 4, 5, 6, 7, 8, 9, 10, 11, 12, 13, 14, 15, 16, 17, 18, 19, 20, 21, 22, 23, 24, 25, 26, 27, 28, 29, 30, 31, 32], false)] mixed (by kernel_rfl) ?_
    simp only [wpSegs, List.map_cons, List.map_nil, List.getD_cons_succ, List.getD_cons_zero]
    go_wp2_with fail
    refine (has_G pg mb w0 0 b ([] ++ [u]) va' vc' _ 0 1 1 _ (HG11.out.below ((Below.refl _ _).drew)) okD_k).mono ?_
    rintro e w12 ⟨rfl, hb12⟩
    have hb12' := ((Below.refl _ _).drew).trans hb12
    have HG12 := Lib.hid (HG11.out.below hb12')
    have HB12 := Lib.hid (below2 HB11.out hb12' HB11.out.size)
    have hh : hasG b.b.f (findC (cms ([] ++ [u]))) ((0, 1), 1) = true := by rw [hcms, hbb]; exact kC_has
    rw [hh]
    clear hb12 hb12' hh d11 e0 e1 e2
    go_wp2_with fail
    refine (time_G pg mb w0 0 b ([] ++ [u]) va' vc' _ w12 HG12.out).mono ?_
    rintro e w13 ⟨n, rfl, hn, hb13⟩
    obtain rfl : n = 1 := k_time (by rw [hcms, hbb] at hn; exact hn)
    have HB13 := Lib.hid (below2 HB12.out hb13 HB12.out.size)
    clear hb13 hn
    go_wp2_with fail
    refine And.intro (by kernel_rfl) ?_
    go_wp2_with fail
    go_ret
    exact ⟨rfl, HB13.out⟩
end Go.Proofs.YthdmoplclllhjaaGreat
