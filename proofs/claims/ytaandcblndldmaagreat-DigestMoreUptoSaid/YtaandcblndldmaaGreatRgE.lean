/- The document's graph, plainly: commits in order, one more in its place. No program in sight. | What holds of each commit that was inserted: it could be inserted. What it knows, it knows by a parent. No program in sight. | varveref11.listed, Event, May: the contracts. | The document's graph in memory; rows of commits put together. | varveref12.Graph: Find, Has, Knows: the contracts. | varveref12.Graph: gap, wrong: the contracts. | varveref12.Graph.wrong: the contract. | varveref12.Graph.Insert: the contract. -/
import Derived.Test.YtaandcblndldmaaGreatGraV
import Derived.Test.YtaandcblndldmaaGreatGraP
import Derived.Test.YtaandcblndldmaaGreatHistP
import Derived.Test.YtaandcblndldmaaGreatMeanY
import Derived.Test.YtaandcblndldmaaGreatRMbA
import Derived.Test.YtaandcblndldmaaGreatGraC
/- RgA -/
/- RgP -/
namespace Go.Proofs.YtaandcblndldmaaGreat
open Go.RowKit
set_option linter.unusedVariables false
set_option linter.unusedSimpArgs false

def ltCb (a b : Cm) : Bool := decide (a.t < b.t) || (decide (a.t = b.t) && lessD a.d b.d)
theorem ltCb_iff {a b : Cm} : ltCb a b = true ↔ ltC a b := by unfold ltCb ltC; simp
/-- where a commit's place is -/
def plC (S : List Cm) (c : Cm) : Nat := (S.takeWhile fun x => ltCb x c).length
theorem plC_of {S : List Cm} {c : Cm} {k : Nat} (hk : k ≤ S.length) (h1 : ∀ x ∈ S.take k, ltCb x c = true) (h2 : ∀ x, S[k]? = some x → ltCb x c = false) : plC S c = k := by
  unfold plC
  have e : S = S.take k ++ S.drop k := (List.take_append_drop k S).symm
  have hd : (S.drop k).takeWhile (fun x => ltCb x c) = [] := by
    cases hh : S.drop k with
    | nil => rfl
    | cons y r =>
      have hy : S[k]? = some y := by rw [← List.head?_drop, hh]; rfl
      rw [List.takeWhile_cons, h2 y hy]; rfl
  rw [e, List.takeWhile_append_of_pos h1, hd]
  simp; omega
/-- one more in its place -/
def putC (S : List Cw) (u : Cw) : List Cw := S.take (plC (cms S) u.c) ++ u :: S.drop (plC (cms S) u.c)
theorem cms_putC (S : List Cw) (u : Cw) : cms (putC S u) = (cms S).take (plC (cms S) u.c) ++ u.c :: (cms S).drop (plC (cms S) u.c) := by
  unfold putC
  simp [cms, List.map_take, List.map_drop]
theorem putC_perm (S : List Cw) (u : Cw) : (cms (putC S u)).Perm (cms S ++ [u.c]) := by
  rw [cms_putC]
  have h1 : ((cms S).take (plC (cms S) u.c) ++ u.c :: (cms S).drop (plC (cms S) u.c)).Perm (u.c :: ((cms S).take (plC (cms S) u.c) ++ (cms S).drop (plC (cms S) u.c))) := List.perm_middle
  rw [List.take_append_drop] at h1
  exact h1.trans (List.perm_append_comm (l₁ := [u.c]) (l₂ := cms S))
theorem putC_len (S : List Cw) (u : Cw) : (putC S u).length = S.length + 1 := by
  have := (putC_perm S u).length_eq
  simpa [cms] using this
theorem putC_mem {S : List Cw} {u v : Cw} (h : v ∈ putC S u) : v ∈ S ∨ v = u := by
  unfold putC at h
  rcases List.mem_append.1 h with h | h
  · exact .inl (List.mem_of_mem_take h)
  · rcases List.mem_cons.1 h with h | h
    · exact .inr h
    · exact .inl (List.mem_of_mem_drop h)
theorem plC_cons (a : Cm) (S : List Cm) (c : Cm) : plC (a :: S) c = if ltCb a c = true then plC S c + 1 else 0 := by
  unfold plC
  rw [List.takeWhile_cons]
  split <;> simp
theorem plC_low {S : List Cm} {c x : Cm} (h : x ∈ S.take (plC S c)) : ltC x c := by
  induction S with
  | nil => simp at h
  | cons a S ih =>
    rw [plC_cons] at h
    by_cases e : ltCb a c = true
    · rw [if_pos e, List.take_succ_cons] at h
      rcases List.mem_cons.1 h with rfl | h
      · exact ltCb_iff.1 e
      · exact ih h
    · rw [if_neg e] at h; simp at h
theorem plC_high {S : List Cm} {c y : Cm} (h : S[plC S c]? = some y) : ¬ ltC y c := by
  induction S with
  | nil => simp at h
  | cons a S ih =>
    rw [plC_cons] at h
    by_cases e : ltCb a c = true
    · rw [if_pos e, List.getElem?_cons_succ] at h
      exact ih h
    · rw [if_neg e, List.getElem?_cons_zero] at h
      cases h
      exact fun hl => e (ltCb_iff.2 hl)
theorem putC_sorted {S : List Cw} {u : Cw} (hs : SortedC (cms S)) (hn : ∀ x ∈ cms S, x.d ≠ u.c.d) : SortedC (cms (putC S u)) := by
  rw [cms_putC]
  generalize hS : cms S = T at *
  generalize u.c = c at *
  unfold SortedC at *
  have hhigh : ∀ x ∈ T.drop (plC T c), ltC c x := fun x hx => by
    cases hh : T.drop (plC T c) with
    | nil => rw [hh] at hx; cases hx
    | cons y r =>
      have hy : T[plC T c]? = some y := by rw [← List.head?_drop, hh]; rfl
      have h0 := plC_high hy
      have hym : y ∈ T := List.mem_of_getElem? hy
      have h1 : ltC c y := (ltC_total (hn y hym)).resolve_left h0
      rw [hh] at hx
      rcases List.mem_cons.1 hx with rfl | hx
      · exact h1
      · have hp : (T.drop (plC T c)).Pairwise ltC := hs.sublist (List.drop_sublist _ _)
        rw [hh, List.pairwise_cons] at hp
        exact ltC_trans h1 (hp.1 x hx)
  rw [List.pairwise_append]
  refine ⟨hs.sublist (List.take_sublist _ _), List.pairwise_cons.2 ⟨hhigh, hs.sublist (List.drop_sublist _ _)⟩, fun a ha b hb => ?_⟩
  have h1 := plC_low ha
  rcases List.mem_cons.1 hb with rfl | hb
  · exact h1
  · exact ltC_trans h1 (hhigh b hb)
/-- the same by any order -/
theorem findC_perm {L M : List Cm} (hp : L.Perm M) (hn : (L.map (·.d)).Nodup) : findC L = findC M := by
  have hm : (M.map (·.d)).Nodup := (hp.map _).nodup_iff.1 hn
  funext d
  cases hf : findC M d with
  | none => rw [findC_none] at hf ⊢; exact fun c hc => hf c (hp.mem_iff.1 hc)
  | some c =>
    obtain ⟨h1, rfl⟩ := findC_some hf
    exact findC_mem hn (hp.mem_iff.2 h1)
/-- the first place of a dot, or -1 -/
def ixC (S : List Cw) (d : Dt) : Int := match S.findIdx? (fun v => decide (v.c.d = d)) with | some k => (k : Int) | none => -1
theorem ixC_none {S : List Cw} {d : Dt} (h : ∀ v ∈ S, v.c.d ≠ d) : ixC S d = -1 := by
  unfold ixC
  rw [List.findIdx?_eq_none_iff.2 (fun v hv => by simpa using h v hv)]
theorem ixC_some {S : List Cw} {d : Dt} {k : Nat} {v : Cw} (hv : S[k]? = some v) (hd : v.c.d = d) (hb : ∀ u ∈ S.take k, u.c.d ≠ d) : ixC S d = (k : Int) := by
  unfold ixC
  have hk := (List.getElem?_eq_some_iff.1 hv)
  obtain ⟨hlt, hg⟩ := hk
  rw [(List.findIdx?_eq_some_iff_getElem).2 ⟨hlt, by rw [hg]; simpa using hd, fun j hj => by
    have : S[j] ∈ S.take k := List.mem_take_iff_getElem.2 ⟨j, by omega, rfl⟩
    simpa using hb _ this⟩]
theorem ixC_cases (S : List Cw) (d : Dt) : (ixC S d = -1 ∧ findC (cms S) d = none) ∨ ∃ (k : Nat) (v : Cw), ixC S d = (k : Int) ∧ S[k]? = some v ∧ v.c.d = d ∧ findC (cms S) d = some v.c := by
  cases hh : S.findIdx? (fun v => decide (v.c.d = d)) with
  | none =>
    refine .inl ⟨by unfold ixC; rw [hh], ?_⟩
    rw [List.findIdx?_eq_none_iff] at hh
    rw [findC_none]
    intro c hc
    obtain ⟨v, hv, rfl⟩ := List.mem_map.1 hc
    simpa using hh v hv
  | some k =>
    obtain ⟨hk, h1, h2⟩ := List.findIdx?_eq_some_iff_getElem.1 hh
    have h1 : S[k].c.d = d := by simpa using h1
    refine .inr ⟨k, S[k], by unfold ixC; rw [hh], by simp [hk], h1, ?_⟩
    rw [← fdW_c]
    unfold fdW
    rw [show S.find? (fun v => decide (v.c.d = d)) = some S[k] from ?_]
    · rfl
    · rw [List.find?_eq_some_iff_getElem]
      exact ⟨by simpa using h1, k, hk, rfl, fun j hj => by have := h2 j hj; simpa using this⟩
end Go.Proofs.YtaandcblndldmaaGreat

/- HistI -/
namespace Go.Proofs.YtaandcblndldmaaGreat
open Go.RowKit
set_option linter.unusedVariables false
set_option linter.unusedSimpArgs false

theorem knN_congr {F : List Dt} {fd fd' : Fd} {c : Cm} {x : Ac} : ∀ {ps : List Dt}, (∀ p ∈ ps, fd p = fd' p) → knN F fd c ps x = knN F fd' c ps x := by
  intro ps
  induction ps using snoc_rec with
  | h0 => intro _; rfl
  | h1 ps p ih =>
    intro h
    rw [knN_snoc, knN_snoc, ih fun q hq => h q (List.mem_append_left _ hq), h p (by simp)]
theorem FollowsP.congr {F : List Dt} {fd fd' : Fd} {c : Cm} (h : FollowsP F fd c) (e : ∀ p ∈ c.ps, fd p = fd' p) : FollowsP F fd' c := by
  refine ⟨?_, fun p hp x hx => h.each p hp x (by rw [e p hp]; exact hx)⟩
  rcases h.known with h1 | h1 | ⟨p, hp, x, hx, h1⟩
  · exact .inl h1
  · exact .inr (.inl h1)
  · exact .inr (.inr ⟨p, hp, x, by rw [← e p hp]; exact hx, h1⟩)
/-- a commit that can be inserted, but that it may be there -/
structure InsP (F : List Dt) (fd : Fd) (c : Cm) : Prop where
  gap : GapP F fd c
  low : ∀ x, knN F fd c c.ps x ≤ getN c.vv x
  fol : FollowsP F fd c
theorem InsP.congr {F : List Dt} {fd fd' : Fd} {c : Cm} (h : InsP F fd c) (e : ∀ p ∈ c.ps, fd p = fd' p) (o : 1 < c.d.2 → hasG F fd (aheadD c.d) = true → hasG F fd' (aheadD c.d) = true) : InsP F fd' c := by
  refine ⟨⟨fun p hp => ?_, fun h1 => o h1 (h.gap.own h1), fun x => ?_⟩, fun x => ?_, h.fol.congr e⟩
  · have := h.gap.ps p hp
    unfold hasG at this ⊢
    rwa [← e p hp]
  · rw [← knN_congr e]; exact h.gap.knows x
  · rw [← knN_congr e]; exact h.low x
def HistI (F : List Dt) (L : List Cm) : Prop := ∀ c ∈ L, InsP F (findC L) c
theorem HistI.start (F : List Dt) : HistI F [] := fun c hc => (by cases hc)
theorem HistI.step {F : List Dt} {L : List Cm} {c : Cm} {n : Nat} (h : HistI F L) (hi : insE F (findC L) n c = 0) : HistI F (L ++ [c]) := by
  obtain ⟨hM, hG0, hGap, ⟨hK, hFol⟩, _⟩ := insE_zero hi
  have hfn : findC L c.d = none := by
    cases hf : findC L c.d with
    | none => rfl
    | some y => unfold hasG at hG0; rw [hf] at hG0; cases hG0
  have key : ∀ y : Cm, InsP F (findC L) y → InsP F (findC (L ++ [c])) y := fun y hy => by
    refine hy.congr (fun p hp => ?_) (fun _ h1 => (hasG_snoc hfn).2 (.inl h1))
    rw [findC_snoc hfn, if_neg]
    rintro rfl
    have := hy.gap.ps _ hp
    rw [hG0] at this; cases this
  intro y hy
  rcases List.mem_append.1 hy with hy | hy
  · exact key y (h y hy)
  · rw [List.mem_singleton] at hy
    subst hy
    exact key y ⟨hGap, hK, hFol⟩
theorem HistI.perm {F : List Dt} {L M : List Cm} (h : HistI F L) (hp : L.Perm M) (hn : (L.map (·.d)).Nodup) : HistI F M := fun c hc => by
  rw [← findC_perm hp hn]; exact h c (hp.mem_iff.2 hc)
end Go.Proofs.YtaandcblndldmaaGreat

/- RgA -/
namespace Go.Proofs.YtaandcblndldmaaGreat
open Go.RowKit
set_option linter.unusedVariables false
set_option linter.unusedSimpArgs false

set_option maxRecDepth 100000 in
set_option maxHeartbeats 8000000 in
theorem listed_any (la : Option Addr) (l : List Dt) (lc : Nat) (r i s : Int) (va : Option Addr) (v : List Dt) (vc : Nat) (w : World) (hl : Vec w la lc l) (hv : Vec w va vc v) (hll : l.length ≤ 1100000) (hvl : v.length ≤ 1100000) :
    Calls Tryz.prog 115 #[.slice la l.length lc, .agg #[.int .u8 r, .int .u32 i, .int .u64 s], .slice va v.length vc] w (IsTo w (RiseP l ((r, i), s) v)) := by
  have HL := Lib.hid hl
  have HV := Lib.hid hv
  have B0 : Hid (BoxE 49 w (w.alloc (.cells #[.int .u8 r, .int .u32 i, .int .u64 s] 49)) #[.int .u8 r, .int .u32 i, .int .u64 s]) := Lib.hid ⟨heap_new _ _, (Below.refl _ _).alloc (Nat.le_refl _) _⟩
  clear hl hv
  go_enter Tryz.func115, Tryz.ntmps115
  go_wp2_with fail
  go_loopw [7] (fun j wr => ∃ k : Nat, k ≤ l.length ∧ j = .int .i64 k ∧ Hid (∀ d ∈ l.take k, d ≠ ((r, i), s) ∧ hasV v d = true) ∧ Hid (upTo ltD l k) ∧ Hid (BoxE 49 w wr #[.int .u8 r, .int .u32 i, .int .u64 s])) (fun j _ => l.length - (intOf j).toNat)
  case atStart => exact ⟨0, Nat.zero_le _, rfl, Lib.hid (by simp), Lib.hid upTo.zero, B0⟩
  case round =>
    obtain ⟨k, hk, rfl, HW, HU, B⟩ := hrel
    clear B0
    have d0 := cells_at B.out.blk
    have z0 := heap_lt B.out.blk
    by_cases hlt : k < l.length
    · obtain ⟨⟨⟨r', i'⟩, s'⟩, hx⟩ : ∃ x, l[k]? = some x := ⟨l[k], by simp [hlt]⟩
      obtain ⟨ad, had, f0, f1, f2, hl0⟩ := (HL.out.below B.out.bel).at hx
      dsimp only at had f0 f1 f2
      subst had
      have Hx := Lib.hid hx
      clear hx
      by_cases hk0 : k = 0
      · have HU' : Hid (upTo ltD l (k + 1)) := Lib.hid (by rw [hk0]; exact upTo.one)
        have ek : decide ((0 : Int) < (k : Int)) = false := decide_eq_false (by omega)
        have ek2 : decide (0 < k) = false := decide_eq_false (by omega)
        clear HU hk0
        go_wp2_with fail
        refine region_text [([0, 1, 2, 3, 4, 5, 6, 7, 8, 9, 10, 11, 12, 13, 14], false)] mixed (by kernel_rfl) ?_
        simp only [wpSegs, List.map_cons, List.map_nil, List.getD_cons_succ, List.getD_cons_zero]
        go_wp2_with fail
        refine And.intro (by kernel_rfl) ?_
        replace B := Lib.hid (B.out.step ((Below.refl _ _).drew))
        clear d0 z0
        have d0 := cells_at B.out.blk
        have z0 := heap_lt B.out.blk
        cases heq : eqD ((r', i'), s') ((r, i), s) with
        | true =>
          have Hn := Lib.hid (show ¬ RiseP l ((r, i), s) v from fun h => (h.2 _ (List.mem_of_getElem? Hx.out)).1 ((eqD_iff _ _).1 heq))
          go_wp2_with fail
          refine region_text [([0, 1, 2, 3, 4, 5, 6, 7, 8, 9, 10, 11, 12, 13, 14], false)] mixed (by kernel_rfl) ?_
          simp only [wpSegs, List.map_cons, List.map_nil, List.getD_cons_succ, List.getD_cons_zero]
          go_wp2_with fail
          refine And.intro (by kernel_rfl) ?_
          go_wp2_with fail
          go_ret
          exact no_name Hn.out (B.out.step ((Below.refl _ _).drew)).bel
        | false =>
          have Hne := Lib.hid (show ((r', i'), s') ≠ ((r, i), s) from fun e => by rw [(eqD_iff _ _).2 e] at heq; cases heq)
          have BD := Lib.hid (B.out.step ((Below.refl _ _).drew))
          go_wp2_with fail
          refine region_text [([0, 1, 2, 3, 4, 5, 6, 7, 8, 9, 10, 11, 12, 13, 14], false)] mixed (by kernel_rfl) ?_
          simp only [wpSegs, List.map_cons, List.map_nil, List.getD_cons_succ, List.getD_cons_zero]
          go_wp2_with fail
          refine (rhas_any va vc v r' i' s' _ (HV.out.below BD.out.bel) hvl).mono ?_
          rintro e w5 ⟨rfl, hb⟩
          have B2 := Lib.hid (BD.out.step hb)
          clear hb d0 z0 BD
          cases hin : hasV v ((r', i'), s') with
          | false =>
            have Hn := Lib.hid (show ¬ RiseP l ((r, i), s) v from fun h => by have := (h.2 _ (List.mem_of_getElem? Hx.out)).2; rw [hin] at this; cases this)
            go_wp2_with fail
            refine And.intro (by kernel_rfl) ?_
            go_wp2_with fail
            go_ret
            exact no_name Hn.out B2.out.bel
          | true =>
            have HW' := Lib.hid (all_snoc (p := fun d => d ≠ ((r, i), s) ∧ hasV v d = true) Hx.out HW.out ⟨Hne.out, hin⟩)
            clear hin
            go_wp2_with fail
            refine And.intro (by kernel_rfl) ?_
            go_wp2_with fail
            go_roundw
            case rel => exact ⟨k + 1, by omega, by go_num, HW', HU', B2⟩
            case measure => simp [intOf]; omega
      · obtain ⟨⟨⟨r2, i2⟩, s2⟩, hy⟩ : ∃ x, l[k - 1]? = some x := ⟨l[k - 1], by simp⟩
        obtain ⟨ae, hae, g0, g1, g2, hl1⟩ := (HL.out.below B.out.bel).at hy
        dsimp only at hae g0 g1 g2
        obtain rfl : ad = ae := Option.some.inj (hae)
        have Hy := Lib.hid hy
        have hk1 : ((k : Int) - 1) = ((k - 1 : Nat) : Int) := by omega
        have Hk := Lib.hid (show k - 1 + 1 = k by omega)
        clear hy hae
        have ek : decide ((0 : Int) < (k : Int)) = true := decide_eq_true (by omega)
        have ek2 : decide (0 < k) = true := decide_eq_true (by omega)
        go_wp2_with fail
        refine region_text [([0, 1, 2, 3, 4, 5, 6, 7, 8, 9, 10, 11, 12, 13, 14], false)] mixed (by kernel_rfl) ?_
        simp only [wpSegs, List.map_cons, List.map_nil, List.getD_cons_succ, List.getD_cons_zero]
        go_wp2_with fail
        refine (rless_any r2 i2 s2 r' i' s' _).mono ?_
        rintro e w4 ⟨rfl, hb⟩
        have HB4 := Lib.hid (((Below.refl wr.heap.size wr).drew).trans hb)
        replace B := Lib.hid (B.out.step HB4.out)
        clear hb d0 z0
        have d0 := cells_at B.out.blk
        have z0 := heap_lt B.out.blk
        cases hq : lessD ((r2, i2), s2) ((r', i'), s') with
        | false =>
          have Hn := Lib.hid (show ¬ RiseP l ((r, i), s) v from fun h => not_risen Hy.out (by rw [Hk.out]; exact Hx.out) hq h.1)
          clear hq
          go_wp2_with fail
          refine And.intro (by kernel_rfl) ?_
          go_wp2_with fail
          go_ret
          exact no_name Hn.out B.out.bel
        | true =>
          have HU' := Lib.hid (show upTo ltD l (k + 1) from by
            have h1 : upTo ltD l (k - 1 + 1) := by rw [Hk.out]; exact HU.out
            have h2 := h1.succ Hy.out (by rw [Hk.out]; exact Hx.out) hq
            rwa [show k - 1 + 2 = k + 1 by omega] at h2)
          clear hq f0 f1 f2 g0 g1 g2 hl0 hl1 hk1
          go_wp2_with fail
          refine And.intro (by kernel_rfl) ?_
          obtain ⟨ad2, had2, f0, f1, f2, hl0⟩ := (HL.out.below B.out.bel).at Hx.out
          dsimp only at had2 f0 f1 f2
          obtain rfl : ad = ad2 := Option.some.inj had2
          clear had2
          cases heq : eqD ((r', i'), s') ((r, i), s) with
          | true =>
            have Hn := Lib.hid (show ¬ RiseP l ((r, i), s) v from fun h => (h.2 _ (List.mem_of_getElem? Hx.out)).1 ((eqD_iff _ _).1 heq))
            go_wp2_with fail
            refine region_text [([0, 1, 2, 3, 4, 5, 6, 7, 8, 9, 10, 11, 12, 13, 14], false)] mixed (by kernel_rfl) ?_
            simp only [wpSegs, List.map_cons, List.map_nil, List.getD_cons_succ, List.getD_cons_zero]
            go_wp2_with fail
            refine And.intro (by kernel_rfl) ?_
            go_wp2_with fail
            go_ret
            exact no_name Hn.out (B.out.step ((Below.refl _ _).drew)).bel
          | false =>
            have Hne := Lib.hid (show ((r', i'), s') ≠ ((r, i), s) from fun e => by rw [(eqD_iff _ _).2 e] at heq; cases heq)
            have BD := Lib.hid (B.out.step ((Below.refl _ _).drew))
            go_wp2_with fail
            refine region_text [([0, 1, 2, 3, 4, 5, 6, 7, 8, 9, 10, 11, 12, 13, 14], false)] mixed (by kernel_rfl) ?_
            simp only [wpSegs, List.map_cons, List.map_nil, List.getD_cons_succ, List.getD_cons_zero]
            go_wp2_with fail
            refine (rhas_any va vc v r' i' s' _ (HV.out.below BD.out.bel) hvl).mono ?_
            rintro e w5 ⟨rfl, hb⟩
            have B2 := Lib.hid (BD.out.step hb)
            clear hb d0 z0 BD
            cases hin : hasV v ((r', i'), s') with
            | false =>
              have Hn := Lib.hid (show ¬ RiseP l ((r, i), s) v from fun h => by have := (h.2 _ (List.mem_of_getElem? Hx.out)).2; rw [hin] at this; cases this)
              go_wp2_with fail
              refine And.intro (by kernel_rfl) ?_
              go_wp2_with fail
              go_ret
              exact no_name Hn.out B2.out.bel
            | true =>
              have HW' := Lib.hid (all_snoc (p := fun d => d ≠ ((r, i), s) ∧ hasV v d = true) Hx.out HW.out ⟨Hne.out, hin⟩)
              clear hin
              go_wp2_with fail
              refine And.intro (by kernel_rfl) ?_
              go_wp2_with fail
              go_roundw
              case rel => exact ⟨k + 1, by omega, by go_num, HW', HU', B2⟩
              case measure => simp [intOf]; omega
    · have hkk : k = l.length := by omega
      have HW2 := Lib.hid (show ∀ d ∈ l, d ≠ ((r, i), s) ∧ hasV v d = true from fun d hd => HW.out d (by rw [hkk, List.take_length]; exact hd))
      have HP := Lib.hid (show l.Pairwise ltD from upTo.all (lt := ltD) (fun {a b c} h k => ltD_trans h k) HU.out (by omega))
      clear HW HU hkk
      go_wp2_with fail
      go_ret
      exact yes_name ⟨HP.out, HW2.out⟩ B.out.bel
theorem revent_any (r i s : Int) (qa : Option Addr) (qn qc : Nat) (va : Option Addr) (vn vc : Nat) (t k : Int) (pa : Option Addr) (pn pc : Nat) (n : Int) (x : ByteArray) (da : Option Addr) (dn dc : Nat) (w : World) :
    Calls Tryz.prog 114 #[.agg (ccells r i s qa qn qc va vn vc t k pa pn pc n x da dn dc)] w fun e w' => e = .returned (.agg (evcells r i s t k pa pn pc n x da dn dc)) ∧ Below w.heap.size w w' := by
  go_enter Tryz.func114, Tryz.ntmps114
  go_wp2_with fail
  exact bodyPost_ret (v := .agg (evcells r i s t k pa pn pc n x da dn dc)) (by simp [results, Tryz.results114, go_sem]) rfl ⟨rfl, ((Below.refl _ _).alloc (Nat.le_refl _) _).alloc (by simp) _⟩
set_option maxRecDepth 100000 in
set_option maxHeartbeats 8000000 in
theorem rmayC_any (v : Cw) (w : World) (h : CwAt w v) (hvl : v.c.vv.length ≤ 1100000) : Calls Tryz.prog 50 #[.agg (cwcells v)] w (IsTo w (CmP v.c)) := by
  obtain ⟨⟨⟨⟨r, i⟩, s⟩, ps, vv, t, ⟨k, n, x, p, ds⟩⟩, qa, qc, va, vc, pa, pc, da, dc⟩ := v
  have H := Lib.hid h
  have hA : okA (r, i) := h.ok.d.1
  have ov : okV vv := h.ok.vv
  have op : okV ps := h.ok.ps
  have od : okV ds := h.ok.ds
  dsimp only at hvl
  have B0 : Hid (BoxE 54 w (w.alloc (.cells (ccells r i s qa ps.length qc va vv.length vc t k pa p.length pc n x da ds.length dc) 54)).drew (ccells r i s qa ps.length qc va vv.length vc t k pa p.length pc n x da ds.length dc)) := Lib.hid (BoxE.of ((Below.refl _ _).drew))
  clear h
  simp only [cwcells]
  go_enter Tryz.func50, Tryz.ntmps50
  go_wp2_with fail
  refine region_text [([0, 1, 2, 3, 4, 5, 6, 8, 9], false), ([7], true), ([10, 11, 12, 13, 14, 15, 16, 17, 18, 20, 21, 22], false), ([19], true), ([23, 24], false)] mixed (by kernel_rfl) ?_
  simp only [wpSegs, List.map_cons, List.map_nil, List.getD_cons_succ, List.getD_cons_zero]
  go_wp2_with fail
  refine (revent_any r i s qa ps.length qc va vv.length vc t k pa p.length pc n x da ds.length dc _).mono ?_
  rintro e w1 ⟨rfl, hb⟩
  have E := Lib.hid (B0.out.step hb)
  clear hb B0
  have d0 := cells_at E.out.blk
  simp only [ccells] at d0
  have z0 := heap_lt E.out.blk
  go_wp2_with fail
  refine (mayEventX_any ⟨⟨((r, i), s), t, k, n, x, ds⟩, pa, p, pc, da, dc⟩ _ ⟨H.out.pt.below E.out.bel, H.out.ds.below E.out.bel, ⟨H.out.ok.d, H.out.ok.t, od⟩⟩).mono ?_
  intro e w2 hto
  obtain ⟨z, rfl, hz, hb⟩ := hto
  replace E := Lib.hid (E.out.step hb)
  have Hz := Lib.hid hz
  clear hb hz d0 z0
  have d0 := cells_at E.out.blk
  simp only [ccells] at d0
  have z0 := heap_lt E.out.blk
  cases z with
  | false =>
    have Hn := Lib.hid (show ¬ CmP ⟨((r, i), s), ps, vv, t, ⟨k, n, x, p, ds⟩⟩ from fun h => by have := Hz.out.2 ⟨h.dot, h.t1, h.t2, h.op⟩; cases this)
    go_wp2_with fail
    refine And.intro (Agree.refl _) ?_
    go_wp2_with fail
    refine And.intro (Agree.refl _) ?_
    go_wp2_with fail
    refine And.intro (by kernel_rfl) ?_
    go_wp2_with fail
    go_ret
    exact no_name Hn.out E.out.bel
  | true =>
    have Hev := Lib.hid (Hz.out.1 (by simp))
    clear Hz
    go_wp2_with fail
    refine (rcanon_any va vc vv _ (H.out.vv.below E.out.bel) ov hvl).mono ?_
    rintro e w3 ⟨a1, c1, rfl, hown, hb⟩
    have Hb := Lib.hid hb
    replace E := Lib.hid (E.out.step hb)
    have Hown := Lib.hid (vec_of hown)
    have hlc : (canonV vv).length ≤ 64 := vecOf_length _
    have Hlc := Lib.hid hlc
    clear hown hb d0 z0 hlc
    have d0 := cells_at E.out.blk
    simp only [ccells] at d0
    have z0 := heap_lt E.out.blk
    go_wp2_with fail
    refine And.intro (Agree.of_below Hb.out) ?_
    go_wp2_with fail
    refine (same_any a1 va c1 vc (canonV vv) vv _ Hown.out (H.out.vv.below E.out.bel) (by have := Hlc.out; omega) hvl).mono ?_
    rintro e w4 ⟨rfl, hb⟩
    replace E := Lib.hid (E.out.step hb)
    clear hb d0 z0 Hown Hb
    have d0 := cells_at E.out.blk
    simp only [ccells] at d0
    have z0 := heap_lt E.out.blk
    by_cases hcan : canonV vv = vv
    rotate_left
    · have Hn := Lib.hid (show ¬ CmP ⟨((r, i), s), ps, vv, t, ⟨k, n, x, p, ds⟩⟩ from fun h => hcan h.canon)
      rw [decide_eq_false hcan]
      clear hcan
      go_wp2_with fail
      refine And.intro (Agree.refl _) ?_
      go_wp2_with fail
      refine And.intro (by kernel_rfl) ?_
      go_wp2_with fail
      go_ret
      exact no_name Hn.out E.out.bel
    rw [decide_eq_true hcan]
    have Hcan := Lib.hid hcan
    clear hcan
    go_wp2_with fail
    refine (rget_any va vc vv r i _ (H.out.vv.below E.out.bel) hvl).mono ?_
    rintro e w5 ⟨rfl, hb⟩
    have Hb := Lib.hid hb
    replace E := Lib.hid (E.out.step hb)
    clear hb d0 z0
    have d0 := cells_at E.out.blk
    simp only [ccells] at d0
    have z0 := heap_lt E.out.blk
    go_wp2_with fail
    refine And.intro (Agree.of_below Hb.out) ?_
    cases hg : (getN vv (r, i) == s) with
    | false =>
      have Hn := Lib.hid (show ¬ CmP ⟨((r, i), s), ps, vv, t, ⟨k, n, x, p, ds⟩⟩ from fun h => by have := h.own; simp at hg; exact hg this)
      go_wp2_with fail
      refine And.intro (by kernel_rfl) ?_
      go_wp2_with fail
      go_ret
      exact no_name Hn.out E.out.bel
    | true =>
      have Hg := Lib.hid (show getN vv (r, i) = s by simpa using hg)
      go_wp2_with fail
      refine And.intro (by kernel_rfl) ?_
      by_cases hl : ps.length ≤ 64
      rotate_left
      · have Hn := Lib.hid (show ¬ CmP ⟨((r, i), s), ps, vv, t, ⟨k, n, x, p, ds⟩⟩ from fun h => hl h.few)
        have e64 : decide ((ps.length : Int) ≤ 64) = false := decide_eq_false (by omega)
        go_wp2_with fail
        go_ret
        exact no_name Hn.out E.out.bel
      have Hl := Lib.hid hl
      have e64 : decide ((ps.length : Int) ≤ 64) = true := by simp; omega
      go_wp2_with fail
      refine (listed_any qa ps qc r i s va vv vc _ (H.out.ps.below E.out.bel) (H.out.vv.below E.out.bel) (by omega) hvl).mono ?_
      intro e w6 hto
      obtain ⟨z, rfl, hz, hb⟩ := hto
      replace E := Lib.hid (E.out.step hb)
      have Hz := Lib.hid hz
      clear hb hz d0 z0
      have d0 := cells_at E.out.blk
      simp only [ccells] at d0
      have z0 := heap_lt E.out.blk
      cases z with
      | false =>
        have Hn := Lib.hid (show ¬ CmP ⟨((r, i), s), ps, vv, t, ⟨k, n, x, p, ds⟩⟩ from fun h => by have := Hz.out.2 h.ps; cases this)
        go_wp2_with fail
        go_ret
        exact no_name Hn.out E.out.bel
      | true =>
        have Hps := Lib.hid (Hz.out.1 (by simp))
        clear Hz
        have hdl : ds.length ≤ 64 := Hev.out.op.few
        go_wp2_with fail
        refine (listed_any da ds dc r i s va vv vc _ (H.out.ds.below E.out.bel) (H.out.vv.below E.out.bel) (by omega) hvl).mono ?_
        intro e w7 hto
        obtain ⟨z, rfl, hz, hb⟩ := hto
        replace E := Lib.hid (E.out.step hb)
        have Hz := Lib.hid (show z = true ↔ CmP ⟨((r, i), s), ps, vv, t, ⟨k, n, x, p, ds⟩⟩ from hz.trans ⟨fun h => ⟨Hev.out.d, Hev.out.lo, Hev.out.hi, Hev.out.op, Hcan.out, Hg.out, Hl.out, Hps.out, h⟩, fun h => h.ds⟩)
        clear hb hz d0 z0
        go_wp2_with fail
        go_ret
        exact ⟨z, rfl, Hz.out, E.out.bel⟩
end Go.Proofs.YtaandcblndldmaaGreat

/- RgB -/
namespace Go.Proofs.YtaandcblndldmaaGreat
open Go.RowKit
set_option linter.unusedVariables false
set_option linter.unusedSimpArgs false

theorem OwnC.cms {w : World} {base : Nat} {a : Option Addr} {c : Nat} {l : List Cw} (h : OwnC w base a c l) : Sl w 11 a l.length c (ccs l) := Sl.of_owns h
theorem OwnC.nil (w : World) (base : Nat) : OwnC w base none 0 [] := World.ownsRow_nil _ _ _ _
theorem OwnC.made (w : World) {base : Nat} (h : base ≤ w.heap.size) : OwnC (w.alloc (.cells #[] 54)) base (some ⟨w.heap.size, 0, none⟩) 0 [] := World.ownsRow_made w #[] 0 h (by decide) rfl
theorem OwnC.base {w : World} {base base' : Nat} {a : Option Addr} {c : Nat} {v : List Cw} (h : OwnC w base a c v) (hb : base' ≤ base) : OwnC w base' a c v := owns_base h hb
theorem ccs_one (l : List Cw) : ∀ u ∈ ccs l, u.oneCell' = true := by
  intro u hu
  obtain ⟨v, _, hv⟩ := List.mem_flatMap.1 hu
  exact ccel_one v u hv
theorem sl_hiC (oa : Option Addr) (n oc j : Nat) (hj : j ≤ oc) (W : World) : (Instr.sliceAt 33 (.slice oa n oc) none (some (.int .i64 (j : Int))) none).run Tryz.prog W = .ok (.slice oa j oc) W := by
  simp [go_sem, Instr.sliceAt, Instr.slice, run_underlying Tryz.underlying33]
  omega
theorem sl_loC (oa : Option Addr) (n oc j : Nat) (hj : j ≤ n) (hn : n ≤ oc) (W : World) : (Instr.sliceAt 33 (.slice oa n oc) (some (.int .i64 (j : Int))) none none).run Tryz.prog W = .ok (.slice (if oc = j then oa else oa.map (·.add (j * 11))) (n - j) (oc - j)) W := by
  simp [go_sem, Instr.sliceAt, Instr.slice, run_underlying Tryz.underlying33]
  intro h; omega
theorem cutC (a : Option Addr) (c : Nat) (V : List Cw) (k : Nat) (hk : k ≤ V.length) (hc : V.length ≤ c) : ∃ sa sc u, u = V.drop k ∧ (∀ W : World, (Instr.sliceAt 33 (.slice a V.length c) (some (.int .i64 (k : Int))) none none).run Tryz.prog W = .ok (.slice sa (List.length u) sc) W) ∧ ∀ w, Sl w 11 a V.length c (ccs V) → Sl w 11 sa u.length sc (ccs u) :=
  ⟨_, _, V.drop k, rfl, fun W => by rw [sl_loC a V.length c k hk hc W, List.length_drop], fun w h => Sl.dropK (enc := ccel) ccel_len h hk⟩
theorem keepC (a : Option Addr) (c : Nat) (V : List Cw) (k : Nat) (hk : k ≤ V.length) (hc : V.length ≤ c) : ∃ u, u = V.take k ∧ (∀ W : World, (Instr.sliceAt 33 (.slice a V.length c) none (some (.int .i64 (k : Int))) none).run Tryz.prog W = .ok (.slice a (List.length u) c) W) ∧ ∀ w, Sl w 11 a V.length c (ccs V) → Sl w 11 a u.length c (ccs u) :=
  ⟨V.take k, rfl, fun W => by rw [sl_hiC a V.length c k (by omega) W, List.length_take, Nat.min_eq_left hk], fun w h => Sl.takeK (enc := ccel) ccel_len h hk⟩
theorem cm_one {w : World} {b : Nat} (v : Cw) (h : w.heap[b]? = some (.cells (cwcells v) 54 (0, 0))) : Sl w 11 (some ⟨b, 0, none⟩) 1 1 (ccs [v]) :=
  Sl.blk (C := cwcells v) h rfl (by simp [maxLen])
section
variable {w : World} {ops : Array Oper} {rest : List Oper} {o : Oper} {a : Act} {Q : Exit → Act → World → Prop}
theorem wpList_appC (hgd : o.guard = none) (s x : Operand) (ho : o.op = .call { callee := .builtin .append, args := #[s, x], argTypes := #[33, 33] })
    (base : Nat) (va : Option Addr) (vc : Nat) (v : List Cw) (hs : a.eval s = .slice va v.length vc) (hown : OwnC w base va vc v)
    (sa : Option Addr) (c : Nat) (u : List Cw) (hx : a.eval x = .slice sa u.length c) (hsl : Sl w 11 sa u.length c (ccs u)) (hn : v.length + u.length ≤ 1000) (hbase : base ≤ w.heap.size)
    (h : ∀ v' a' c' w', v' = v ++ u → OwnC w' base a' c' v' → Below base w w' → Chg (ob va) w w' → (∀ k ∈ ob a', k ∈ ob va ∨ w.heap.size ≤ k) → wpList Tryz.prog ops Q rest (a.put o.dst (.slice a' v'.length c')) w') : wpList Tryz.prog ops Q (o :: rest) a w := by
  obtain ⟨i0, hi0, hz0, hz1, hz2⟩ := info_parts Tryz.info_commit
  refine wpList_append_sl hgd s x 33 ho base 54 i0 _ 11 152 Tryz.underlying33 hi0 hz0 hz1 hz2 rfl (by decide) va v.length vc (ccs v) hs hown sa u.length c (ccs u) hx hsl (ccs_one u) (by unfold maxLen; omega) (by omega) hbase fun a' c' w' h1 h2 h3 => ?_
  have := h (v ++ u) a' c' w' rfl (by unfold OwnC; rw [ccs_append, List.length_append]; exact h1) (h2.below hbase fun k hk => (owns_lt hown k hk).1) h2 h3
  rwa [List.length_append] at this
end
abbrev rgcells (num : Int) (fa : Option Addr) (fn fc : Nat) (ta : Option Addr) (tn tc : Nat) (t : Int) (ra : Option Addr) (rn rc : Nat) (la : Option Addr) (ln lc : Nat) : Array Value :=
  #[.int .u64 num, .slice fa fn fc, .slice ta tn tc, .int .u64 t, .slice ra rn rc, .slice la ln lc]
/-- the document's graph at block pw: its baseline and its commits' parts are known in an older world -/
structure RgAt (w : World) (pw : Nat) (w0 : World) (m : Nat) (b : Bw) (S : List Cw) (la : Option Addr) (lc : Nat) : Prop where
  blk : w.heap[pw]? = some (.cells (rgcells b.b.num b.fa b.b.f.length b.fc b.ta b.b.tips.length b.tc b.b.t b.ra b.b.tr.length b.rc la S.length lc) 61 (0, 0))
  bel : Below w0.heap.size w0 w
  lt : w0.heap.size ≤ pw
  base : BwAt w0 m b
  row : OwnC w (pw + 1) la lc S
  each : ∀ v ∈ S, CwAt w0 v
  sorted : SortedC (cms S)
  nodup : ((cms S).map (·.d)).Nodup
  may : ∀ v ∈ S, CmP v.c
  few : S.length ≤ 200
  canon : canonV b.b.f = b.b.f
theorem RgAt.chg {F : List Nat} {w w' : World} {pw : Nat} {w0 : World} {m : Nat} {b : Bw} {S : List Cw} {la : Option Addr} {lc : Nat} (h : RgAt w pw w0 m b S la lc) (hc : Chg F w w') (hp : pw ∉ F) (hl : ∀ k ∈ ob la, k ∉ F) (h0 : ∀ k ∈ F, w0.heap.size ≤ k) : RgAt w' pw w0 m b S la lc :=
  ⟨heap_chg h.blk hc hp, h.bel.trans (hc.below h.bel.size h0), h.lt, h.base, h.row.chg hc hl, h.each, h.sorted, h.nodup, h.may, h.few, h.canon⟩
theorem RgAt.below {w w' : World} {pw : Nat} {w0 : World} {m : Nat} {b : Bw} {S : List Cw} {la : Option Addr} {lc : Nat} (h : RgAt w pw w0 m b S la lc) (hb : Below w.heap.size w w') : RgAt w' pw w0 m b S la lc :=
  h.chg (F := []) (Chg.of_below hb) (by simp) (by simp) (fun k hk => by cases hk)
theorem RgAt.rows {w : World} {pw : Nat} {w0 : World} {m : Nat} {b : Bw} {S : List Cw} {la : Option Addr} {lc : Nat} (h : RgAt w pw w0 m b S la lc) : Cms w la lc S := ⟨h.row.cms, fun v hv => (h.each v hv).below h.bel⟩
theorem RgAt.f {w : World} {pw : Nat} {w0 : World} {m : Nat} {b : Bw} {S : List Cw} {la : Option Addr} {lc : Nat} (h : RgAt w pw w0 m b S la lc) : Vec w b.fa b.fc b.b.f := h.base.f.below h.bel
theorem RgAt.flen {w : World} {pw : Nat} {w0 : World} {m : Nat} {b : Bw} {S : List Cw} {la : Option Addr} {lc : Nat} (h : RgAt w pw w0 m b S la lc) : b.b.f.length ≤ 64 := by
  have h1 : (canonV b.b.f).length ≤ 64 := vecOf_length _
  rwa [h.canon] at h1
end Go.Proofs.YtaandcblndldmaaGreat

/- RgE -/
/- RgC -/
namespace Go.Proofs.YtaandcblndldmaaGreat
open Go.RowKit
set_option linter.unusedVariables false
set_option linter.unusedSimpArgs false

set_option maxRecDepth 100000 in
set_option maxHeartbeats 8000000 in
theorem find_R (pw : Nat) (w0 : World) (m : Nat) (b : Bw) (S : List Cw) (la : Option Addr) (lc : Nat) (r i s : Int) (w : World) (h : RgAt w pw w0 m b S la lc) :
    Calls Tryz.prog 151 #[.pointer (some ⟨pw, 0, none⟩), .agg #[.int .u8 r, .int .u32 i, .int .u64 s]] w fun e w' => e = .returned (.int .i64 (ixC S ((r, i), s))) ∧ Below w.heap.size w w' := by
  have H := Lib.hid h
  have B0 : Hid (BoxE 49 w (w.alloc (.cells #[.int .u8 r, .int .u32 i, .int .u64 s] 49)) #[.int .u8 r, .int .u32 i, .int .u64 s]) := Lib.hid ⟨heap_new _ _, (Below.refl _ _).alloc (Nat.le_refl _) _⟩
  have hfew := h.few
  clear h
  go_enter Tryz.func151, Tryz.ntmps151
  go_wp2_with fail
  go_loopw [5] (fun j wr => ∃ k : Nat, k ≤ S.length ∧ j = .int .i64 k ∧ Hid (∀ u ∈ S.take k, u.c.d ≠ ((r, i), s)) ∧ Hid (BoxE 49 w wr #[.int .u8 r, .int .u32 i, .int .u64 s])) (fun j _ => S.length - (intOf j).toNat)
  case atStart => exact ⟨0, Nat.zero_le _, rfl, Lib.hid (by simp), B0⟩
  case round =>
    obtain ⟨k, hk, rfl, HW, B⟩ := hrel
    clear B0
    have d0 := cells_at B.out.blk
    have z0 := heap_lt B.out.blk
    have RB := Lib.hid (H.out.below B.out.bel)
    have g0 := cells_at RB.out.blk
    simp only [rgcells] at g0
    have gz := heap_lt RB.out.blk
    by_cases hlt : k < S.length
    · obtain ⟨v, hv⟩ : ∃ v, S[k]? = some v := ⟨S[k], by simp [hlt]⟩
      obtain ⟨ad, had, ⟨c0, c1, c2, c3, c4, c5, c6, c7, c8, c9, c10⟩, hlb⟩ := RB.out.rows.at_ hv
      subst had
      have Hv := Lib.hid hv
      clear hv c3 c4 c5 c6 c7 c8 c9 c10
      obtain ⟨⟨⟨⟨r1, i1⟩, s1⟩, ps1, uu1, t1, ⟨k1, n1, x1, p1, ds1⟩⟩, qa1, qc1, ua1, uc1, pa1, pc1, da1, dc1⟩ := v
      dsimp only at c0 c1 c2
      cases heq : eqD ((r1, i1), s1) ((r, i), s) with
      | true =>
        have He := Lib.hid ((eqD_iff _ _).1 heq)
        go_wp2_with fail
        refine region_text [([0, 1, 2, 3, 4, 5, 6, 7, 8, 9], false)] mixed (by kernel_rfl) ?_
        simp only [wpSegs, List.map_cons, List.map_nil, List.getD_cons_succ, List.getD_cons_zero]
        go_wp2_with fail
        refine And.intro (by kernel_rfl) ?_
        go_wp2_with fail
        go_ret
        exact ⟨by rw [ixC_some Hv.out He.out HW.out]; rfl, (B.out.step ((Below.refl _ _).drew)).bel⟩
      | false =>
        have Hne := Lib.hid (show ((r1, i1), s1) ≠ ((r, i), s) from fun e => by rw [(eqD_iff _ _).2 e] at heq; cases heq)
        have HW' := Lib.hid (all_snoc (p := fun u : Cw => u.c.d ≠ ((r, i), s)) Hv.out HW.out Hne.out)
        have B2 := Lib.hid (B.out.step ((Below.refl _ _).drew))
        go_wp2_with fail
        refine region_text [([0, 1, 2, 3, 4, 5, 6, 7, 8, 9], false)] mixed (by kernel_rfl) ?_
        simp only [wpSegs, List.map_cons, List.map_nil, List.getD_cons_succ, List.getD_cons_zero]
        go_wp2_with fail
        refine And.intro (by kernel_rfl) ?_
        go_wp2_with fail
        go_roundw
        case rel => exact ⟨k + 1, by omega, by go_num, HW', B2⟩
        case measure => simp [intOf]; omega
    · have hkk : k = S.length := by omega
      have HN := Lib.hid (show ∀ v ∈ S, v.c.d ≠ ((r, i), s) from fun v hv => HW.out v (by rw [hkk, List.take_length]; exact hv))
      clear hkk
      go_wp2_with fail
      go_ret
      exact ⟨by rw [ixC_none HN.out]; rfl, B.out.bel⟩
set_option maxRecDepth 100000 in
set_option maxHeartbeats 4000000 in
theorem has_R (pw : Nat) (w0 : World) (m : Nat) (b : Bw) (S : List Cw) (la : Option Addr) (lc : Nat) (r i s : Int) (w : World) (h : RgAt w pw w0 m b S la lc) :
    Calls Tryz.prog 117 #[.pointer (some ⟨pw, 0, none⟩), .agg #[.int .u8 r, .int .u32 i, .int .u64 s]] w fun e w' => e = .returned (.bool (hasG b.b.f (findC (cms S)) ((r, i), s))) ∧ Below w.heap.size w w' := by
  have H := Lib.hid h
  have hfl := h.flen
  have B0 : Hid (BoxE 49 w (w.alloc (.cells #[.int .u8 r, .int .u32 i, .int .u64 s] 49)).drew #[.int .u8 r, .int .u32 i, .int .u64 s]) := Lib.hid (BoxE.of ((Below.refl _ _).drew))
  clear h
  go_enter Tryz.func117, Tryz.ntmps117
  go_wp2_with fail
  refine region_text [([0, 1, 2, 3, 4, 5, 6, 7, 8, 9, 10, 11, 12, 13], false)] mixed (by kernel_rfl) ?_
  simp only [wpSegs, List.map_cons, List.map_nil, List.getD_cons_succ, List.getD_cons_zero]
  go_wp2_with fail
  refine (find_R pw w0 m b S la lc r i s _ (H.out.below B0.out.bel)).mono ?_
  rintro e w1 ⟨rfl, hb⟩
  have E := Lib.hid (B0.out.step hb)
  clear hb B0
  have d0 := cells_at E.out.blk
  have z0 := heap_lt E.out.blk
  have RB := Lib.hid (H.out.below E.out.bel)
  have g0 := cells_at RB.out.blk
  simp only [rgcells] at g0
  have gz := heap_lt RB.out.blk
  rcases ixC_cases S ((r, i), s) with ⟨e1, e2⟩ | ⟨k, v, e1, _, _, e2⟩
  · rw [e1]
    have E2 := Lib.hid e2
    have x1 : decide ((0 : Int) ≤ -1) = false := by decide
    clear e1 e2
    go_wp2_with fail
    refine (rhas_any b.fa b.fc b.b.f r i s _ RB.out.f (by omega)).mono ?_
    rintro e w2 ⟨rfl, hb⟩
    replace E := Lib.hid (E.out.step hb)
    clear hb d0 z0 g0 gz RB
    go_wp2_with fail
    refine And.intro (by kernel_rfl) ?_
    go_wp2_with fail
    go_ret
    exact ⟨by unfold hasG; rw [E2.out]; rfl, E.out.bel⟩
  · rw [e1]
    have E2 := Lib.hid e2
    have x1 : decide ((0 : Int) ≤ (k : Int)) = true := decide_eq_true (by omega)
    clear e1 e2
    go_wp2_with fail
    refine And.intro (by kernel_rfl) ?_
    go_wp2_with fail
    go_ret
    exact ⟨by unfold hasG; rw [E2.out]; rfl, E.out.bel⟩
/-- what the document's Knows holds behind q parents -/
def rkN (F : List Dt) (fd : Fd) (c : Cm) (q : Nat) : Ac → Int := fun x =>
  (c.ps.take q).foldl (fun n p => max n (getN (vvOf (fd p)) x)) (max (min (getN c.vv x) (getN F x)) (getN (c.d :: c.ps.take q) x))
theorem foldl_max {α : Type} (f : α → Int) (l : List α) (a c : Int) : l.foldl (fun n p => max n (f p)) (max a c) = max (l.foldl (fun n p => max n (f p)) a) c := by
  induction l generalizing a with
  | nil => rfl
  | cons x l ih =>
    rw [List.foldl_cons, List.foldl_cons, show max (max a c) (f x) = max (max a (f x)) c by omega]
    exact ih _
theorem rkN_next (F : List Dt) (fd : Fd) (c : Cm) {q : Nat} {p : Dt} (h : c.ps[q]? = some p) (x : Ac) : rkN F fd c (q + 1) x = max (max (rkN F fd c q x) (getN [p] x)) (getN (vvOf (fd p)) x) := by
  unfold rkN
  rw [take_snoc' h, List.foldl_append, show c.d :: (c.ps.take q ++ [p]) = (c.d :: c.ps.take q) ++ [p] from rfl, getN_append]
  rw [show max (min (getN c.vv x) (getN F x)) (max (getN (c.d :: c.ps.take q) x) (getN [p] x)) = max (max (min (getN c.vv x) (getN F x)) (getN (c.d :: c.ps.take q) x)) (getN [p] x) by omega]
  rw [foldl_max]
  rfl
theorem rkN_all (F : List Dt) (fd : Fd) (c : Cm) (x : Ac) : rkN F fd c c.ps.length x = knN F fd c c.ps x := by unfold rkN knN; rw [List.take_length]
def JRk (w : World) (C : Array Value) (F : List Dt) (fd : Fd) (c : Cm) (kv j : Value) (wr : World) : Prop :=
  ∃ (q : Nat) (ka : Option Addr) (kc : Nat) (K : List Dt), q ≤ c.ps.length ∧ j = .int .i64 q ∧ kv = .slice ka (List.length K) kc ∧ OwnD wr w.heap.size ka kc K ∧ okV K ∧ K.length ≤ 64 ∧ (∀ x, getN K x = rkN F fd c q x) ∧ CmE w wr C
set_option maxRecDepth 100000 in
set_option maxHeartbeats 8000000 in
theorem knows_R (pw : Nat) (w0 : World) (m : Nat) (b : Bw) (S : List Cw) (la : Option Addr) (lc : Nat) (v : Cw) (w : World) (h : RgAt w pw w0 m b S la lc) (hv : CwAt w v) (hn : v.c.vv.length ≤ 100000) (hm : v.c.ps.length ≤ 100000) :
    Calls Tryz.prog 153 #[.pointer (some ⟨pw, 0, none⟩), .agg (cwcells v)] w (KnTo w b.b.f (findC (cms S)) v.c) := by
  obtain ⟨⟨⟨⟨r, i⟩, s⟩, ps, uu, t, ⟨k, n, x, p, ds⟩⟩, qa, qc, ua, uc, pa, pc, da, dc⟩ := v
  have H := Lib.hid h
  have HV := Lib.hid hv
  have g0 := cells_at h.blk
  simp only [rgcells] at g0
  have hpg := heap_lt h.blk
  have hfl := h.flen
  dsimp only at hn hm
  have hok1 : okV [((r, i), s)] := fun y hy => by rw [List.mem_singleton] at hy; subst hy; exact hv.ok.d
  have Hok1 := Lib.hid hok1
  have hsz : Below w.heap.size w (w.alloc (.cells (ccells r i s qa ps.length qc ua uu.length uc t k pa p.length pc n x da ds.length dc) 54)) := (Below.refl _ _).alloc (Nat.le_refl _) _
  have HS := Lib.hid hsz
  clear h hv hsz hok1
  simp only [cwcells]
  go_enter Tryz.func153, Tryz.ntmps153
  go_wp2_with fail
  refine region_tree (.seg [0, 1, 2, 3, 4, 5, 6, 8, 9] false (.fork (.seg [7] true (.seg [10, 11, 12] false .done)) (.seg [10] false (.seg [7] true (.seg [11, 12] false .done))))) mixed (by kernel_rfl) ?_
  simp only [wpSg, List.map_cons, List.map_nil, List.getD_cons_succ, List.getD_cons_zero]
  go_wp2_with fail
  refine And.intro ?ordA ?ordB
  case' ordA =>
    go_wp2_with fail
    refine (rmeet_any ua b.fa uc b.fc uu b.b.f _ (HV.out.vv.below HS.out.drew) (H.out.f.below HS.out.drew) HV.out.ok.vv H.out.base.okf (by omega) (by omega)).mono ?_
    rintro e w1 ⟨a1, c1, rfl, hown, hb1⟩
    have Hb1 := Lib.hid hb1
    have E : Hid (CmE w w1 (ccells r i s qa ps.length qc ua uu.length uc t k pa p.length pc n x da ds.length dc)) := Lib.hid (CmE.of (((Below.refl _ _).drew).trans hb1))
    have Hown := Lib.hid hown
    clear hown hb1
    have HW : Hid (Below w1.heap.size w1 (w1.alloc (.cells #[.int .u8 r, .int .u32 i, .int .u64 s] 49))) := Lib.hid ((Below.refl _ _).alloc (Nat.le_refl _) _)
    go_wp2_with fail
    refine And.intro (Agree.of_below Hb1.out) ?_
    go_wp2_with fail
    refine (rjoin_any a1 (some ⟨w1.heap.size, 0, none⟩) c1 1 (meetV uu b.b.f) [((r, i), s)] _ ((vec_of Hown.out).below HW.out) (vec_one (heap_new _ _)) (okV_meetV HV.out.ok.vv H.out.base.okf) Hok1.out (by have := vecOf_length (fun x => min (getN uu x) (getN b.b.f x)); unfold meetV; omega) (by simp)).mono ?_
    rintro e w4 ⟨a3, c3, rfl, hown3, hb3⟩
    have E4 : Hid (CmE w w4 (ccells r i s qa ps.length qc ua uu.length uc t k pa p.length pc n x da ds.length dc)) := Lib.hid ((E.out.step HW.out).step hb3)
    obtain ⟨K0, hK0⟩ : ∃ K0, K0 = joinV (meetV uu b.b.f) [((r, i), s)] := ⟨_, rfl⟩
    rw [← hK0] at hown3 ⊢
    have Own4 := Lib.hid (show OwnD w4 w.heap.size a3 c3 K0 from owns_base hown3 (by have := E.out.bel.size; have := HW.out.size; omega))
    have HN : Hid (∀ y, getN K0 y = rkN b.b.f (findC (cms S)) ⟨((r, i), s), ps, uu, t, ⟨k, n, x, p, ds⟩⟩ 0 y) := Lib.hid (fun y => by
      rw [hK0, getN_joinV (okV_meetV HV.out.ok.vv H.out.base.okf) Hok1.out, getN_meetV HV.out.ok.vv H.out.base.okf]; rfl)
    have HK : Hid (okV K0 ∧ K0.length ≤ 64) := Lib.hid ⟨by rw [hK0]; exact okV_joinV (okV_meetV HV.out.ok.vv H.out.base.okf) Hok1.out, by rw [hK0]; exact vecOf_length _⟩
    have d0 := cells_at E4.out.blk
    simp only [ccells] at d0
    clear hown3 hb3 Hown Hb1 E HW hK0
  case' ordB =>
    go_wp2_with fail
    have hW2 : Below w.heap.size w ((w.alloc (.cells (ccells r i s qa ps.length qc ua uu.length uc t k pa p.length pc n x da ds.length dc) 54)).alloc (.cells #[.int .u8 r, .int .u32 i, .int .u64 s] 49)).drew := (HS.out.alloc (by simp) _).drew
    refine (rmeet_any ua b.fa uc b.fc uu b.b.f _ (HV.out.vv.below hW2) (H.out.f.below hW2) HV.out.ok.vv H.out.base.okf (by omega) (by omega)).mono ?_
    rintro e w1 ⟨a1, c1, rfl, hown, hb1⟩
    have Hb1 := Lib.hid hb1
    have hb0 : Below (w.alloc (.cells (ccells r i s qa ps.length qc ua uu.length uc t k pa p.length pc n x da ds.length dc) 54)).heap.size (w.alloc (.cells (ccells r i s qa ps.length qc ua uu.length uc t k pa p.length pc n x da ds.length dc) 54)) ((w.alloc (.cells (ccells r i s qa ps.length qc ua uu.length uc t k pa p.length pc n x da ds.length dc) 54)).alloc (.cells #[.int .u8 r, .int .u32 i, .int .u64 s] 49)).drew := ((Below.refl _ _).alloc (Nat.le_refl _) _).drew
    have E : Hid (CmE w w1 (ccells r i s qa ps.length qc ua uu.length uc t k pa p.length pc n x da ds.length dc)) := Lib.hid (CmE.of (below2 hb0 hb1 hb0.size))
    have One : Hid (OwnD w1 w.heap.size (some ⟨w.heap.size + 1, 0, none⟩) 1 [((r, i), s)]) := Lib.hid (by
      have h1 := OwnD.one (w.alloc (.cells (ccells r i s qa ps.length qc ua uu.length uc t k pa p.length pc n x da ds.length dc) 54)) (base := w.heap.size) (by simp) r i s
      have h2 := OwnD.below (w' := w1) h1 (((Below.refl _ _).drew).trans hb1)
      simpa using h2)
    have Hown := Lib.hid hown
    clear hown hb1 hb0 hW2
    go_wp2_with fail
    refine And.intro (Agree.of_below Hb1.out) ?_
    go_wp2_with fail
    refine (rjoin_any a1 (some ⟨w.heap.size + 1, 0, none⟩) c1 1 (meetV uu b.b.f) [((r, i), s)] _ (vec_of Hown.out) One.out.vec (okV_meetV HV.out.ok.vv H.out.base.okf) Hok1.out (by have := vecOf_length (fun x => min (getN uu x) (getN b.b.f x)); unfold meetV; omega) (by simp)).mono ?_
    rintro e w4 ⟨a3, c3, rfl, hown3, hb3⟩
    have E4 : Hid (CmE w w4 (ccells r i s qa ps.length qc ua uu.length uc t k pa p.length pc n x da ds.length dc)) := Lib.hid (E.out.step hb3)
    obtain ⟨K0, hK0⟩ : ∃ K0, K0 = joinV (meetV uu b.b.f) [((r, i), s)] := ⟨_, rfl⟩
    rw [← hK0] at hown3 ⊢
    have Own4 := Lib.hid (show OwnD w4 w.heap.size a3 c3 K0 from owns_base hown3 (E.out.bel.size))
    have HN : Hid (∀ y, getN K0 y = rkN b.b.f (findC (cms S)) ⟨((r, i), s), ps, uu, t, ⟨k, n, x, p, ds⟩⟩ 0 y) := Lib.hid (fun y => by
      rw [hK0, getN_joinV (okV_meetV HV.out.ok.vv H.out.base.okf) Hok1.out, getN_meetV HV.out.ok.vv H.out.base.okf]; rfl)
    have HK : Hid (okV K0 ∧ K0.length ≤ 64) := Lib.hid ⟨by rw [hK0]; exact okV_joinV (okV_meetV HV.out.ok.vv H.out.base.okf) Hok1.out, by rw [hK0]; exact vecOf_length _⟩
    have d0 := cells_at E4.out.blk
    simp only [ccells] at d0
    clear hown3 hb3 Hown Hb1 E One hK0
  all_goals
    go_wp2_with fail
    refine And.intro (by kernel_rfl) ?_
    go_wp2_with fail
    go_loopw [5, 6] (fun kv j wr => JRk w (ccells r i s qa ps.length qc ua uu.length uc t k pa p.length pc n x da ds.length dc) b.b.f (findC (cms S)) ⟨((r, i), s), ps, uu, t, ⟨k, n, x, p, ds⟩⟩ kv j wr) (fun _ j _ => ps.length - (intOf j).toNat)
    case atStart => exact ⟨0, a3, c3, K0, Nat.zero_le _, rfl, rfl, Own4.out, HK.out.1, HK.out.2, HN.out, E4.out⟩
    case round =>
      obtain ⟨q, ka, kc, K, hq, rfl, rfl, hown, hok, hlen, hN, hE⟩ := hrel
      dsimp only at hq
      clear E4 Own4 HN HK d0 g0
      have Own := Lib.hid hown
      have Hok := Lib.hid hok
      have Hlen := Lib.hid hlen
      have HN := Lib.hid hN
      have E := Lib.hid hE
      have d0 := cells_at hE.blk
      simp only [ccells] at d0
      have z0 := heap_lt hE.blk
      clear hown hok hlen hN hE
      by_cases hlt : q < ps.length
      · obtain ⟨⟨⟨r', i'⟩, s'⟩, hx⟩ : ∃ x, ps[q]? = some x := ⟨ps[q], by simp [hlt]⟩
        obtain ⟨ad, had, e0, e1, e2, hl0⟩ := (HV.out.ps.below E.out.bel).at hx
        have hokd : okD ((r', i'), s') := HV.out.ok.ps _ (List.mem_of_getElem? hx)
        have Hok2 := Lib.hid (show okV [((r', i'), s')] from fun y hy => by rw [List.mem_singleton] at hy; subst hy; exact hokd)
        dsimp only at had e0 e1 e2
        subst had
        have Hx := Lib.hid hx
        clear hx hokd
        have HW1 := Lib.hid (show Below wr.heap.size wr (wr.alloc (.cells #[.int .u8 r', .int .u32 i', .int .u64 s'] 49)) from (Below.refl _ _).alloc (Nat.le_refl _) _)
        go_wp2_with fail
        refine (rjoin_any ka (some ⟨wr.heap.size, 0, none⟩) kc 1 K [((r', i'), s')] _ ((OwnD.vec Own.out).below HW1.out) (vec_one (heap_new _ _)) Hok.out Hok2.out (by have := Hlen.out; omega) (by simp)).mono ?_
        rintro e w5 ⟨a5, c5, rfl, hown, hb⟩
        replace E := Lib.hid ((E.out.step HW1.out).step hb)
        have HK5 := Lib.hid (show (∀ y, getN (joinV K [((r', i'), s')]) y = max (rkN b.b.f (findC (cms S)) ⟨((r, i), s), ps, uu, t, ⟨k, n, x, p, ds⟩⟩ q y) (getN [((r', i'), s')] y)) ∧ okV (joinV K [((r', i'), s')]) ∧ (joinV K [((r', i'), s')]).length ≤ 64 from ⟨fun y => by rw [getN_joinV Hok.out Hok2.out, HN.out], okV_joinV Hok.out Hok2.out, vecOf_length _⟩)
        have Own5 := Lib.hid (show OwnD w5 w.heap.size a5 c5 (joinV K [((r', i'), s')]) from owns_base hown (by have := E.out.bel.size; have := hb.size; have := HW1.out.size; have := (CmE.bel (E.out)).size; omega))
        clear hown hb d0 z0 e0 e1 e2 Own HN Hok Hlen HW1
        generalize joinV K [((r', i'), s')] = K5 at *
        obtain ⟨ad2, had2, e0, e1, e2, hl0⟩ := (HV.out.ps.below E.out.bel).at Hx.out
        dsimp only at had2 e0 e1 e2
        obtain rfl : ad = ad2 := Option.some.inj had2
        clear had2
        have d0 := cells_at E.out.blk
        simp only [ccells] at d0
        have z0 := heap_lt E.out.blk
        go_wp2_with fail
        refine (find_R pw w0 m b S la lc r' i' s' _ (H.out.below E.out.bel)).mono ?_
        rintro e w6 ⟨rfl, hb⟩
        replace E := Lib.hid (E.out.step hb)
        replace Own5 := Lib.hid (OwnD.below Own5.out hb)
        clear hb d0 z0 e0 e1 e2
        have d0 := cells_at E.out.blk
        simp only [ccells] at d0
        have z0 := heap_lt E.out.blk
        have RB := Lib.hid (H.out.below E.out.bel)
        rcases ixC_cases S ((r', i'), s') with ⟨f1, f2⟩ | ⟨y, v1, f1, f3, _, f2⟩
        · rw [f1]
          have Hf := Lib.hid f2
          have x1 : decide ((0 : Int) ≤ -1) = false := by decide
          clear f1 f2
          have HN6 : Hid (∀ y, getN K5 y = rkN b.b.f (findC (cms S)) ⟨((r, i), s), ps, uu, t, ⟨k, n, x, p, ds⟩⟩ (q + 1) y) := Lib.hid (fun y => by
            have h1 := rkN_next b.b.f (findC (cms S)) ⟨((r, i), s), ps, uu, t, ⟨k, n, x, p, ds⟩⟩ Hx.out y
            have h2 := HK5.out.1 y
            have h3 := (getN_bd K5 y).1
            rw [h1, Hf.out]
            show _ = max _ (getN [] y)
            rw [getN_nil', ← h2]; omega)
          go_wp2_with fail
          go_roundw
          case rel => exact ⟨q + 1, a5, c5, K5, by dsimp only; omega, by go_num, rfl, Own5.out, HK5.out.2.1, HK5.out.2.2, HN6.out, E.out⟩
          case measure => simp [intOf]; omega
        · rw [f1]
          have Hf := Lib.hid f2
          have x1 : decide ((0 : Int) ≤ (y : Int)) = true := decide_eq_true (by omega)
          have hyl : y < S.length := (List.getElem?_eq_some_iff.1 f3).1
          obtain ⟨ag, hag, ⟨c0, c1, c2, c3, c4, c5', c6, c7, c8, c9, c10⟩, hlb⟩ := RB.out.rows.at_ f3
          subst hag
          have g0 := cells_at RB.out.blk
          simp only [rgcells] at g0
          have gz := heap_lt RB.out.blk
          have Hat := Lib.hid (RB.out.rows.each v1 (List.mem_of_getElem? f3))
          have hvl := (H.out.may v1 (List.mem_of_getElem? f3)).vlen
          clear f1 f2 f3 c0 c1 c2 c3 c5' c6 c7 c8 c9 c10
          obtain ⟨⟨⟨⟨r1, i1⟩, s1⟩, ps1, uu1, t1, ⟨k1, n1, x1', p1, ds1⟩⟩, qa1, qc1, ua1, uc1, pa1, pc1, da1, dc1⟩ := v1
          dsimp only at c4 hvl
          go_wp2_with fail
          refine (rjoin_any a5 ua1 c5 uc1 K5 uu1 _ (OwnD.vec Own5.out) Hat.out.vv HK5.out.2.1 Hat.out.ok.vv (by have := HK5.out.2.2; omega) (by omega)).mono ?_
          rintro e w7 ⟨a7, c7, rfl, hown, hb⟩
          have Own7 := Lib.hid (show OwnD w7 w.heap.size a7 c7 (joinV K5 uu1) from owns_base hown E.out.bel.size)
          replace E := Lib.hid (E.out.step hb)
          clear hown hb d0 z0 g0 gz c4 RB
          have HN7 : Hid ((∀ y, getN (joinV K5 uu1) y = rkN b.b.f (findC (cms S)) ⟨((r, i), s), ps, uu, t, ⟨k, n, x, p, ds⟩⟩ (q + 1) y) ∧ okV (joinV K5 uu1) ∧ (joinV K5 uu1).length ≤ 64) := Lib.hid ⟨fun y => by
            have h1 := rkN_next b.b.f (findC (cms S)) ⟨((r, i), s), ps, uu, t, ⟨k, n, x, p, ds⟩⟩ Hx.out y
            have h2 := HK5.out.1 y
            rw [getN_joinV HK5.out.2.1 Hat.out.ok.vv, h1, Hf.out, h2]; rfl, okV_joinV HK5.out.2.1 Hat.out.ok.vv, vecOf_length _⟩
          generalize joinV K5 uu1 = K7 at *
          go_wp2_with fail
          go_roundw
          case rel => exact ⟨q + 1, a7, c7, K7, by dsimp only; omega, by go_num, rfl, Own7.out, HN7.out.2.1, HN7.out.2.2, HN7.out.1, E.out⟩
          case measure => simp [intOf]; omega
      · have hqq : q = ps.length := by omega
        have HNf := Lib.hid (show ∀ x1, getN K x1 = knN b.b.f (findC (cms S)) ⟨((r, i), s), ps, uu, t, ⟨k, n, x, p, ds⟩⟩ ps x1 from fun x1 => by rw [HN.out, hqq]; exact rkN_all b.b.f (findC (cms S)) ⟨((r, i), s), ps, uu, t, ⟨k, n, x, p, ds⟩⟩ x1)
        clear hqq
        go_wp2_with fail
        go_ret
        exact ⟨K, HNf.out, Hok.out, Hlen.out, ka, kc, rfl, Own.out, E.out.bel⟩
end Go.Proofs.YtaandcblndldmaaGreat

/- RgD -/
namespace Go.Proofs.YtaandcblndldmaaGreat
open Go.RowKit
set_option linter.unusedVariables false
set_option linter.unusedSimpArgs false

/-- a commit's block, and behind it a dot's -/
structure Bx2 (w wr : World) (C D : Array Value) : Prop where
  c : wr.heap[w.heap.size]? = some (.cells C 54 (0, 0))
  d : wr.heap[w.heap.size + 1]? = some (.cells D 49 (0, 0))
  bel : Below w.heap.size w wr
theorem Bx2.step {w wr w' : World} {C D : Array Value} (h : Bx2 w wr C D) (hb : Below wr.heap.size wr w') : Bx2 w w' C D :=
  ⟨(hb.block _ (heap_lt h.c)).trans h.c, (hb.block _ (heap_lt h.d)).trans h.d, below2 h.bel hb h.bel.size⟩
theorem Bx2.made (w : World) (C D : Array Value) : Bx2 w ((w.alloc (.cells C 54)).alloc (.cells D 49)) C D := by
  have h1 : (w.alloc (.cells C 54)).heap[w.heap.size]? = some (.cells C 54 (0, 0)) := heap_new _ _
  have h2 : ((w.alloc (.cells C 54)).alloc (.cells D 49)).heap[(w.alloc (.cells C 54)).heap.size]? = some (.cells D 49 (0, 0)) := heap_new _ _
  have hb : Below (w.alloc (.cells C 54)).heap.size (w.alloc (.cells C 54)) ((w.alloc (.cells C 54)).alloc (.cells D 49)) := (Below.refl _ _).alloc (Nat.le_refl _) _
  refine ⟨(hb.block _ (heap_lt h1)).trans h1, ?_, below2 ((Below.refl _ _).alloc (Nat.le_refl _) _) hb (by simp)⟩
  have e : (w.alloc (.cells C 54)).heap.size = w.heap.size + 1 := by simp
  rw [e] at h2
  exact h2
set_option maxRecDepth 100000 in
set_option maxHeartbeats 8000000 in
theorem gap_R (pw : Nat) (w0 : World) (m : Nat) (b : Bw) (S : List Cw) (la : Option Addr) (lc : Nat) (v : Cw) (r i s : Int) (w : World) (h : RgAt w pw w0 m b S la lc) (hv : CwAt w v) (hd : v.c.d = ((r, i), s)) (hs : 1 ≤ s) (hn : v.c.vv.length ≤ 100000) (hm : v.c.ps.length ≤ 100000) :
    Calls Tryz.prog 118 #[.pointer (some ⟨pw, 0, none⟩), .agg (cwcells v), .agg #[.int .u8 r, .int .u32 i, .int .u64 (s - 1)]] w (IsTo w (¬ GapP b.b.f (findC (cms S)) v.c)) := by
  obtain ⟨⟨⟨⟨r', i'⟩, s'⟩, ps, uu, t, ⟨k, n, x, p, ds⟩⟩, qa, qc, ua, uc, pa, pc, da, dc⟩ := v
  dsimp only at hd hn hm
  obtain ⟨⟨rfl, rfl⟩, rfl⟩ : (r' = r ∧ i' = i) ∧ s' = s := by simpa using hd
  have H := Lib.hid h
  have HV := Lib.hid hv
  have B0 : Hid (Bx2 w _ (ccells r' i' s' qa ps.length qc ua uu.length uc t k pa p.length pc n x da ds.length dc) #[.int .u8 r', .int .u32 i', .int .u64 (s' - 1)]) := Lib.hid (Bx2.made w _ _)
  have ovv := hv.ok.vv
  clear h hv hd
  simp only [cwcells]
  go_enter Tryz.func118, Tryz.ntmps118
  go_wp2_with fail
  go_loopw [7] (fun j wr => ∃ q : Nat, q ≤ ps.length ∧ j = .int .i64 q ∧ Hid (∀ y ∈ ps.take q, hasG b.b.f (findC (cms S)) y = true) ∧ Hid (Bx2 w wr (ccells r' i' s' qa ps.length qc ua uu.length uc t k pa p.length pc n x da ds.length dc) #[.int .u8 r', .int .u32 i', .int .u64 (s' - 1)])) (fun j _ => ps.length - (intOf j).toNat)
  case atStart => exact ⟨0, Nat.zero_le _, rfl, Lib.hid (by simp), B0⟩
  case round =>
    obtain ⟨q, hq, rfl, HW, B⟩ := hrel
    clear B0
    have d0 := cells_at B.out.c
    simp only [ccells] at d0
    have z0 := heap_lt B.out.c
    by_cases hlt : q < ps.length
    · obtain ⟨⟨⟨r2, i2⟩, s2⟩, hx⟩ : ∃ x, ps[q]? = some x := ⟨ps[q], by simp [hlt]⟩
      obtain ⟨ad, had, e0, e1, e2, hl0⟩ := (HV.out.ps.below B.out.bel).at hx
      dsimp only at had e0 e1 e2
      subst had
      have Hx := Lib.hid hx
      clear hx
      go_wp2_with fail
      refine (has_R pw w0 m b S la lc r2 i2 s2 _ (H.out.below B.out.bel)).mono ?_
      rintro e w1 ⟨rfl, hb⟩
      replace B := Lib.hid (B.out.step hb)
      clear hb d0 z0
      cases hg : hasG b.b.f (findC (cms S)) ((r2, i2), s2) with
      | true =>
        have HW' := Lib.hid (all_snoc (p := fun y => hasG b.b.f (findC (cms S)) y = true) Hx.out HW.out hg)
        clear hg
        go_wp2_with fail
        go_roundw
        case rel => exact ⟨q + 1, by omega, by go_num, HW', B⟩
        case measure => simp [intOf]; omega
      | false =>
        have Hn := Lib.hid (show ¬ GapP b.b.f (findC (cms S)) ⟨((r', i'), s'), ps, uu, t, ⟨k, n, x, p, ds⟩⟩ from fun h => by have := h.ps _ (List.mem_of_getElem? Hx.out); rw [hg] at this; cases this)
        clear hg
        go_wp2_with fail
        go_ret
        exact yes_name Hn.out B.out.bel
    · have hqq : q = ps.length := by omega
      have HWa := Lib.hid (show ∀ y ∈ ps, hasG b.b.f (findC (cms S)) y = true from fun y hy => HW.out y (by rw [hqq, List.take_length]; exact hy))
      clear HW hqq
      replace B := Lib.hid (B.out.step ((Below.refl _ _).drew))
      have d1 := cells_at B.out.d
      have z1 := heap_lt B.out.d
      by_cases h1 : 1 < s'
      · have x1 : decide (1 < s') = true := decide_eq_true h1
        go_wp2_with fail
        refine region_text [([0, 1, 2, 3, 4, 5, 6, 7, 8, 9, 10, 11, 12, 13, 14], false), ([15], true), ([16, 17, 18, 19], false)] mixed (by kernel_rfl) ?_
        simp only [wpSegs, List.map_cons, List.map_nil, List.getD_cons_succ, List.getD_cons_zero]
        go_wp2_with fail
        refine (has_R pw w0 m b S la lc r' i' (s' - 1) _ (H.out.below B.out.bel)).mono ?_
        rintro e w1 ⟨rfl, hb⟩
        replace B := Lib.hid (B.out.step hb)
        clear hb d0 z0 d1 z1
        cases hg : hasG b.b.f (findC (cms S)) ((r', i'), s' - 1) with
        | false =>
          have Hn := Lib.hid (show ¬ GapP b.b.f (findC (cms S)) ⟨((r', i'), s'), ps, uu, t, ⟨k, n, x, p, ds⟩⟩ from fun h => by have := h.own h1; unfold aheadD at this; dsimp only at this; rw [hg] at this; cases this)
          clear hg
          go_wp2_with fail
          refine And.intro (Agree.refl _) ?_
          go_wp2_with fail
          refine And.intro (by kernel_rfl) ?_
          go_wp2_with fail
          go_ret
          exact yes_name Hn.out B.out.bel
        | true =>
          have Hown := Lib.hid (show 1 < s' → hasG b.b.f (findC (cms S)) ((r', i'), s' - 1) = true from fun _ => hg)
          clear hg
          have d0 := cells_at B.out.c
          simp only [ccells] at d0
          have z0 := heap_lt B.out.c
          go_wp2_with fail
          refine (knows_R pw w0 m b S la lc ⟨⟨((r', i'), s'), ps, uu, t, ⟨k, n, x, p, ds⟩⟩, qa, qc, ua, uc, pa, pc, da, dc⟩ _ (H.out.below B.out.bel) (HV.out.below B.out.bel) hn hm).mono ?_
          rintro e w2 ⟨K, hK, hok, hkl, a1, c1, rfl, hown, hb⟩
          have Hb := Lib.hid hb
          have HK := Lib.hid hK
          have Hv := Lib.hid (vec_of hown)
          replace B := Lib.hid (B.out.step hb)
          clear hb hown hK hok d0 z0
          go_wp2_with fail
          refine And.intro (Agree.of_below Hb.out) ?_
          go_wp2_with fail
          refine (rwithin_any ua a1 uc c1 uu K _ (HV.out.vv.below B.out.bel) Hv.out ovv (by omega) (by omega)).mono ?_
          rintro e w3 ⟨rfl, hb⟩
          replace B := Lib.hid (B.out.step hb)
          have Hr := Lib.hid (show (!withinV uu K) = true ↔ ¬ GapP b.b.f (findC (cms S)) ⟨((r', i'), s'), ps, uu, t, ⟨k, n, x, p, ds⟩⟩ from by
            rw [Bool.not_eq_true', ← Bool.not_eq_true, withinV_iff ovv]
            refine not_congr ⟨fun h => ⟨HWa.out, Hown.out, fun y => ?_⟩, fun h y => ?_⟩
            · have h2 := h y; rw [HK.out] at h2; exact h2
            · rw [HK.out]; exact h.knows y)
          clear hb
          go_wp2_with fail
          refine And.intro (by kernel_rfl) ?_
          go_wp2_with fail
          go_ret
          exact ⟨_, rfl, Hr.out, B.out.bel⟩
      · have x1 : decide (1 < s') = false := decide_eq_false h1
        have Hown := Lib.hid (show 1 < s' → hasG b.b.f (findC (cms S)) ((r', i'), s' - 1) = true from fun h => absurd h h1)
        go_wp2_with fail
        refine region_text [([0, 1, 2, 3, 4, 5, 6, 7, 8, 9, 10, 11, 12, 13, 14], false), ([15], true), ([16, 17, 18, 19], false)] mixed (by kernel_rfl) ?_
        simp only [wpSegs, List.map_cons, List.map_nil, List.getD_cons_succ, List.getD_cons_zero]
        go_wp2_with fail
        refine (knows_R pw w0 m b S la lc ⟨⟨((r', i'), s'), ps, uu, t, ⟨k, n, x, p, ds⟩⟩, qa, qc, ua, uc, pa, pc, da, dc⟩ _ (H.out.below B.out.bel) (HV.out.below B.out.bel) hn hm).mono ?_
        rintro e w2 ⟨K, hK, hok, hkl, a1, c1, rfl, hown, hb⟩
        have Hb := Lib.hid hb
        have HK := Lib.hid hK
        have Hv := Lib.hid (vec_of hown)
        replace B := Lib.hid (B.out.step hb)
        clear hb hown hK hok d0 z0 d1 z1
        go_wp2_with fail
        refine And.intro (Agree.of_below Hb.out) ?_
        go_wp2_with fail
        refine (rwithin_any ua a1 uc c1 uu K _ (HV.out.vv.below B.out.bel) Hv.out ovv (by omega) (by omega)).mono ?_
        rintro e w3 ⟨rfl, hb⟩
        replace B := Lib.hid (B.out.step hb)
        have Hr := Lib.hid (show (!withinV uu K) = true ↔ ¬ GapP b.b.f (findC (cms S)) ⟨((r', i'), s'), ps, uu, t, ⟨k, n, x, p, ds⟩⟩ from by
          rw [Bool.not_eq_true', ← Bool.not_eq_true, withinV_iff ovv]
          refine not_congr ⟨fun h => ⟨HWa.out, Hown.out, fun y => ?_⟩, fun h y => ?_⟩
          · have h2 := h y; rw [HK.out] at h2; exact h2
          · rw [HK.out]; exact h.knows y)
        clear hb
        go_wp2_with fail
        refine And.intro (by kernel_rfl) ?_
        go_wp2_with fail
        go_ret
        exact ⟨_, rfl, Hr.out, B.out.bel⟩
end Go.Proofs.YtaandcblndldmaaGreat

/- RgE -/
namespace Go.Proofs.YtaandcblndldmaaGreat
open Go.RowKit
set_option linter.unusedVariables false
set_option linter.unusedSimpArgs false

/-- is the dot ahead known, by q parents -/
def knB (F : List Dt) (fd : Fd) (c : Cm) (q : Nat) : Prop := c.d.2 = 1 ∨ hasV F (aheadD c.d) = true ∨ ∃ p ∈ c.ps.take q, ∃ x, fd p = some x ∧ hasV x.vv (aheadD c.d) = true
def eaB (fd : Fd) (c : Cm) (q : Nat) : Prop := ∀ p ∈ c.ps.take q, ∀ x, fd p = some x → (∀ y ∈ c.ps, y ≠ p → hasV x.vv y = false) ∧ x.t < c.t
theorem knB_next {F : List Dt} {fd : Fd} {c : Cm} {q : Nat} {p : Dt} (h : c.ps[q]? = some p) : knB F fd c (q + 1) ↔ knB F fd c q ∨ ∃ x, fd p = some x ∧ hasV x.vv (aheadD c.d) = true := by
  unfold knB
  rw [take_snoc' h]
  constructor
  · rintro (h1 | h1 | ⟨y, hy, h1⟩)
    · exact .inl (.inl h1)
    · exact .inl (.inr (.inl h1))
    · rcases List.mem_append.1 hy with hy | hy
      · exact .inl (.inr (.inr ⟨y, hy, h1⟩))
      · rw [List.mem_singleton] at hy; subst hy; exact .inr h1
  · rintro ((h1 | h1 | ⟨y, hy, h1⟩) | h1)
    · exact .inl h1
    · exact .inr (.inl h1)
    · exact .inr (.inr ⟨y, List.mem_append_left _ hy, h1⟩)
    · exact .inr (.inr ⟨p, by simp, h1⟩)
theorem eaB_next {fd : Fd} {c : Cm} {q : Nat} {p : Dt} (h : c.ps[q]? = some p) (h0 : eaB fd c q) (h1 : ∀ x, fd p = some x → (∀ y ∈ c.ps, y ≠ p → hasV x.vv y = false) ∧ x.t < c.t) : eaB fd c (q + 1) := by
  unfold eaB at *
  rw [take_snoc' h]
  intro y hy
  rcases List.mem_append.1 hy with hy | hy
  · exact h0 y hy
  · rw [List.mem_singleton] at hy; subst hy; exact h1
theorem follows_of {F : List Dt} {fd : Fd} {c : Cm} (h : knB F fd c c.ps.length) (h1 : eaB fd c c.ps.length) : FollowsP F fd c := by
  unfold knB at h
  unfold eaB at h1
  rw [List.take_length] at h h1
  exact ⟨h, h1⟩
theorem knB_of {F : List Dt} {fd : Fd} {c : Cm} (h : FollowsP F fd c) : knB F fd c c.ps.length := by unfold knB; rw [List.take_length]; exact h.known
set_option maxRecDepth 100000 in
set_option maxHeartbeats 16000000 in
theorem wrong_R (pw : Nat) (w0 : World) (m : Nat) (b : Bw) (S : List Cw) (la : Option Addr) (lc : Nat) (v : Cw) (r i s : Int) (w : World) (h : RgAt w pw w0 m b S la lc) (hv : CwAt w v) (hd : v.c.d = ((r, i), s)) (hs : 1 ≤ s) (hnd : v.c.ps.Nodup) (hn : v.c.vv.length ≤ 100000) (hm : v.c.ps.length ≤ 100000) :
    Calls Tryz.prog 119 #[.pointer (some ⟨pw, 0, none⟩), .agg (cwcells v), .agg #[.int .u8 r, .int .u32 i, .int .u64 (s - 1)]] w (IsTo w (¬ ((∀ x, knN b.b.f (findC (cms S)) v.c v.c.ps x ≤ getN v.c.vv x) ∧ FollowsP b.b.f (findC (cms S)) v.c))) := by
  obtain ⟨⟨⟨⟨r', i'⟩, s'⟩, ps, uu, t, ⟨k, n, x, p, ds⟩⟩, qa, qc, ua, uc, pa, pc, da, dc⟩ := v
  dsimp only at hd hn hm hnd
  obtain ⟨⟨rfl, rfl⟩, rfl⟩ : (r' = r ∧ i' = i) ∧ s' = s := by simpa using hd
  have H := Lib.hid h
  have HV := Lib.hid hv
  have hfl := h.flen
  have B0 : Hid (Bx2 w _ (ccells r' i' s' qa ps.length qc ua uu.length uc t k pa p.length pc n x da ds.length dc) #[.int .u8 r', .int .u32 i', .int .u64 (s' - 1)]) := Lib.hid ((Bx2.made w _ _).step ((Below.refl _ _).drew))
  have ovv := hv.ok.vv
  have Hnd := Lib.hid hnd
  have hpg := heap_lt h.blk
  have g0 := cells_at h.blk
  simp only [rgcells] at g0
  clear h hv hd hnd
  simp only [cwcells]
  go_enter Tryz.func119, Tryz.ntmps119
  go_upto_region 1 with (fail)
  go_cut [7] (fun u wr => ∃ kn : Bool, u = .bool kn ∧ Hid (kn = true ↔ knB b.b.f (findC (cms S)) ⟨((r', i'), s'), ps, uu, t, ⟨k, n, x, p, ds⟩⟩ 0) ∧ Hid (Bx2 w wr (ccells r' i' s' qa ps.length qc ua uu.length uc t k pa p.length pc n x da ds.length dc) #[.int .u8 r', .int .u32 i', .int .u64 (s' - 1)]))
  case first =>
    by_cases h1 : s' = 1
    · subst h1
      go_wp2_with fail
      refine region_text [([0, 1, 2, 3, 4, 5, 6, 7, 8, 9, 10, 11, 12, 13], false)] mixed (by kernel_rfl) ?_
      simp only [wpSegs, List.map_cons, List.map_nil, List.getD_cons_succ, List.getD_cons_zero]
      go_wp2_with fail
      refine And.intro (by kernel_rfl) ?_
      go_wp2_with fail
      go_meet
      exact ⟨true, rfl, Lib.hid ⟨fun _ => .inl rfl, fun _ => rfl⟩, B0⟩
    · have x1 : (s' == 1) = false := by rw [beq_eq_false_iff_ne]; exact h1
      have H1 := Lib.hid h1
      go_wp2_with fail
      refine region_text [([0, 1, 2, 3, 4, 5, 6, 7, 8, 9, 10, 11, 12, 13], false)] mixed (by kernel_rfl) ?_
      simp only [wpSegs, List.map_cons, List.map_nil, List.getD_cons_succ, List.getD_cons_zero]
      go_wp2_with fail
      refine (rhas_any b.fa b.fc b.b.f r' i' (s' - 1) _ (H.out.f.below B0.out.bel) (by omega)).mono ?_
      rintro e w1 ⟨rfl, hb⟩
      have B1 := Lib.hid (B0.out.step hb)
      clear hb
      go_wp2_with fail
      refine And.intro (by kernel_rfl) ?_
      go_wp2_with fail
      go_meet
      refine ⟨_, rfl, Lib.hid ⟨fun h => .inr (.inl h), fun h => ?_⟩, B1⟩
      rcases h with h | h | ⟨y, hy, _⟩
      · exact absurd h H1.out
      · exact h
      · cases hy
  case rest =>
    obtain ⟨kn0, rfl, HK0, B1⟩ := hcut
    clear B0 g0 hpg
    go_wp2_with fail
    go_loopw [7, 8] (fun u j wr => ∃ (q : Nat) (kn : Bool), q ≤ ps.length ∧ j = .int .i64 q ∧ u = .bool kn ∧ Hid (kn = true ↔ knB b.b.f (findC (cms S)) ⟨((r', i'), s'), ps, uu, t, ⟨k, n, x, p, ds⟩⟩ q) ∧ Hid (eaB (findC (cms S)) ⟨((r', i'), s'), ps, uu, t, ⟨k, n, x, p, ds⟩⟩ q) ∧ Hid (Bx2 w wr (ccells r' i' s' qa ps.length qc ua uu.length uc t k pa p.length pc n x da ds.length dc) #[.int .u8 r', .int .u32 i', .int .u64 (s' - 1)])) (fun _ j _ => ps.length - (intOf j).toNat)
    case atStart => exact ⟨0, kn0, Nat.zero_le _, rfl, rfl, HK0, Lib.hid (fun y hy => by cases hy), B1⟩
    case round =>
      obtain ⟨q, kn, hq, rfl, rfl, HK, HE, B⟩ := hrel
      clear B1 HK0
      have d0 := cells_at B.out.c
      simp only [ccells] at d0
      have z0 := heap_lt B.out.c
      by_cases hlt : q < ps.length
      · obtain ⟨⟨⟨r2, i2⟩, s2⟩, hx⟩ : ∃ x, ps[q]? = some x := ⟨ps[q], by simp [hlt]⟩
        obtain ⟨ad, had, e0, e1, e2, hl0⟩ := (HV.out.ps.below B.out.bel).at hx
        dsimp only at had e0 e1 e2
        subst had
        have Hx := Lib.hid hx
        clear hx
        go_wp2_with fail
        refine (find_R pw w0 m b S la lc r2 i2 s2 _ (H.out.below B.out.bel)).mono ?_
        rintro e w1 ⟨rfl, hb⟩
        replace B := Lib.hid (B.out.step hb)
        clear hb d0 z0 e0 e1 e2 hl0
        rcases ixC_cases S ((r2, i2), s2) with ⟨f1, f2⟩ | ⟨y, v1, f1, f3, f4, f2⟩
        · rw [f1]
          have x1 : decide ((-1 : Int) < 0) = true := by decide
          have HK' := Lib.hid (HK.out.trans (show _ ↔ knB b.b.f (findC (cms S)) ⟨((r', i'), s'), ps, uu, t, ⟨k, n, x, p, ds⟩⟩ (q + 1) from by
            rw [knB_next Hx.out, f2]; simp))
          have HE' := Lib.hid (eaB_next (c := ⟨((r', i'), s'), ps, uu, t, ⟨k, n, x, p, ds⟩⟩) Hx.out HE.out (fun y hy => by rw [f2] at hy; cases hy))
          clear f1 f2
          go_wp2_with fail
          go_roundw
          case rel => exact ⟨q + 1, kn, by omega, by go_num, rfl, HK', HE', B⟩
          case measure => simp [intOf]; omega
        · rw [f1]
          have x1 : decide ((y : Int) < 0) = false := decide_eq_false (by omega)
          have F2 := Lib.hid f2
          have F3 := Lib.hid f3
          have hyl : y < S.length := (List.getElem?_eq_some_iff.1 f3).1
          have hvl := (H.out.may v1 (List.mem_of_getElem? f3)).vlen
          have RB := Lib.hid (H.out.below B.out.bel)
          have HA := Lib.hid (RB.out.rows.each v1 (List.mem_of_getElem? f3))
          obtain ⟨ag, hag, ⟨c0, c1, c2, c3, c4, c5, c6, c7, c8, c9, c10⟩, hlb⟩ := RB.out.rows.at_ f3
          subst hag
          clear f1 f2 f3 f4 c0 c1 c2 c3 c6 c7 c8 c9 c10
          obtain ⟨⟨⟨⟨r1, i1⟩, s1⟩, ps1, uu1, t1, ⟨k1, n1, x1', p1, ds1⟩⟩, qa1, qc1, ua1, uc1, pa1, pc1, da1, dc1⟩ := v1
          dsimp only at c4 c5 hvl
          have g0 := cells_at RB.out.blk
          simp only [rgcells] at g0
          have gz := heap_lt RB.out.blk
          have d0 := cells_at B.out.c
          simp only [ccells] at d0
          have z0 := heap_lt B.out.c
          by_cases ht : t ≤ t1
          · have x2 : decide (t ≤ t1) = true := decide_eq_true ht
            have Hn := Lib.hid (show ¬ ((∀ y, knN b.b.f (findC (cms S)) ⟨((r', i'), s'), ps, uu, t, ⟨k, n, x, p, ds⟩⟩ ps y ≤ getN uu y) ∧ FollowsP b.b.f (findC (cms S)) ⟨((r', i'), s'), ps, uu, t, ⟨k, n, x, p, ds⟩⟩) from fun h => by
              have h2 : t1 < t := (h.2.each _ (List.mem_of_getElem? Hx.out) _ F2.out).2
              omega)
            go_wp2_with fail
            refine region_text [([0, 1, 2, 3, 4, 5, 6, 7, 8, 9, 10], false)] mixed (by kernel_rfl) ?_
            simp only [wpSegs, List.map_cons, List.map_nil, List.getD_cons_succ, List.getD_cons_zero]
            go_wp2_with fail
            refine And.intro (by kernel_rfl) ?_
            go_wp2_with fail
            go_ret
            exact yes_name Hn.out (B.out.step ((Below.refl _ _).drew)).bel
          · have x2 : decide (t ≤ t1) = false := decide_eq_false ht
            have Ht := Lib.hid (show t1 < t by omega)
            have d1 := cells_at B.out.d
            have z1 := heap_lt B.out.d
            go_wp2_with fail
            refine region_text [([0, 1, 2, 3, 4, 5, 6, 7, 8, 9, 10], false)] mixed (by kernel_rfl) ?_
            simp only [wpSegs, List.map_cons, List.map_nil, List.getD_cons_succ, List.getD_cons_zero]
            go_wp2_with fail
            refine And.intro (by kernel_rfl) ?_
            go_wp2_with fail
            refine region_text [([0, 1, 2, 3, 4, 5, 6, 7, 8, 9], false)] mixed (by kernel_rfl) ?_
            simp only [wpSegs, List.map_cons, List.map_nil, List.getD_cons_succ, List.getD_cons_zero]
            go_wp2_with fail
            refine (rhas_any ua1 uc1 uu1 r' i' (s' - 1) _ (HA.out.vv.below ((Below.refl _ _).drew.drew)) (by omega)).mono ?_
            rintro e w2 ⟨rfl, hb⟩
            have Hb12 := Lib.hid (((Below.refl w1.heap.size w1).drew.drew).trans hb)
            replace B := Lib.hid (B.out.step Hb12.out)
            replace HA := Lib.hid (HA.out.below Hb12.out)
            clear hb d0 z0 d1 z1 g0 gz c4 c5 RB Hb12 x1 x2
            cases hh : hasV uu1 ((r', i'), s' - 1)
            case' true =>
              have HK' := Lib.hid (show true = true ↔ knB b.b.f (findC (cms S)) ⟨((r', i'), s'), ps, uu, t, ⟨k, n, x, p, ds⟩⟩ (q + 1) from ⟨fun _ => (knB_next Hx.out).2 (.inr ⟨_, F2.out, hh⟩), fun _ => rfl⟩)
            case' false =>
              have HK' := Lib.hid (show kn = true ↔ knB b.b.f (findC (cms S)) ⟨((r', i'), s'), ps, uu, t, ⟨k, n, x, p, ds⟩⟩ (q + 1) from HK.out.trans ⟨fun h => (knB_next Hx.out).2 (.inl h), fun h => ((knB_next Hx.out).1 h).resolve_right (fun ⟨x9, hx9, h2⟩ => by
                rw [F2.out] at hx9; cases hx9
                have h2 : hasV uu1 ((r', i'), s' - 1) = true := h2
                rw [hh] at h2; cases h2)⟩)
            all_goals
              clear hh
              go_wp2_with fail
              refine And.intro (by kernel_rfl) ?_
              go_wp2_with fail
              go_loopw [10] (fun j2 wy => ∃ z : Nat, z ≤ ps.length ∧ j2 = .int .i64 z ∧ Hid (∀ y ∈ ps.take z, y ≠ ((r2, i2), s2) → hasV uu1 y = false) ∧ Hid (Bx2 w wy (ccells r' i' s' (some ad) ps.length qc ua uu.length uc t k pa p.length pc n x da ds.length dc) #[.int .u8 r', .int .u32 i', .int .u64 (s' - 1)]) ∧ Hid (Below w2.heap.size w2 wy)) (fun j2 _ => ps.length - (intOf j2).toNat)
              case atStart => exact ⟨0, Nat.zero_le _, rfl, Lib.hid (by simp), B, Lib.hid (Below.refl _ _)⟩
              case round =>
                obtain ⟨z, hz, rfl, HQ, BI, BW⟩ := hrel
                clear B
                have d0 := cells_at BI.out.c
                simp only [ccells] at d0
                have z0 := heap_lt BI.out.c
                by_cases hlz : z < ps.length
                · obtain ⟨⟨⟨r3, i3⟩, s3⟩, hy⟩ : ∃ x, ps[z]? = some x := ⟨ps[z], by simp [hlz]⟩
                  by_cases hzq : z = q
                  · have x3 : ((z : Int) != (q : Int)) = false := by rw [hzq]; simp
                    have HQ' := Lib.hid (all_snoc (p := fun y : Dt => y ≠ ((r2, i2), s2) → hasV uu1 y = false) hy HQ.out (fun hne => absurd (by rw [hzq] at hy; exact Option.some.inj (hy.symm.trans Hx.out)) hne))
                    have BI2 := Lib.hid (BI.out.step ((Below.refl _ _).drew))
                    have BW2 := Lib.hid (below2 BW.out ((Below.refl _ _).drew) BW.out.size)
                    clear hzq hy
                    go_wp2_with fail
                    refine region_text [([0, 1, 2, 3, 4, 5, 6, 7, 8, 9, 10, 11, 12, 13, 14, 15, 16, 17, 18], false)] mixed (by kernel_rfl) ?_
                    simp only [wpSegs, List.map_cons, List.map_nil, List.getD_cons_succ, List.getD_cons_zero]
                    go_wp2_with fail
                    refine And.intro (by kernel_rfl) ?_
                    go_wp2_with fail
                    go_roundw
                    case rel => exact ⟨z + 1, by omega, by go_num, HQ', BI2, BW2⟩
                    case measure => simp [intOf]; omega
                  · have x3 : ((z : Int) != (q : Int)) = true := by rw [bne_iff_ne]; omega
                    have Hne := Lib.hid (show ((r3, i3), s3) ≠ ((r2, i2), s2) from fun e => hzq ((List.getElem?_inj hlz Hnd.out).1 (by rw [hy, Hx.out, e])))
                    obtain ⟨ae, hae, e0, e1, e2, hl1⟩ := (HV.out.ps.below BI.out.bel).at hy
                    dsimp only at hae e0 e1 e2
                    obtain rfl : ad = ae := Option.some.inj hae
                    have Hy := Lib.hid hy
                    have GB := Lib.hid (H.out.below BI.out.bel)
                    obtain ⟨ag2, hag2, ⟨c0, c1, c2, c3, c4, c5, c6, c7, c8, c9, c10⟩, hlb2⟩ := GB.out.rows.at_ F3.out
                    obtain rfl : ag = ag2 := Option.some.inj hag2
                    dsimp only at c4
                    have g0 := cells_at GB.out.blk
                    simp only [rgcells] at g0
                    have gz := heap_lt GB.out.blk
                    have BWD := Lib.hid (below2 BW.out ((Below.refl _ _).drew) BW.out.size)
                    clear hae hag2 hy c0 c1 c2 c3 c5 c6 c7 c8 c9 c10 hzq
                    go_wp2_with fail
                    refine region_text [([0, 1, 2, 3, 4, 5, 6, 7, 8, 9, 10, 11, 12, 13, 14, 15, 16, 17, 18], false)] mixed (by kernel_rfl) ?_
                    simp only [wpSegs, List.map_cons, List.map_nil, List.getD_cons_succ, List.getD_cons_zero]
                    go_wp2_with fail
                    refine (rhas_any ua1 uc1 uu1 r3 i3 s3 _ (HA.out.vv.below BWD.out) (by omega)).mono ?_
                    rintro e w4 ⟨rfl, hb⟩
                    have BI2 := Lib.hid (BI.out.step (((Below.refl _ _).drew).trans hb))
                    have BW2 := Lib.hid (below2 BWD.out hb BWD.out.size)
                    clear hb d0 z0 g0 gz c4 e0 e1 e2 GB BWD
                    cases hq2 : hasV uu1 ((r3, i3), s3) with
                    | true =>
                      have Hn := Lib.hid (show ¬ ((∀ y, knN b.b.f (findC (cms S)) ⟨((r', i'), s'), ps, uu, t, ⟨k, n, x, p, ds⟩⟩ ps y ≤ getN uu y) ∧ FollowsP b.b.f (findC (cms S)) ⟨((r', i'), s'), ps, uu, t, ⟨k, n, x, p, ds⟩⟩) from fun h => by
                        have h2 := (h.2.each _ (List.mem_of_getElem? Hx.out) _ F2.out).1 _ (List.mem_of_getElem? Hy.out) Hne.out
                        have h3 : hasV uu1 ((r3, i3), s3) = false := h2
                        rw [hq2] at h3; cases h3)
                      go_wp2_with fail
                      refine And.intro (by kernel_rfl) ?_
                      go_wp2_with fail
                      go_ret
                      exact yes_name Hn.out BI2.out.bel
                    | false =>
                      have HQ' := Lib.hid (all_snoc (p := fun y : Dt => y ≠ ((r2, i2), s2) → hasV uu1 y = false) Hy.out HQ.out (fun _ => hq2))
                      clear hq2
                      go_wp2_with fail
                      refine And.intro (by kernel_rfl) ?_
                      go_wp2_with fail
                      go_roundw
                      case rel => exact ⟨z + 1, by omega, by go_num, HQ', BI2, BW2⟩
                      case measure => simp [intOf]; omega
                · have hzz : z = ps.length := by omega
                  have HE' := Lib.hid (eaB_next (c := ⟨((r', i'), s'), ps, uu, t, ⟨k, n, x, p, ds⟩⟩) Hx.out HE.out (fun x9 hx9 => by
                    rw [F2.out] at hx9; cases hx9
                    exact ⟨fun y9 hy9 => HQ.out y9 (by rw [hzz, List.take_length]; exact hy9), Ht.out⟩))
                  clear hzz HQ
                  go_wp2_with fail
                  go_roundw
                  case rel => first | exact ⟨q + 1, _, by omega, by go_num, rfl, HK', HE', BI⟩ | exact ⟨q + 1, true, by omega, by go_num, rfl, Lib.hid ⟨fun _ => HK'.out.1 trivial, fun _ => rfl⟩, HE', BI⟩
                  case measure => simp [intOf]; omega
      · have hqq : q = ps.length := by omega
        have HKa := Lib.hid (show kn = true ↔ knB b.b.f (findC (cms S)) ⟨((r', i'), s'), ps, uu, t, ⟨k, n, x, p, ds⟩⟩ ps.length from by have := HK.out; rwa [hqq] at this)
        have HEa := Lib.hid (show eaB (findC (cms S)) ⟨((r', i'), s'), ps, uu, t, ⟨k, n, x, p, ds⟩⟩ ps.length from by have := HE.out; rwa [hqq] at this)
        clear HK HE hqq
        have BD := Lib.hid (B.out.step ((Below.refl _ _).drew))
        cases kn with
        | false =>
          have Hn := Lib.hid (show ¬ ((∀ y, knN b.b.f (findC (cms S)) ⟨((r', i'), s'), ps, uu, t, ⟨k, n, x, p, ds⟩⟩ ps y ≤ getN uu y) ∧ FollowsP b.b.f (findC (cms S)) ⟨((r', i'), s'), ps, uu, t, ⟨k, n, x, p, ds⟩⟩) from fun h => by have := HKa.out.2 (knB_of h.2); cases this)
          go_wp2_with fail
          refine region_text [([0, 1, 2, 3, 4, 6, 7], false), ([5], true), ([8, 9, 10, 11], false)] mixed (by kernel_rfl) ?_
          simp only [wpSegs, List.map_cons, List.map_nil, List.getD_cons_succ, List.getD_cons_zero]
          go_wp2_with fail
          refine And.intro (Agree.refl _) ?_
          go_wp2_with fail
          refine And.intro (by kernel_rfl) ?_
          go_wp2_with fail
          go_ret
          exact yes_name Hn.out BD.out.bel
        | true =>
          have Hfol := Lib.hid (follows_of (HKa.out.1 rfl) HEa.out)
          go_wp2_with fail
          refine region_text [([0, 1, 2, 3, 4, 6, 7], false), ([5], true), ([8, 9, 10, 11], false)] mixed (by kernel_rfl) ?_
          simp only [wpSegs, List.map_cons, List.map_nil, List.getD_cons_succ, List.getD_cons_zero]
          go_wp2_with fail
          refine (knows_R pw w0 m b S la lc ⟨⟨((r', i'), s'), ps, uu, t, ⟨k, n, x, p, ds⟩⟩, qa, qc, ua, uc, pa, pc, da, dc⟩ _ (H.out.below BD.out.bel) (HV.out.below BD.out.bel) hn hm).mono ?_
          rintro e w2 ⟨K, hK, hok, hkl, a1, c1, rfl, hown, hb⟩
          have Hb := Lib.hid hb
          have HK := Lib.hid hK
          have Hv := Lib.hid (vec_of hown)
          have Hok := Lib.hid hok
          replace B := Lib.hid (BD.out.step hb)
          clear hb hown hK hok d0 z0 BD
          have d0 := cells_at B.out.c
          simp only [ccells] at d0
          have z0 := heap_lt B.out.c
          go_wp2_with fail
          refine And.intro (Agree.of_below Hb.out) ?_
          go_wp2_with fail
          refine (rwithin_any a1 ua c1 uc K uu _ Hv.out (HV.out.vv.below B.out.bel) Hok.out (by omega) (by omega)).mono ?_
          rintro e w3 ⟨rfl, hb⟩
          replace B := Lib.hid (B.out.step hb)
          have Hr := Lib.hid (show (!withinV K uu) = true ↔ ¬ ((∀ y, knN b.b.f (findC (cms S)) ⟨((r', i'), s'), ps, uu, t, ⟨k, n, x, p, ds⟩⟩ ps y ≤ getN uu y) ∧ FollowsP b.b.f (findC (cms S)) ⟨((r', i'), s'), ps, uu, t, ⟨k, n, x, p, ds⟩⟩) from by
            rw [Bool.not_eq_true', ← Bool.not_eq_true, withinV_iff Hok.out]
            refine not_congr ⟨fun h => ⟨fun y => ?_, Hfol.out⟩, fun h y => ?_⟩
            · have h2 := h y; rw [HK.out] at h2; exact h2
            · rw [HK.out]; exact h.1 y)
          clear hb
          go_wp2_with fail
          refine And.intro (by kernel_rfl) ?_
          go_wp2_with fail
          go_ret
          exact ⟨_, rfl, Hr.out, B.out.bel⟩
end Go.Proofs.YtaandcblndldmaaGreat

/- RgF -/
namespace Go.Proofs.YtaandcblndldmaaGreat
open Go.RowKit
set_option linter.unusedVariables false
set_option linter.unusedSimpArgs false

/-- what the document's Insert leaves behind -/
def RInsTo (w : World) (pw : Nat) (w0 : World) (m : Nat) (b : Bw) (S : List Cw) (v : Cw) (e : Ending) (w' : World) : Prop :=
  e = .returned (.int .i64 (insE b.b.f (findC (cms S)) S.length v.c)) ∧ ((insE b.b.f (findC (cms S)) S.length v.c ≠ 0 ∧ Below w.heap.size w w') ∨
    (insE b.b.f (findC (cms S)) S.length v.c = 0 ∧ ∃ (la' : Option Addr) (lc' : Nat), RgAt w' pw w0 m b (putC S v) la' lc' ∧ Chg [pw] w w'))
theorem RInsTo.no {w : World} {pw : Nat} {w0 : World} {m : Nat} {b : Bw} {S : List Cw} {v : Cw} {w' : World} {k : Int} (h : insE b.b.f (findC (cms S)) S.length v.c = k) (hk : k ≠ 0) (hb : Below w.heap.size w w') : RInsTo w pw w0 m b S v (.returned (.int .i64 k)) w' :=
  ⟨by rw [h], .inl ⟨by rw [h]; exact hk, hb⟩⟩
theorem getD_at {S : List Cw} {k : Nat} {v : Cw} (h : S[k]? = some v) : (cms S)[k]? = some v.c := by unfold cms; rw [List.getElem?_map, h]; rfl
/-- does the loop go on at k -/
def goB (S : List Cw) (c : Cm) (k : Nat) : Bool := match (cms S)[k]? with | some x => ltCb x c | none => false
theorem goB_some {S : List Cw} {c : Cm} {k : Nat} {v : Cw} (h : S[k]? = some v) : goB S c k = ltCb v.c c := by unfold goB; rw [getD_at h]
theorem goB_none {S : List Cw} {c : Cm} {k : Nat} (h : S.length ≤ k) : goB S c k = false := by unfold goB; rw [List.getElem?_eq_none (by unfold cms; simpa using h)]
theorem RgAt.put {w w3 w4 : World} {pw : Nat} {w0 : World} {m : Nat} {b : Bw} {S : List Cw} {la la' : Option Addr} {lc lc' : Nat} {v : Cw} {base : Nat} (h : RgAt w pw w0 m b S la lc) (hb : Below w.heap.size w w3) (hv : CwAt w0 v) (hM : CmP v.c) (hn : findC (cms S) v.c.d = none) (hl : S.length < 200)
    (hlt : pw < w.heap.size) (hbase : w.heap.size ≤ base) (ho : OwnC w3 base la' lc' (putC S v)) (he : w4 = w3.setCell ⟨pw, 5, none⟩ (.slice la' (putC S v).length lc')) :
    RgAt w4 pw w0 m b (putC S v) la' lc' ∧ Chg [pw] w w4 := by
  subst he
  have p3 := (hb.block _ (heap_lt h.blk)).trans h.blk
  have hC := Chg.setCell w3 ⟨pw, 5, none⟩ (.slice la' (putC S v).length lc')
  have hC2 : Chg [pw] w (w3.setCell ⟨pw, 5, none⟩ (.slice la' (putC S v).length lc')) := (Chg.of_below (F := [pw]) hb).trans hC (fun x hx _ => hx)
  have hnd : ∀ y ∈ cms S, y.d ≠ v.c.d := fun y hy => findC_none.1 hn y hy
  refine ⟨⟨heap_setC p3 5 _, h.bel.trans (hC2.below h.bel.size (by simpa using h.lt)), h.lt, h.base, OwnC.base (OwnC.chg ho hC (fun k hk => ?_)) (by omega), fun u hu => ?_, putC_sorted h.sorted hnd, ?_, fun u hu => ?_, by rw [putC_len]; omega, h.canon⟩, hC2⟩
  · have := (owns_lt ho k hk).1
    simp; omega
  · rcases putC_mem hu with hu | rfl
    · exact h.each u hu
    · exact hv
  · refine (((putC_perm S v).map (·.d)).nodup_iff).2 ?_
    rw [List.map_append, List.nodup_append]
    refine ⟨h.nodup, by simp, fun a ha c hc => ?_⟩
    simp at hc
    subst hc
    intro e
    obtain ⟨y, hy, rfl⟩ := List.mem_map.1 ha
    exact hnd y hy e
  · rcases putC_mem hu with hu | rfl
    · exact h.may u hu
    · exact hM
set_option maxRecDepth 100000 in
set_option maxHeartbeats 16000000 in
theorem insert_R (pw : Nat) (w0 : World) (m : Nat) (b : Bw) (S : List Cw) (la : Option Addr) (lc : Nat) (v : Cw) (w : World) (h : RgAt w pw w0 m b S la lc) (hv : CwAt w0 v) (hn : v.c.vv.length ≤ 100000) :
    Calls Tryz.prog 55 #[.pointer (some ⟨pw, 0, none⟩), .agg (cwcells v)] w (RInsTo w pw w0 m b S v) := by
  obtain ⟨⟨⟨⟨r, i⟩, s⟩, ps, uu, t, ⟨k, n, x, p, ds⟩⟩, qa, qc, ua, uc, pa, pc, da, dc⟩ := v
  have H := Lib.hid h
  have HV0 := Lib.hid hv
  have HV := Lib.hid (hv.below h.bel)
  have hpg := heap_lt h.blk
  have hfew := h.few
  have hll := h.row.cms.2.1
  have B0 : Hid (BoxE 54 w (w.alloc (.cells (ccells r i s qa ps.length qc ua uu.length uc t k pa p.length pc n x da ds.length dc) 54)) (ccells r i s qa ps.length qc ua uu.length uc t k pa p.length pc n x da ds.length dc)) := Lib.hid ⟨heap_new _ _, (Below.refl _ _).alloc (Nat.le_refl _) _⟩
  dsimp only at hn
  clear h hv
  simp only [cwcells]
  go_enter Tryz.func55, Tryz.ntmps55
  go_wp2_with fail
  refine (rmayC_any ⟨⟨((r, i), s), ps, uu, t, ⟨k, n, x, p, ds⟩⟩, qa, qc, ua, uc, pa, pc, da, dc⟩ _ (HV.out.below B0.out.bel) (by dsimp only; omega)).mono ?_
  intro e w1 hto
  obtain ⟨z, rfl, hz, hb⟩ := hto
  have B := Lib.hid (B0.out.step hb)
  have Hz := Lib.hid hz
  clear hb hz B0
  have d0 := cells_at B.out.blk
  simp only [ccells] at d0
  have z0 := heap_lt B.out.blk
  cases z with
  | false =>
    have Hn := Lib.hid (show ¬ CmP ⟨((r, i), s), ps, uu, t, ⟨k, n, x, p, ds⟩⟩ from fun h => by have := Hz.out.2 h; cases this)
    go_wp2_with fail
    go_ret
    exact RInsTo.no (insE_may Hn.out) (by decide) B.out.bel
  | true =>
    have HM := Lib.hid (Hz.out.1 rfl)
    clear Hz
    go_wp2_with fail
    refine (has_R pw w0 m b S la lc r i s _ (H.out.below B.out.bel)).mono ?_
    rintro e w2 ⟨rfl, hb⟩
    replace B := Lib.hid (B.out.step hb)
    clear hb d0 z0
    have d0 := cells_at B.out.blk
    simp only [ccells] at d0
    have z0 := heap_lt B.out.blk
    cases hh : hasG b.b.f (findC (cms S)) ((r, i), s) with
    | true =>
      have Hh := Lib.hid hh
      go_wp2_with fail
      go_ret
      exact RInsTo.no (insE_twice HM.out Hh.out) (by decide) B.out.bel
    | false =>
      have Hh := Lib.hid hh
      have hs1 : 1 ≤ s := ((may_iff _).1 HM.out.dot).2.1
      have hs2 : s ≤ 1048576 := ((may_iff _).1 HM.out.dot).2.2
      have hf1 : ps.length ≤ 64 := HM.out.few
      have Hnd := Lib.hid (show ps.Nodup from ltD_nodup HM.out.ps.1)
      have HA : Hid (Below w2.heap.size w2 (w2.alloc (.cells #[.int .u8 r, .int .u32 i, .int .u64 (s - 1)] 49))) := Lib.hid ((Below.refl _ _).alloc (Nat.le_refl _) _)
      have HA2 := Lib.hid (below2 B.out.bel HA.out B.out.bel.size)
      clear hh
      go_wp2_with fail
      refine (gap_R pw w0 m b S la lc ⟨⟨((r, i), s), ps, uu, t, ⟨k, n, x, p, ds⟩⟩, qa, qc, ua, uc, pa, pc, da, dc⟩ r i s _ (H.out.below HA2.out) (HV.out.below HA2.out) rfl hs1 (by dsimp only; omega) (by dsimp only; omega)).mono ?_
      intro e w3 hto
      obtain ⟨z, rfl, hz, hb⟩ := hto
      have Hz := Lib.hid hz
      have D0 : Hid (BoxE 49 w2 w3 #[.int .u8 r, .int .u32 i, .int .u64 (s - 1)]) := Lib.hid (BoxE.of hb)
      replace B := Lib.hid (B.out.step D0.out.bel)
      clear hb hz d0 z0 HA HA2
      have d0 := cells_at B.out.blk
      simp only [ccells] at d0
      have z0 := heap_lt B.out.blk
      have d1 := cells_at D0.out.blk
      have z1 := heap_lt D0.out.blk
      cases z with
      | true =>
        have Hn := Lib.hid (Hz.out.1 rfl)
        go_wp2_with fail
        go_ret
        exact RInsTo.no (insE_gap HM.out Hh.out Hn.out) (by decide) B.out.bel
      | false =>
        have HG := Lib.hid (show GapP b.b.f (findC (cms S)) ⟨((r, i), s), ps, uu, t, ⟨k, n, x, p, ds⟩⟩ from Classical.byContradiction fun h => by have := Hz.out.2 h; cases this)
        clear Hz
        go_wp2_with fail
        refine (wrong_R pw w0 m b S la lc ⟨⟨((r, i), s), ps, uu, t, ⟨k, n, x, p, ds⟩⟩, qa, qc, ua, uc, pa, pc, da, dc⟩ r i s _ (H.out.below B.out.bel) (HV.out.below B.out.bel) rfl hs1 Hnd.out (by dsimp only; omega) (by dsimp only; omega)).mono ?_
        intro e w4 hto
        obtain ⟨z, rfl, hz, hb⟩ := hto
        have Hz := Lib.hid hz
        replace B := Lib.hid (B.out.step hb)
        clear hb hz d0 z0 d1 z1 D0
        have d0 := cells_at B.out.blk
        simp only [ccells] at d0
        have z0 := heap_lt B.out.blk
        cases z with
        | true =>
          have Hn := Lib.hid (Hz.out.1 rfl)
          go_wp2_with fail
          go_ret
          exact RInsTo.no (insE_form HM.out Hh.out HG.out Hn.out) (by decide) B.out.bel
        | false =>
          have HF := Lib.hid (show (∀ y, knN b.b.f (findC (cms S)) ⟨((r, i), s), ps, uu, t, ⟨k, n, x, p, ds⟩⟩ ps y ≤ getN uu y) ∧ FollowsP b.b.f (findC (cms S)) ⟨((r, i), s), ps, uu, t, ⟨k, n, x, p, ds⟩⟩ from Classical.byContradiction fun h => by have := Hz.out.2 h; cases this)
          clear Hz
          have RB := Lib.hid (H.out.below B.out.bel)
          have g0 := cells_at RB.out.blk
          simp only [rgcells] at g0
          have gz := heap_lt RB.out.blk
          by_cases hfull : 200 ≤ S.length
          · have Hfull := Lib.hid hfull
            have x1 : decide ((200 : Int) ≤ (S.length : Int)) = true := decide_eq_true (by omega)
            go_wp2_with fail
            go_ret
            exact RInsTo.no (insE_full HM.out Hh.out HG.out HF.out Hfull.out) (by decide) B.out.bel
          · have x1 : decide ((200 : Int) ≤ (S.length : Int)) = false := decide_eq_false (by omega)
            have HO := Lib.hid (insE_ok HM.out Hh.out HG.out HF.out (by omega : S.length < 200))
            go_wp2_with fail
            clear d0 z0 g0 gz RB x1
            go_loopw [6] (fun j wr => ∃ q : Nat, q ≤ S.length ∧ j = .int .i64 q ∧ Hid (∀ y ∈ (cms S).take q, ltCb y ⟨((r, i), s), ps, uu, t, ⟨k, n, x, p, ds⟩⟩ = true) ∧ Hid (BoxE 54 w wr (ccells r i s qa ps.length qc ua uu.length uc t k pa p.length pc n x da ds.length dc))) (fun j _ => S.length - (intOf j).toNat)
            case atStart => exact ⟨0, Nat.zero_le _, rfl, Lib.hid (by simp), B⟩
            case round =>
              obtain ⟨q, hq, rfl, HL, B2⟩ := hrel
              clear B
              have B2D := Lib.hid (B2.out.step ((Below.refl _ _).drew))
              have d0 := cells_at B2.out.blk
              simp only [ccells] at d0
              have z0 := heap_lt B2.out.blk
              have RB := Lib.hid (H.out.below B2.out.bel)
              have g0 := cells_at RB.out.blk
              simp only [rgcells] at g0
              have gz := heap_lt RB.out.blk
              go_upto_region 14 with (fail)
              go_cut [80] (fun u wx => u = .bool (goB S ⟨((r, i), s), ps, uu, t, ⟨k, n, x, p, ds⟩⟩ q) ∧ Hid (BoxE 54 w wx (ccells r i s qa ps.length qc ua uu.length uc t k pa p.length pc n x da ds.length dc)))
              case first =>
                by_cases hlt : q < S.length
                · have x1 : decide ((q : Int) < (S.length : Int)) = true := decide_eq_true (by omega)
                  obtain ⟨v1, hv1⟩ : ∃ v, S[q]? = some v := ⟨S[q], by simp [hlt]⟩
                  obtain ⟨ag, hag, ⟨c0, c1, c2, c3, c4, c5, c6, c7, c8, c9, c10⟩, hlb⟩ := RB.out.rows.at_ hv1
                  subst hag
                  have HG1 := Lib.hid (goB_some (c := ⟨((r, i), s), ps, uu, t, ⟨k, n, x, p, ds⟩⟩) hv1)
                  clear hv1 c3 c4 c6 c7 c8 c9 c10
                  obtain ⟨⟨⟨⟨r1, i1⟩, s1⟩, ps1, uu1, t1, ⟨k1, n1, x1', p1, ds1⟩⟩, qa1, qc1, ua1, uc1, pa1, pc1, da1, dc1⟩ := v1
                  dsimp only at c0 c1 c2 c5
                  by_cases ht : t1 < t
                  · have x2 : decide (t1 < t) = true := decide_eq_true ht
                    have Ht := Lib.hid ht
                    clear ht
                    go_wp2_with fail
                    refine region_text [([0, 1, 2, 3, 4, 5, 6, 7, 8, 9, 10, 11, 12, 13, 14, 15, 16, 17, 18, 19, 20, 21, 22, 23, 24, 25, 26, 27, 28, 29, 30, 31, 32, 33, 34, 35, 36, 37, 38, 39, 40, 41, 42, 43, 44, 45], false)] mixed (by kernel_rfl) ?_
                    simp only [wpSegs, List.map_cons, List.map_nil, List.getD_cons_succ, List.getD_cons_zero]
                    go_wp2_with fail
                    refine And.intro (by kernel_rfl) ?_
                    go_wp2_with fail
                    go_meet
                    refine ⟨?_, B2D⟩
                    rw [HG1.out]; unfold ltCb
                    rw [decide_eq_true (show t1 < t from Ht.out)]; rfl
                  · have x2 : decide (t1 < t) = false := decide_eq_false ht
                    by_cases he : t1 = t
                    · have x3 : (t1 == t) = true := by rw [beq_iff_eq]; exact he
                      have He := Lib.hid he
                      have Ht := Lib.hid ht
                      clear he ht
                      go_wp2_with fail
                      refine region_text [([0, 1, 2, 3, 4, 5, 6, 7, 8, 9, 10, 11, 12, 13, 14, 15, 16, 17, 18, 19, 20, 21, 22, 23, 24, 25, 26, 27, 28, 29, 30, 31, 32, 33, 34, 35, 36, 37, 38, 39, 40, 41, 42, 43, 44, 45], false)] mixed (by kernel_rfl) ?_
                      simp only [wpSegs, List.map_cons, List.map_nil, List.getD_cons_succ, List.getD_cons_zero]
                      go_wp2_with fail
                      refine (rless_any r1 i1 s1 r i s _).mono ?_
                      rintro e w6 ⟨rfl, hb⟩
                      have B3 := Lib.hid (B2.out.step (((Below.refl _ _).drew).trans hb))
                      clear hb
                      go_wp2_with fail
                      refine And.intro (by kernel_rfl) ?_
                      go_wp2_with fail
                      go_meet
                      refine ⟨?_, B3⟩
                      rw [HG1.out]; unfold ltCb
                      rw [decide_eq_false (show ¬ t1 < t by have := Ht.out; omega), decide_eq_true (show t1 = t from He.out)]; rfl
                    · have x3 : (t1 == t) = false := by rw [beq_eq_false_iff_ne]; exact he
                      have He := Lib.hid he
                      have Ht := Lib.hid ht
                      clear he ht
                      go_wp2_with fail
                      refine region_text [([0, 1, 2, 3, 4, 5, 6, 7, 8, 9, 10, 11, 12, 13, 14, 15, 16, 17, 18, 19, 20, 21, 22, 23, 24, 25, 26, 27, 28, 29, 30, 31, 32, 33, 34, 35, 36, 37, 38, 39, 40, 41, 42, 43, 44, 45], false)] mixed (by kernel_rfl) ?_
                      simp only [wpSegs, List.map_cons, List.map_nil, List.getD_cons_succ, List.getD_cons_zero]
                      go_wp2_with fail
                      refine And.intro (by kernel_rfl) ?_
                      go_wp2_with fail
                      go_meet
                      refine ⟨?_, B2D⟩
                      rw [HG1.out]; unfold ltCb
                      rw [decide_eq_false (show ¬ t1 < t by have := Ht.out; omega), decide_eq_false (show ¬ t1 = t from He.out)]; rfl
                · have x1 : decide ((q : Int) < (S.length : Int)) = false := decide_eq_false (by omega)
                  have HG1 := Lib.hid (goB_none (c := ⟨((r, i), s), ps, uu, t, ⟨k, n, x, p, ds⟩⟩) (by omega : S.length ≤ q))
                  go_wp2_with fail
                  refine region_text [([0, 1, 2, 3, 4, 5, 6, 7, 8, 9, 10, 11, 12, 13, 14, 15, 16, 17, 18, 19, 20, 21, 22, 23, 24, 25, 26, 27, 28, 29, 30, 31, 32, 33, 34, 35, 36, 37, 38, 39, 40, 41, 42, 43, 44, 45], false)] mixed (by kernel_rfl) ?_
                  simp only [wpSegs, List.map_cons, List.map_nil, List.getD_cons_succ, List.getD_cons_zero]
                  go_wp2_with fail
                  refine And.intro (by kernel_rfl) ?_
                  go_wp2_with fail
                  go_meet
                  exact ⟨by rw [HG1.out], B2D⟩
              case rest =>
                obtain ⟨rfl, B3⟩ := hcut
                clear d0 z0 g0 gz RB B2 B2D
                cases hgo : goB S ⟨((r, i), s), ps, uu, t, ⟨k, n, x, p, ds⟩⟩ q with
                | true =>
                  have hlt : q < S.length := Classical.byContradiction fun h => by rw [goB_none (by omega)] at hgo; cases hgo
                  have HL' := Lib.hid (show ∀ y ∈ (cms S).take (q + 1), ltCb y ⟨((r, i), s), ps, uu, t, ⟨k, n, x, p, ds⟩⟩ = true from by
                    obtain ⟨v1, hv1⟩ : ∃ v, S[q]? = some v := ⟨S[q], by simp [hlt]⟩
                    rw [goB_some hv1] at hgo
                    exact all_snoc (p := fun y : Cm => ltCb y ⟨((r, i), s), ps, uu, t, ⟨k, n, x, p, ds⟩⟩ = true) (getD_at hv1) HL.out hgo)
                  clear hgo
                  go_wp2_with fail
                  go_roundw
                  case rel => exact ⟨q + 1, by omega, by go_num, HL', B3⟩
                  case measure => simp [intOf]; omega
                | false =>
                  have HPl := Lib.hid (show plC (cms S) ⟨((r, i), s), ps, uu, t, ⟨k, n, x, p, ds⟩⟩ = q from plC_of (by unfold cms; simpa using hq) HL.out (fun y hy => by unfold goB at hgo; rw [hy] at hgo; exact hgo))
                  clear hgo
                  obtain ⟨U, hU, hUr, hUs⟩ := keepC la lc S q hq hll
                  obtain ⟨xa, xc, V, hV, hVr, hVs⟩ := cutC la lc S q hq hll
                  have HPut := Lib.hid (show putC S ⟨⟨((r, i), s), ps, uu, t, ⟨k, n, x, p, ds⟩⟩, qa, qc, ua, uc, pa, pc, da, dc⟩ = (U ++ [⟨⟨((r, i), s), ps, uu, t, ⟨k, n, x, p, ds⟩⟩, qa, qc, ua, uc, pa, pc, da, dc⟩]) ++ V from by unfold putC; dsimp only; rw [HPl.out, hU, hV]; simp)
                  have hUl : U.length ≤ 200 := by rw [hU]; simp; omega
                  have hVl : V.length ≤ 200 := by rw [hV]; simp; omega
                  have HUs := Lib.hid hUs
                  have HVs := Lib.hid hVs
                  clear hU hV hUs hVs
                  obtain ⟨wa, hwa⟩ : ∃ wa, wa = wc := ⟨_, rfl⟩
                  subst hwa
                  have d0 := cells_at B3.out.blk
                  simp only [ccells] at d0
                  have z0 := heap_lt B3.out.blk
                  have RB := Lib.hid (H.out.below B3.out.bel)
                  have g0 := cells_at RB.out.blk
                  simp only [rgcells] at g0
                  have gz := heap_lt RB.out.blk
                  have A1 : Hid (Below wa.heap.size wa (wa.alloc (.cells #[] 54))) := Lib.hid ((Below.refl _ _).alloc (Nat.le_refl _) _)
                  go_wp2_with (at_builtin; go_must (refine wpList_appC rfl _ _ rfl wa.heap.size (some ⟨wa.heap.size, 0, none⟩) 0 [] rfl (OwnC.made wa (Nat.le_refl _)) la lc U rfl (HUs.out _ (RB.out.below A1.out).row.cms) ?n1 ?b1 ?_))
                  case n1 => simp; omega
                  case b1 => simp
                  intro v1 a1 c1 wb hv1 ho1 hb1 hc1 hn1
                  have Hv1 := Lib.hid (show v1 = U from hv1)
                  have hl1 : v1.length ≤ 200 := by rw [Hv1.out]; exact hUl
                  have Hb1 := Lib.hid (A1.out.trans hb1)
                  have Ho1 := Lib.hid ho1
                  have B4 := Lib.hid (B3.out.step Hb1.out)
                  clear hv1 ho1 hb1 hc1 hn1 d0 z0 g0 gz hUr
                  have d0 := cells_at B4.out.blk
                  simp only [ccells] at d0
                  have z0 := heap_lt B4.out.blk
                  have A2 : Hid (Below wb.heap.size wb (wb.alloc (.cells (ccells r i s qa ps.length qc ua uu.length uc t k pa p.length pc n x da ds.length dc) 54))) := Lib.hid ((Below.refl _ _).alloc (Nat.le_refl _) _)
                  go_wp2_with (at_builtin; go_must (refine wpList_appC rfl _ _ rfl wa.heap.size a1 c1 v1 rfl (OwnC.below Ho1.out A2.out) (some ⟨wb.heap.size, 0, none⟩) 1 [⟨⟨((r, i), s), ps, uu, t, ⟨k, n, x, p, ds⟩⟩, qa, qc, ua, uc, pa, pc, da, dc⟩] rfl (cm_one ⟨⟨((r, i), s), ps, uu, t, ⟨k, n, x, p, ds⟩⟩, qa, qc, ua, uc, pa, pc, da, dc⟩ (heap_new _ _)) ?n2 ?b2 ?_))
                  case n2 => simp; omega
                  case b2 => exact Nat.le_trans Hb1.out.size A2.out.size
                  intro v2 a2 c2 wd hv2 ho2 hb2 hc2 hn2
                  have Hv2 := Lib.hid (show v2 = U ++ [⟨⟨((r, i), s), ps, uu, t, ⟨k, n, x, p, ds⟩⟩, qa, qc, ua, uc, pa, pc, da, dc⟩] by rw [hv2, Hv1.out])
                  have hl2 : v2.length ≤ 201 := by rw [Hv2.out]; simp; omega
                  have Hb2 := Lib.hid ((below2 Hb1.out A2.out Hb1.out.size).trans hb2)
                  have Ho2 := Lib.hid ho2
                  have RB2 := Lib.hid (RB.out.below Hb2.out)
                  clear hv2 ho2 hb2 hc2 hn2 d0 z0 A2 B4 Ho1
                  have g0 := cells_at RB2.out.blk
                  simp only [rgcells] at g0
                  have gz := heap_lt RB2.out.blk
                  go_wp2_with (at_builtin; go_must (refine wpList_appC rfl _ _ rfl wa.heap.size a2 c2 v2 rfl Ho2.out xa xc V rfl (HVs.out _ RB2.out.row.cms) ?n3 ?b3 ?_))
                  case n3 => omega
                  case b3 => exact Hb2.out.size
                  intro v3 a3 c3 we hv3 ho3 hb3 hc3 hn3
                  have Hv3 := Lib.hid (show v3 = putC S ⟨⟨((r, i), s), ps, uu, t, ⟨k, n, x, p, ds⟩⟩, qa, qc, ua, uc, pa, pc, da, dc⟩ by rw [hv3, Hv2.out, HPut.out])
                  have Hb3 := Lib.hid (Hb2.out.trans hb3)
                  have Ho3 := Lib.hid ho3
                  clear hv3 ho3 hb3 hc3 hn3 g0 gz Ho2
                  have RB3 := Lib.hid (RB.out.below Hb3.out)
                  have g0 := cells_at RB3.out.blk
                  simp only [rgcells] at g0
                  have gf := free_at RB3.out.blk
                  have gz := heap_lt RB3.out.blk
                  go_wp2_with fail
                  have HBl := Lib.hid (below2 B3.out.bel Hb3.out B3.out.bel.size)
                  have hba := B3.out.bel.size
                  have Hfin := Lib.hid (RgAt.put (v := ⟨⟨((r, i), s), ps, uu, t, ⟨k, n, x, p, ds⟩⟩, qa, qc, ua, uc, pa, pc, da, dc⟩) (la' := a3) (lc' := c3) (base := wa.heap.size) H.out HBl.out HV0.out HM.out (by
                    have h1 := Hh.out
                    unfold hasG at h1
                    rw [Bool.or_eq_false_iff] at h1
                    cases hf : findC (cms S) ((r, i), s) with
                    | none => rfl
                    | some y => rw [hf] at h1; cases h1.1) (by omega) hpg hba (by rw [← Hv3.out]; exact Ho3.out) rfl)
                  go_ret
                  refine ⟨by rw [HO.out]; rfl, .inr ⟨HO.out, a3, c3, ?_⟩⟩
                  have h9 := Hfin.out
                  rw [← Hv3.out] at h9
                  rw [← Hv3.out]
                  exact h9
end Go.Proofs.YtaandcblndldmaaGreat
