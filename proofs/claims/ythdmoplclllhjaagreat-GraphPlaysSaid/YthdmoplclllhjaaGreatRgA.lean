/- The document's graph, plainly: commits in order, one more in its place. No program in sight. | What holds of each commit that was inserted: it could be inserted. What it knows, it knows by a parent. No program in sight. | varveref11.listed, Event, May: the contracts. | The document's graph in memory; rows of commits put together. -/
import Derived.Test.YthdmoplclllhjaaGreatGraQ
import Derived.Test.YthdmoplclllhjaaGreatGraP
import Derived.Test.YthdmoplclllhjaaGreatHistP
import Derived.Test.YthdmoplclllhjaaGreatAqA
import Derived.Test.YthdmoplclllhjaaGreatRMbA
import Derived.Test.YthdmoplclllhjaaGreatWidB
/- RgP -/
namespace Go.Proofs.YthdmoplclllhjaaGreat
open Go.RowKit
set_option linter.unusedVariables false
set_option linter.unusedSimpArgs false

def ltCb (a b : Cm) : Bool := decide (a.t < b.t) || (decide (a.t = b.t) && lessD a.d b.d)
theorem ltCb_iff {a b : Cm} : ltCb a b = true ↔ ltC a b := by unfold ltCb ltC; simp
/-- where a commit's place is -/
def plC (S : List Cm) (c : Cm) : Nat := (S.takeWhile fun x => ltCb x c).length
theorem plC_of {S : List Cm} {c : Cm} {k : Nat} (hk : k ≤ S.length) (h1 : ∀ x ∈ S.take k, ltCb x c = true) (h2 : ∀ x, S[k]? = some x → ltCb x c = false) : plC S c = k := by
  unfold plC
  have e : S = S.take k ++ S.drop k := (List.take_append_drop k S).symm
  have hd : (S.drop k).takeWhile (fun x => ltCb x c) = [] := by
    cases hh : S.drop k with
    | nil => rfl
    | cons y r =>
      have hy : S[k]? = some y := by rw [← List.head?_drop, hh]; rfl
      rw [List.takeWhile_cons, h2 y hy]; rfl
  rw [e, List.takeWhile_append_of_pos h1, hd]
  simp; omega
/-- one more in its place -/
def putC (S : List Cw) (u : Cw) : List Cw := S.take (plC (cms S) u.c) ++ u :: S.drop (plC (cms S) u.c)
theorem cms_putC (S : List Cw) (u : Cw) : cms (putC S u) = (cms S).take (plC (cms S) u.c) ++ u.c :: (cms S).drop (plC (cms S) u.c) := by
  unfold putC
  simp [cms, List.map_take, List.map_drop]
theorem putC_perm (S : List Cw) (u : Cw) : (cms (putC S u)).Perm (cms S ++ [u.c]) := by
  rw [cms_putC]
  have h1 : ((cms S).take (plC (cms S) u.c) ++ u.c :: (cms S).drop (plC (cms S) u.c)).Perm (u.c :: ((cms S).take (plC (cms S) u.c) ++ (cms S).drop (plC (cms S) u.c))) := List.perm_middle
  rw [List.take_append_drop] at h1
  exact h1.trans (List.perm_append_comm (l₁ := [u.c]) (l₂ := cms S))
theorem putC_len (S : List Cw) (u : Cw) : (putC S u).length = S.length + 1 := by
  have := (putC_perm S u).length_eq
  simpa [cms] using this
theorem putC_mem {S : List Cw} {u v : Cw} (h : v ∈ putC S u) : v ∈ S ∨ v = u := by
  unfold putC at h
  rcases List.mem_append.1 h with h | h
  · exact .inl (List.mem_of_mem_take h)
  · rcases List.mem_cons.1 h with h | h
    · exact .inr h
    · exact .inl (List.mem_of_mem_drop h)
theorem plC_cons (a : Cm) (S : List Cm) (c : Cm) : plC (a :: S) c = if ltCb a c = true then plC S c + 1 else 0 := by
  unfold plC
  rw [List.takeWhile_cons]
  split <;> simp
theorem plC_low {S : List Cm} {c x : Cm} (h : x ∈ S.take (plC S c)) : ltC x c := by
  induction S with
  | nil => simp at h
  | cons a S ih =>
    rw [plC_cons] at h
    by_cases e : ltCb a c = true
    · rw [if_pos e, List.take_succ_cons] at h
      rcases List.mem_cons.1 h with rfl | h
      · exact ltCb_iff.1 e
      · exact ih h
    · rw [if_neg e] at h; simp at h
theorem plC_high {S : List Cm} {c y : Cm} (h : S[plC S c]? = some y) : ¬ ltC y c := by
  induction S with
  | nil => simp at h
  | cons a S ih =>
    rw [plC_cons] at h
    by_cases e : ltCb a c = true
    · rw [if_pos e, List.getElem?_cons_succ] at h
      exact ih h
    · rw [if_neg e, List.getElem?_cons_zero] at h
      cases h
      exact fun hl => e (ltCb_iff.2 hl)
theorem putC_sorted {S : List Cw} {u : Cw} (hs : SortedC (cms S)) (hn : ∀ x ∈ cms S, x.d ≠ u.c.d) : SortedC (cms (putC S u)) := by
  rw [cms_putC]
  generalize hS : cms S = T at *
  generalize u.c = c at *
  unfold SortedC at *
  have hhigh : ∀ x ∈ T.drop (plC T c), ltC c x := fun x hx => by
    cases hh : T.drop (plC T c) with
    | nil => rw [hh] at hx; cases hx
    | cons y r =>
      have hy : T[plC T c]? = some y := by rw [← List.head?_drop, hh]; rfl
      have h0 := plC_high hy
      have hym : y ∈ T := List.mem_of_getElem? hy
      have h1 : ltC c y := (ltC_total (hn y hym)).resolve_left h0
      rw [hh] at hx
      rcases List.mem_cons.1 hx with rfl | hx
      · exact h1
      · have hp : (T.drop (plC T c)).Pairwise ltC := hs.sublist (List.drop_sublist _ _)
        rw [hh, List.pairwise_cons] at hp
        exact ltC_trans h1 (hp.1 x hx)
  rw [List.pairwise_append]
  refine ⟨hs.sublist (List.take_sublist _ _), List.pairwise_cons.2 ⟨hhigh, hs.sublist (List.drop_sublist _ _)⟩, fun a ha b hb => ?_⟩
  have h1 := plC_low ha
  rcases List.mem_cons.1 hb with rfl | hb
  · exact h1
  · exact ltC_trans h1 (hhigh b hb)
/-- the same by any order -/
theorem findC_perm {L M : List Cm} (hp : L.Perm M) (hn : (L.map (·.d)).Nodup) : findC L = findC M := by
  have hm : (M.map (·.d)).Nodup := (hp.map _).nodup_iff.1 hn
  funext d
  cases hf : findC M d with
  | none => rw [findC_none] at hf ⊢; exact fun c hc => hf c (hp.mem_iff.1 hc)
  | some c =>
    obtain ⟨h1, rfl⟩ := findC_some hf
    exact findC_mem hn (hp.mem_iff.2 h1)
/-- the first place of a dot, or -1 -/
def ixC (S : List Cw) (d : Dt) : Int := match S.findIdx? (fun v => decide (v.c.d = d)) with | some k => (k : Int) | none => -1
theorem ixC_none {S : List Cw} {d : Dt} (h : ∀ v ∈ S, v.c.d ≠ d) : ixC S d = -1 := by
  unfold ixC
  rw [List.findIdx?_eq_none_iff.2 (fun v hv => by simpa using h v hv)]
theorem ixC_some {S : List Cw} {d : Dt} {k : Nat} {v : Cw} (hv : S[k]? = some v) (hd : v.c.d = d) (hb : ∀ u ∈ S.take k, u.c.d ≠ d) : ixC S d = (k : Int) := by
  unfold ixC
  have hk := (List.getElem?_eq_some_iff.1 hv)
  obtain ⟨hlt, hg⟩ := hk
  rw [(List.findIdx?_eq_some_iff_getElem).2 ⟨hlt, by rw [hg]; simpa using hd, fun j hj => by
    have : S[j] ∈ S.take k := List.mem_take_iff_getElem.2 ⟨j, by omega, rfl⟩
    simpa using hb _ this⟩]
theorem ixC_cases (S : List Cw) (d : Dt) : (ixC S d = -1 ∧ findC (cms S) d = none) ∨ ∃ (k : Nat) (v : Cw), ixC S d = (k : Int) ∧ S[k]? = some v ∧ v.c.d = d ∧ findC (cms S) d = some v.c := by
  cases hh : S.findIdx? (fun v => decide (v.c.d = d)) with
  | none =>
    refine .inl ⟨by unfold ixC; rw [hh], ?_⟩
    rw [List.findIdx?_eq_none_iff] at hh
    rw [findC_none]
    intro c hc
    obtain ⟨v, hv, rfl⟩ := List.mem_map.1 hc
    simpa using hh v hv
  | some k =>
    obtain ⟨hk, h1, h2⟩ := List.findIdx?_eq_some_iff_getElem.1 hh
    have h1 : S[k].c.d = d := by simpa using h1
    refine .inr ⟨k, S[k], by unfold ixC; rw [hh], by simp [hk], h1, ?_⟩
    rw [← fdW_c]
    unfold fdW
    rw [show S.find? (fun v => decide (v.c.d = d)) = some S[k] from ?_]
    · rfl
    · rw [List.find?_eq_some_iff_getElem]
      exact ⟨by simpa using h1, k, hk, rfl, fun j hj => by have := h2 j hj; simpa using this⟩
end Go.Proofs.YthdmoplclllhjaaGreat

/- HistI -/
namespace Go.Proofs.YthdmoplclllhjaaGreat
open Go.RowKit
set_option linter.unusedVariables false
set_option linter.unusedSimpArgs false

theorem knN_congr {F : List Dt} {fd fd' : Fd} {c : Cm} {x : Ac} : ∀ {ps : List Dt}, (∀ p ∈ ps, fd p = fd' p) → knN F fd c ps x = knN F fd' c ps x := by
  intro ps
  induction ps using snoc_rec with
  | h0 => intro _; rfl
  | h1 ps p ih =>
    intro h
    rw [knN_snoc, knN_snoc, ih fun q hq => h q (List.mem_append_left _ hq), h p (by simp)]
theorem FollowsP.congr {F : List Dt} {fd fd' : Fd} {c : Cm} (h : FollowsP F fd c) (e : ∀ p ∈ c.ps, fd p = fd' p) : FollowsP F fd' c := by
  refine ⟨?_, fun p hp x hx => h.each p hp x (by rw [e p hp]; exact hx)⟩
  rcases h.known with h1 | h1 | ⟨p, hp, x, hx, h1⟩
  · exact .inl h1
  · exact .inr (.inl h1)
  · exact .inr (.inr ⟨p, hp, x, by rw [← e p hp]; exact hx, h1⟩)
/-- a commit that can be inserted, but that it may be there -/
structure InsP (F : List Dt) (fd : Fd) (c : Cm) : Prop where
  gap : GapP F fd c
  low : ∀ x, knN F fd c c.ps x ≤ getN c.vv x
  fol : FollowsP F fd c
theorem InsP.congr {F : List Dt} {fd fd' : Fd} {c : Cm} (h : InsP F fd c) (e : ∀ p ∈ c.ps, fd p = fd' p) (o : 1 < c.d.2 → hasG F fd (aheadD c.d) = true → hasG F fd' (aheadD c.d) = true) : InsP F fd' c := by
  refine ⟨⟨fun p hp => ?_, fun h1 => o h1 (h.gap.own h1), fun x => ?_⟩, fun x => ?_, h.fol.congr e⟩
  · have := h.gap.ps p hp
    unfold hasG at this ⊢
    rwa [← e p hp]
  · rw [← knN_congr e]; exact h.gap.knows x
  · rw [← knN_congr e]; exact h.low x
def HistI (F : List Dt) (L : List Cm) : Prop := ∀ c ∈ L, InsP F (findC L) c
theorem HistI.start (F : List Dt) : HistI F [] := fun c hc => (by cases hc)
theorem HistI.step {F : List Dt} {L : List Cm} {c : Cm} {n : Nat} (h : HistI F L) (hi : insE F (findC L) n c = 0) : HistI F (L ++ [c]) := by
  obtain ⟨hM, hG0, hGap, ⟨hK, hFol⟩, _⟩ := insE_zero hi
  have hfn : findC L c.d = none := by
    cases hf : findC L c.d with
    | none => rfl
    | some y => unfold hasG at hG0; rw [hf] at hG0; cases hG0
  have key : ∀ y : Cm, InsP F (findC L) y → InsP F (findC (L ++ [c])) y := fun y hy => by
    refine hy.congr (fun p hp => ?_) (fun _ h1 => (hasG_snoc hfn).2 (.inl h1))
    rw [findC_snoc hfn, if_neg]
    rintro rfl
    have := hy.gap.ps _ hp
    rw [hG0] at this; cases this
  intro y hy
  rcases List.mem_append.1 hy with hy | hy
  · exact key y (h y hy)
  · rw [List.mem_singleton] at hy
    subst hy
    exact key y ⟨hGap, hK, hFol⟩
end Go.Proofs.YthdmoplclllhjaaGreat

/- RgA -/
namespace Go.Proofs.YthdmoplclllhjaaGreat
open Go.RowKit
set_option linter.unusedVariables false
set_option linter.unusedSimpArgs false

set_option maxRecDepth 100000 in
set_option maxHeartbeats 8000000 in
theorem listed_any (la : Option Addr) (l : List Dt) (lc : Nat) (r i s : Int) (va : Option Addr) (v : List Dt) (vc : Nat) (w : World) (hl : Vec w la lc l) (hv : Vec w va vc v) (hll : l.length ≤ 1100000) (hvl : v.length ≤ 1100000) :
    Calls Tryz.prog 161 #[.slice la l.length lc, .agg #[.int .u8 r, .int .u32 i, .int .u64 s], .slice va v.length vc] w (IsTo w (RiseP l ((r, i), s) v)) := by
  have HL := Lib.hid hl
  have HV := Lib.hid hv
  have B0 : Hid (BoxE 41 w (w.alloc (.cells #[.int .u8 r, .int .u32 i, .int .u64 s] 41)) #[.int .u8 r, .int .u32 i, .int .u64 s]) := Lib.hid ⟨heap_new _ _, (Below.refl _ _).alloc (Nat.le_refl _) _⟩
  clear hl hv
  go_enter Tryz.func161, Tryz.ntmps161
  go_wp2_with fail
  go_loopw [7] (fun j wr => ∃ k : Nat, k ≤ l.length ∧ j = .int .i64 k ∧ Hid (∀ d ∈ l.take k, d ≠ ((r, i), s) ∧ hasV v d = true) ∧ Hid (upTo ltD l k) ∧ Hid (BoxE 41 w wr #[.int .u8 r, .int .u32 i, .int .u64 s])) (fun j _ => l.length - (intOf j).toNat)
  case atStart => exact ⟨0, Nat.zero_le _, rfl, Lib.hid (by simp), Lib.hid upTo.zero, B0⟩
  case round =>
    obtain ⟨k, hk, rfl, HW, HU, B⟩ := hrel
    clear B0
    have d0 := cells_at B.out.blk
    have z0 := heap_lt B.out.blk
    by_cases hlt : k < l.length
    · obtain ⟨⟨⟨r', i'⟩, s'⟩, hx⟩ : ∃ x, l[k]? = some x := ⟨l[k], by simp [hlt]⟩
      obtain ⟨ad, had, f0, f1, f2, hl0⟩ := (HL.out.below B.out.bel).at hx
      dsimp only at had f0 f1 f2
      subst had
      have Hx := Lib.hid hx
      clear hx
      by_cases hk0 : k = 0
      · have HU' : Hid (upTo ltD l (k + 1)) := Lib.hid (by rw [hk0]; exact upTo.one)
        have ek : decide ((0 : Int) < (k : Int)) = false := decide_eq_false (by omega)
        have ek2 : decide (0 < k) = false := decide_eq_false (by omega)
        clear HU hk0
        go_wp2_with fail
        refine region_text [([0, 1, 2, 3, 4, 5, 6, 7, 8, 9, 10, 11, 12, 13, 14], false)] mixed (by kernel_rfl) ?_
        simp only [wpSegs, List.map_cons, List.map_nil, List.getD_cons_succ, List.getD_cons_zero]
        go_wp2_with fail
        refine And.intro (by kernel_rfl) ?_
        replace B := Lib.hid (B.out.step ((Below.refl _ _).drew))
        clear d0 z0
        have d0 := cells_at B.out.blk
        have z0 := heap_lt B.out.blk
        cases heq : eqD ((r', i'), s') ((r, i), s) with
        | true =>
          have Hn := Lib.hid (show ¬ RiseP l ((r, i), s) v from fun h => (h.2 _ (List.mem_of_getElem? Hx.out)).1 ((eqD_iff _ _).1 heq))
          go_wp2_with fail
          refine region_text [([0, 1, 2, 3, 4, 5, 6, 7, 8, 9, 10, 11, 12, 13, 14], false)] mixed (by kernel_rfl) ?_
          simp only [wpSegs, List.map_cons, List.map_nil, List.getD_cons_succ, List.getD_cons_zero]
          go_wp2_with fail
          refine And.intro (by kernel_rfl) ?_
          go_wp2_with fail
          go_ret
          exact no_name Hn.out (B.out.step ((Below.refl _ _).drew)).bel
        | false =>
          have Hne := Lib.hid (show ((r', i'), s') ≠ ((r, i), s) from fun e => by rw [(eqD_iff _ _).2 e] at heq; cases heq)
          have BD := Lib.hid (B.out.step ((Below.refl _ _).drew))
          go_wp2_with fail
          refine region_text [([0, 1, 2, 3, 4, 5, 6, 7, 8, 9, 10, 11, 12, 13, 14], false)] mixed (by kernel_rfl) ?_
          simp only [wpSegs, List.map_cons, List.map_nil, List.getD_cons_succ, List.getD_cons_zero]
          go_wp2_with fail
          refine (rhas_any va vc v r' i' s' _ (HV.out.below BD.out.bel) hvl).mono ?_
          rintro e w5 ⟨rfl, hb⟩
          have B2 := Lib.hid (BD.out.step hb)
          clear hb d0 z0 BD
          cases hin : hasV v ((r', i'), s') with
          | false =>
            have Hn := Lib.hid (show ¬ RiseP l ((r, i), s) v from fun h => by have := (h.2 _ (List.mem_of_getElem? Hx.out)).2; rw [hin] at this; cases this)
            go_wp2_with fail
            refine And.intro (by kernel_rfl) ?_
            go_wp2_with fail
            go_ret
            exact no_name Hn.out B2.out.bel
          | true =>
            have HW' := Lib.hid (all_snoc (p := fun d => d ≠ ((r, i), s) ∧ hasV v d = true) Hx.out HW.out ⟨Hne.out, hin⟩)
            clear hin
            go_wp2_with fail
            refine And.intro (by kernel_rfl) ?_
            go_wp2_with fail
            go_roundw
            case rel => exact ⟨k + 1, by omega, by go_num, HW', HU', B2⟩
            case measure => simp [intOf]; omega
      · obtain ⟨⟨⟨r2, i2⟩, s2⟩, hy⟩ : ∃ x, l[k - 1]? = some x := ⟨l[k - 1], by simp⟩
        obtain ⟨ae, hae, g0, g1, g2, hl1⟩ := (HL.out.below B.out.bel).at hy
        dsimp only at hae g0 g1 g2
        obtain rfl : ad = ae := Option.some.inj (hae)
        have Hy := Lib.hid hy
        have hk1 : ((k : Int) - 1) = ((k - 1 : Nat) : Int) := by omega
        have Hk := Lib.hid (show k - 1 + 1 = k by omega)
        clear hy hae
        have ek : decide ((0 : Int) < (k : Int)) = true := decide_eq_true (by omega)
        have ek2 : decide (0 < k) = true := decide_eq_true (by omega)
        go_wp2_with fail
        refine region_text [([0, 1, 2, 3, 4, 5, 6, 7, 8, 9, 10, 11, 12, 13, 14], false)] mixed (by kernel_rfl) ?_
        simp only [wpSegs, List.map_cons, List.map_nil, List.getD_cons_succ, List.getD_cons_zero]
        go_wp2_with fail
        refine (rless_any r2 i2 s2 r' i' s' _).mono ?_
        rintro e w4 ⟨rfl, hb⟩
        have HB4 := Lib.hid (((Below.refl wr.heap.size wr).drew).trans hb)
        replace B := Lib.hid (B.out.step HB4.out)
        clear hb d0 z0
        have d0 := cells_at B.out.blk
        have z0 := heap_lt B.out.blk
        cases hq : lessD ((r2, i2), s2) ((r', i'), s') with
        | false =>
          have Hn := Lib.hid (show ¬ RiseP l ((r, i), s) v from fun h => not_risen Hy.out (by rw [Hk.out]; exact Hx.out) hq h.1)
          clear hq
          go_wp2_with fail
          refine And.intro (by kernel_rfl) ?_
          go_wp2_with fail
          go_ret
          exact no_name Hn.out B.out.bel
        | true =>
          have HU' := Lib.hid (show upTo ltD l (k + 1) from by
            have h1 : upTo ltD l (k - 1 + 1) := by rw [Hk.out]; exact HU.out
            have h2 := h1.succ Hy.out (by rw [Hk.out]; exact Hx.out) hq
            rwa [show k - 1 + 2 = k + 1 by omega] at h2)
          clear hq f0 f1 f2 g0 g1 g2 hl0 hl1 hk1
          go_wp2_with fail
          refine And.intro (by kernel_rfl) ?_
          obtain ⟨ad2, had2, f0, f1, f2, hl0⟩ := (HL.out.below B.out.bel).at Hx.out
          dsimp only at had2 f0 f1 f2
          obtain rfl : ad = ad2 := Option.some.inj had2
          clear had2
          cases heq : eqD ((r', i'), s') ((r, i), s) with
          | true =>
            have Hn := Lib.hid (show ¬ RiseP l ((r, i), s) v from fun h => (h.2 _ (List.mem_of_getElem? Hx.out)).1 ((eqD_iff _ _).1 heq))
            go_wp2_with fail
            refine region_text [([0, 1, 2, 3, 4, 5, 6, 7, 8, 9, 10, 11, 12, 13, 14], false)] mixed (by kernel_rfl) ?_
            simp only [wpSegs, List.map_cons, List.map_nil, List.getD_cons_succ, List.getD_cons_zero]
            go_wp2_with fail
            refine And.intro (by kernel_rfl) ?_
            go_wp2_with fail
            go_ret
            exact no_name Hn.out (B.out.step ((Below.refl _ _).drew)).bel
          | false =>
            have Hne := Lib.hid (show ((r', i'), s') ≠ ((r, i), s) from fun e => by rw [(eqD_iff _ _).2 e] at heq; cases heq)
            have BD := Lib.hid (B.out.step ((Below.refl _ _).drew))
            go_wp2_with fail
            refine region_text [([0, 1, 2, 3, 4, 5, 6, 7, 8, 9, 10, 11, 12, 13, 14], false)] mixed (by kernel_rfl) ?_
            simp only [wpSegs, List.map_cons, List.map_nil, List.getD_cons_succ, List.getD_cons_zero]
            go_wp2_with fail
            refine (rhas_any va vc v r' i' s' _ (HV.out.below BD.out.bel) hvl).mono ?_
            rintro e w5 ⟨rfl, hb⟩
            have B2 := Lib.hid (BD.out.step hb)
            clear hb d0 z0 BD
            cases hin : hasV v ((r', i'), s') with
            | false =>
              have Hn := Lib.hid (show ¬ RiseP l ((r, i), s) v from fun h => by have := (h.2 _ (List.mem_of_getElem? Hx.out)).2; rw [hin] at this; cases this)
              go_wp2_with fail
              refine And.intro (by kernel_rfl) ?_
              go_wp2_with fail
              go_ret
              exact no_name Hn.out B2.out.bel
            | true =>
              have HW' := Lib.hid (all_snoc (p := fun d => d ≠ ((r, i), s) ∧ hasV v d = true) Hx.out HW.out ⟨Hne.out, hin⟩)
              clear hin
              go_wp2_with fail
              refine And.intro (by kernel_rfl) ?_
              go_wp2_with fail
              go_roundw
              case rel => exact ⟨k + 1, by omega, by go_num, HW', HU', B2⟩
              case measure => simp [intOf]; omega
    · have hkk : k = l.length := by omega
      have HW2 := Lib.hid (show ∀ d ∈ l, d ≠ ((r, i), s) ∧ hasV v d = true from fun d hd => HW.out d (by rw [hkk, List.take_length]; exact hd))
      have HP := Lib.hid (show l.Pairwise ltD from upTo.all (lt := ltD) (fun {a b c} h k => ltD_trans h k) HU.out (by omega))
      clear HW HU hkk
      go_wp2_with fail
      go_ret
      exact yes_name ⟨HP.out, HW2.out⟩ B.out.bel
theorem revent_any (r i s : Int) (qa : Option Addr) (qn qc : Nat) (va : Option Addr) (vn vc : Nat) (t k : Int) (pa : Option Addr) (pn pc : Nat) (n : Int) (x : ByteArray) (da : Option Addr) (dn dc : Nat) (w : World) :
    Calls Tryz.prog 160 #[.agg (ccells r i s qa qn qc va vn vc t k pa pn pc n x da dn dc)] w fun e w' => e = .returned (.agg (evcells r i s t k pa pn pc n x da dn dc)) ∧ Below w.heap.size w w' := by
  go_enter Tryz.func160, Tryz.ntmps160
  go_wp2_with fail
  exact bodyPost_ret (v := .agg (evcells r i s t k pa pn pc n x da dn dc)) (by simp [results, Tryz.results160, go_sem]) rfl ⟨rfl, ((Below.refl _ _).alloc (Nat.le_refl _) _).alloc (by simp) _⟩
set_option maxRecDepth 100000 in
set_option maxHeartbeats 8000000 in
theorem rmayC_any (v : Cw) (w : World) (h : CwAt w v) (hvl : v.c.vv.length ≤ 1100000) : Calls Tryz.prog 105 #[.agg (cwcells v)] w (IsTo w (CmP v.c)) := by
  obtain ⟨⟨⟨⟨r, i⟩, s⟩, ps, vv, t, ⟨k, n, x, p, ds⟩⟩, qa, qc, va, vc, pa, pc, da, dc⟩ := v
  have H := Lib.hid h
  have hA : okA (r, i) := h.ok.d.1
  have ov : okV vv := h.ok.vv
  have op : okV ps := h.ok.ps
  have od : okV ds := h.ok.ds
  dsimp only at hvl
  have B0 : Hid (BoxE 46 w (w.alloc (.cells (ccells r i s qa ps.length qc va vv.length vc t k pa p.length pc n x da ds.length dc) 46)).drew (ccells r i s qa ps.length qc va vv.length vc t k pa p.length pc n x da ds.length dc)) := Lib.hid (BoxE.of ((Below.refl _ _).drew))
  clear h
  simp only [cwcells]
  go_enter Tryz.func105, Tryz.ntmps105
  go_wp2_with fail
  refine region_text [([0, 1, 2, 3, 4, 5, 6, 8, 9], false), ([7], true), ([10, 11, 12, 13, 14, 15, 16, 17, 18, 20, 21, 22], false), ([19], true), ([23, 24], false)] mixed (by kernel_rfl) ?_
  simp only [wpSegs, List.map_cons, List.map_nil, List.getD_cons_succ, List.getD_cons_zero]
  go_wp2_with fail
  refine (revent_any r i s qa ps.length qc va vv.length vc t k pa p.length pc n x da ds.length dc _).mono ?_
  rintro e w1 ⟨rfl, hb⟩
  have E := Lib.hid (B0.out.step hb)
  clear hb B0
  have d0 := cells_at E.out.blk
  simp only [ccells] at d0
  have z0 := heap_lt E.out.blk
  go_wp2_with fail
  refine (mayEventX_any ⟨⟨((r, i), s), t, k, n, x, ds⟩, pa, p, pc, da, dc⟩ _ ⟨H.out.pt.below E.out.bel, H.out.ds.below E.out.bel, ⟨H.out.ok.d, H.out.ok.t, od⟩⟩).mono ?_
  intro e w2 hto
  obtain ⟨z, rfl, hz, hb⟩ := hto
  replace E := Lib.hid (E.out.step hb)
  have Hz := Lib.hid hz
  clear hb hz d0 z0
  have d0 := cells_at E.out.blk
  simp only [ccells] at d0
  have z0 := heap_lt E.out.blk
  cases z with
  | false =>
    have Hn := Lib.hid (show ¬ CmP ⟨((r, i), s), ps, vv, t, ⟨k, n, x, p, ds⟩⟩ from fun h => by have := Hz.out.2 ⟨h.dot, h.t1, h.t2, h.op⟩; cases this)
    go_wp2_with fail
    refine And.intro (Agree.refl _) ?_
    go_wp2_with fail
    refine And.intro (Agree.refl _) ?_
    go_wp2_with fail
    refine And.intro (by kernel_rfl) ?_
    go_wp2_with fail
    go_ret
    exact no_name Hn.out E.out.bel
  | true =>
    have Hev := Lib.hid (Hz.out.1 (by simp))
    clear Hz
    go_wp2_with fail
    refine (rcanon_any va vc vv _ (H.out.vv.below E.out.bel) ov hvl).mono ?_
    rintro e w3 ⟨a1, c1, rfl, hown, hb⟩
    have Hb := Lib.hid hb
    replace E := Lib.hid (E.out.step hb)
    have Hown := Lib.hid (vec_of hown)
    have hlc : (canonV vv).length ≤ 64 := vecOf_length _
    have Hlc := Lib.hid hlc
    clear hown hb d0 z0 hlc
    have d0 := cells_at E.out.blk
    simp only [ccells] at d0
    have z0 := heap_lt E.out.blk
    go_wp2_with fail
    refine And.intro (Agree.of_below Hb.out) ?_
    go_wp2_with fail
    refine (same_any a1 va c1 vc (canonV vv) vv _ Hown.out (H.out.vv.below E.out.bel) (by have := Hlc.out; omega) hvl).mono ?_
    rintro e w4 ⟨rfl, hb⟩
    replace E := Lib.hid (E.out.step hb)
    clear hb d0 z0 Hown Hb
    have d0 := cells_at E.out.blk
    simp only [ccells] at d0
    have z0 := heap_lt E.out.blk
    by_cases hcan : canonV vv = vv
    rotate_left
    · have Hn := Lib.hid (show ¬ CmP ⟨((r, i), s), ps, vv, t, ⟨k, n, x, p, ds⟩⟩ from fun h => hcan h.canon)
      rw [decide_eq_false hcan]
      clear hcan
      go_wp2_with fail
      refine And.intro (Agree.refl _) ?_
      go_wp2_with fail
      refine And.intro (by kernel_rfl) ?_
      go_wp2_with fail
      go_ret
      exact no_name Hn.out E.out.bel
    rw [decide_eq_true hcan]
    have Hcan := Lib.hid hcan
    clear hcan
    go_wp2_with fail
    refine (rget_any va vc vv r i _ (H.out.vv.below E.out.bel) hvl).mono ?_
    rintro e w5 ⟨rfl, hb⟩
    have Hb := Lib.hid hb
    replace E := Lib.hid (E.out.step hb)
    clear hb d0 z0
    have d0 := cells_at E.out.blk
    simp only [ccells] at d0
    have z0 := heap_lt E.out.blk
    go_wp2_with fail
    refine And.intro (Agree.of_below Hb.out) ?_
    cases hg : (getN vv (r, i) == s) with
    | false =>
      have Hn := Lib.hid (show ¬ CmP ⟨((r, i), s), ps, vv, t, ⟨k, n, x, p, ds⟩⟩ from fun h => by have := h.own; simp at hg; exact hg this)
      go_wp2_with fail
      refine And.intro (by kernel_rfl) ?_
      go_wp2_with fail
      go_ret
      exact no_name Hn.out E.out.bel
    | true =>
      have Hg := Lib.hid (show getN vv (r, i) = s by simpa using hg)
      go_wp2_with fail
      refine And.intro (by kernel_rfl) ?_
      by_cases hl : ps.length ≤ 64
      rotate_left
      · have Hn := Lib.hid (show ¬ CmP ⟨((r, i), s), ps, vv, t, ⟨k, n, x, p, ds⟩⟩ from fun h => hl h.few)
        have e64 : decide ((ps.length : Int) ≤ 64) = false := decide_eq_false (by omega)
        go_wp2_with fail
        go_ret
        exact no_name Hn.out E.out.bel
      have Hl := Lib.hid hl
      have e64 : decide ((ps.length : Int) ≤ 64) = true := by simp; omega
      go_wp2_with fail
      refine (listed_any qa ps qc r i s va vv vc _ (H.out.ps.below E.out.bel) (H.out.vv.below E.out.bel) (by omega) hvl).mono ?_
      intro e w6 hto
      obtain ⟨z, rfl, hz, hb⟩ := hto
      replace E := Lib.hid (E.out.step hb)
      have Hz := Lib.hid hz
      clear hb hz d0 z0
      have d0 := cells_at E.out.blk
      simp only [ccells] at d0
      have z0 := heap_lt E.out.blk
      cases z with
      | false =>
        have Hn := Lib.hid (show ¬ CmP ⟨((r, i), s), ps, vv, t, ⟨k, n, x, p, ds⟩⟩ from fun h => by have := Hz.out.2 h.ps; cases this)
        go_wp2_with fail
        go_ret
        exact no_name Hn.out E.out.bel
      | true =>
        have Hps := Lib.hid (Hz.out.1 (by simp))
        clear Hz
        have hdl : ds.length ≤ 64 := Hev.out.op.few
        go_wp2_with fail
        refine (listed_any da ds dc r i s va vv vc _ (H.out.ds.below E.out.bel) (H.out.vv.below E.out.bel) (by omega) hvl).mono ?_
        intro e w7 hto
        obtain ⟨z, rfl, hz, hb⟩ := hto
        replace E := Lib.hid (E.out.step hb)
        have Hz := Lib.hid (show z = true ↔ CmP ⟨((r, i), s), ps, vv, t, ⟨k, n, x, p, ds⟩⟩ from hz.trans ⟨fun h => ⟨Hev.out.d, Hev.out.lo, Hev.out.hi, Hev.out.op, Hcan.out, Hg.out, Hl.out, Hps.out, h⟩, fun h => h.ds⟩)
        clear hb hz d0 z0
        go_wp2_with fail
        go_ret
        exact ⟨z, rfl, Hz.out, E.out.bel⟩
end Go.Proofs.YthdmoplclllhjaaGreat

/- RgB -/
namespace Go.Proofs.YthdmoplclllhjaaGreat
open Go.RowKit
set_option linter.unusedVariables false
set_option linter.unusedSimpArgs false

theorem OwnC.cms {w : World} {base : Nat} {a : Option Addr} {c : Nat} {l : List Cw} (h : OwnC w base a c l) : Sl w 11 a l.length c (ccs l) := Sl.of_owns h
theorem OwnC.nil (w : World) (base : Nat) : OwnC w base none 0 [] := World.ownsRow_nil _ _ _ _
theorem OwnC.made (w : World) {base : Nat} (h : base ≤ w.heap.size) : OwnC (w.alloc (.cells #[] 46)) base (some ⟨w.heap.size, 0, none⟩) 0 [] := World.ownsRow_made w #[] 0 h (by decide) rfl
theorem OwnC.base {w : World} {base base' : Nat} {a : Option Addr} {c : Nat} {v : List Cw} (h : OwnC w base a c v) (hb : base' ≤ base) : OwnC w base' a c v := owns_base h hb
theorem ccs_one (l : List Cw) : ∀ u ∈ ccs l, u.oneCell' = true := by
  intro u hu
  obtain ⟨v, _, hv⟩ := List.mem_flatMap.1 hu
  exact ccel_one v u hv
theorem sl_hiC (oa : Option Addr) (n oc j : Nat) (hj : j ≤ oc) (W : World) : (Instr.sliceAt 29 (.slice oa n oc) none (some (.int .i64 (j : Int))) none).run Tryz.prog W = .ok (.slice oa j oc) W := by
  simp [go_sem, Instr.sliceAt, Instr.slice, run_underlying Tryz.underlying29]
  omega
theorem sl_loC (oa : Option Addr) (n oc j : Nat) (hj : j ≤ n) (hn : n ≤ oc) (W : World) : (Instr.sliceAt 29 (.slice oa n oc) (some (.int .i64 (j : Int))) none none).run Tryz.prog W = .ok (.slice (if oc = j then oa else oa.map (·.add (j * 11))) (n - j) (oc - j)) W := by
  simp [go_sem, Instr.sliceAt, Instr.slice, run_underlying Tryz.underlying29]
  intro h; omega
theorem cutC (a : Option Addr) (c : Nat) (V : List Cw) (k : Nat) (hk : k ≤ V.length) (hc : V.length ≤ c) : ∃ sa sc u, u = V.drop k ∧ (∀ W : World, (Instr.sliceAt 29 (.slice a V.length c) (some (.int .i64 (k : Int))) none none).run Tryz.prog W = .ok (.slice sa (List.length u) sc) W) ∧ ∀ w, Sl w 11 a V.length c (ccs V) → Sl w 11 sa u.length sc (ccs u) :=
  ⟨_, _, V.drop k, rfl, fun W => by rw [sl_loC a V.length c k hk hc W, List.length_drop], fun w h => Sl.dropK (enc := ccel) ccel_len h hk⟩
theorem keepC (a : Option Addr) (c : Nat) (V : List Cw) (k : Nat) (hk : k ≤ V.length) (hc : V.length ≤ c) : ∃ u, u = V.take k ∧ (∀ W : World, (Instr.sliceAt 29 (.slice a V.length c) none (some (.int .i64 (k : Int))) none).run Tryz.prog W = .ok (.slice a (List.length u) c) W) ∧ ∀ w, Sl w 11 a V.length c (ccs V) → Sl w 11 a u.length c (ccs u) :=
  ⟨V.take k, rfl, fun W => by rw [sl_hiC a V.length c k (by omega) W, List.length_take, Nat.min_eq_left hk], fun w h => Sl.takeK (enc := ccel) ccel_len h hk⟩
theorem cm_one {w : World} {b : Nat} (v : Cw) (h : w.heap[b]? = some (.cells (cwcells v) 46 (0, 0))) : Sl w 11 (some ⟨b, 0, none⟩) 1 1 (ccs [v]) :=
  Sl.blk (C := cwcells v) h rfl (by simp [maxLen])
section
variable {w : World} {ops : Array Oper} {rest : List Oper} {o : Oper} {a : Act} {Q : Exit → Act → World → Prop}
theorem wpList_appC (hgd : o.guard = none) (s x : Operand) (ho : o.op = .call { callee := .builtin .append, args := #[s, x], argTypes := #[29, 29] })
    (base : Nat) (va : Option Addr) (vc : Nat) (v : List Cw) (hs : a.eval s = .slice va v.length vc) (hown : OwnC w base va vc v)
    (sa : Option Addr) (c : Nat) (u : List Cw) (hx : a.eval x = .slice sa u.length c) (hsl : Sl w 11 sa u.length c (ccs u)) (hn : v.length + u.length ≤ 1000) (hbase : base ≤ w.heap.size)
    (h : ∀ v' a' c' w', v' = v ++ u → OwnC w' base a' c' v' → Below base w w' → Chg (ob va) w w' → (∀ k ∈ ob a', k ∈ ob va ∨ w.heap.size ≤ k) → wpList Tryz.prog ops Q rest (a.put o.dst (.slice a' v'.length c')) w') : wpList Tryz.prog ops Q (o :: rest) a w := by
  obtain ⟨i0, hi0, hz0, hz1, hz2⟩ := info_parts Tryz.info_commit
  refine wpList_append_sl hgd s x 29 ho base 46 i0 _ 11 152 Tryz.underlying29 hi0 hz0 hz1 hz2 rfl (by decide) va v.length vc (ccs v) hs hown sa u.length c (ccs u) hx hsl (ccs_one u) (by unfold maxLen; omega) (by omega) hbase fun a' c' w' h1 h2 h3 => ?_
  have := h (v ++ u) a' c' w' rfl (by unfold OwnC; rw [ccs_append, List.length_append]; exact h1) (h2.below hbase fun k hk => (owns_lt hown k hk).1) h2 h3
  rwa [List.length_append] at this
end
abbrev rgcells (num : Int) (fa : Option Addr) (fn fc : Nat) (ta : Option Addr) (tn tc : Nat) (t : Int) (ra : Option Addr) (rn rc : Nat) (la : Option Addr) (ln lc : Nat) : Array Value :=
  #[.int .u64 num, .slice fa fn fc, .slice ta tn tc, .int .u64 t, .slice ra rn rc, .slice la ln lc]
/-- the document's graph at block pw: its baseline and its commits' parts are known in an older world -/
structure RgAt (w : World) (pw : Nat) (w0 : World) (m : Nat) (b : Bw) (S : List Cw) (la : Option Addr) (lc : Nat) : Prop where
  blk : w.heap[pw]? = some (.cells (rgcells b.b.num b.fa b.b.f.length b.fc b.ta b.b.tips.length b.tc b.b.t b.ra b.b.tr.length b.rc la S.length lc) 61 (0, 0))
  bel : Below w0.heap.size w0 w
  lt : w0.heap.size ≤ pw
  base : BwAt w0 m b
  row : OwnC w (pw + 1) la lc S
  each : ∀ v ∈ S, CwAt w0 v
  sorted : SortedC (cms S)
  nodup : ((cms S).map (·.d)).Nodup
  may : ∀ v ∈ S, CmP v.c
  few : S.length ≤ 200
  canon : canonV b.b.f = b.b.f
theorem RgAt.chg {F : List Nat} {w w' : World} {pw : Nat} {w0 : World} {m : Nat} {b : Bw} {S : List Cw} {la : Option Addr} {lc : Nat} (h : RgAt w pw w0 m b S la lc) (hc : Chg F w w') (hp : pw ∉ F) (hl : ∀ k ∈ ob la, k ∉ F) (h0 : ∀ k ∈ F, w0.heap.size ≤ k) : RgAt w' pw w0 m b S la lc :=
  ⟨heap_chg h.blk hc hp, h.bel.trans (hc.below h.bel.size h0), h.lt, h.base, h.row.chg hc hl, h.each, h.sorted, h.nodup, h.may, h.few, h.canon⟩
theorem RgAt.below {w w' : World} {pw : Nat} {w0 : World} {m : Nat} {b : Bw} {S : List Cw} {la : Option Addr} {lc : Nat} (h : RgAt w pw w0 m b S la lc) (hb : Below w.heap.size w w') : RgAt w' pw w0 m b S la lc :=
  h.chg (F := []) (Chg.of_below hb) (by simp) (by simp) (fun k hk => by cases hk)
theorem RgAt.rows {w : World} {pw : Nat} {w0 : World} {m : Nat} {b : Bw} {S : List Cw} {la : Option Addr} {lc : Nat} (h : RgAt w pw w0 m b S la lc) : Cms w la lc S := ⟨h.row.cms, fun v hv => (h.each v hv).below h.bel⟩
theorem RgAt.f {w : World} {pw : Nat} {w0 : World} {m : Nat} {b : Bw} {S : List Cw} {la : Option Addr} {lc : Nat} (h : RgAt w pw w0 m b S la lc) : Vec w b.fa b.fc b.b.f := h.base.f.below h.bel
theorem RgAt.flen {w : World} {pw : Nat} {w0 : World} {m : Nat} {b : Bw} {S : List Cw} {la : Option Addr} {lc : Nat} (h : RgAt w pw w0 m b S la lc) : b.b.f.length ≤ 64 := by
  have h1 : (canonV b.b.f).length ≤ 64 := vecOf_length _
  rwa [h.canon] at h1
end Go.Proofs.YthdmoplclllhjaaGreat
