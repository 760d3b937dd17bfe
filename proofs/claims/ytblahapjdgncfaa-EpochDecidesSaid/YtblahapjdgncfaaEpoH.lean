/- The walk of EpochDecides. Printed by wip/tools/genepoh.py. -/
import Derived.Test.YtblahapjdgncfaaEpoG
import Derived.Test.YtblahapjdgncfaaMatN
import Derived.Test.YtblahapjdgncfaaEpoD
namespace Go.Proofs.Ytblahapjdgncfaa
open Go.RowKit
set_option linter.unusedVariables false
set_option linter.unusedSimpArgs false

/-- what the law knows: both matrices -/
structure EdE (w wr : World) (pm pw n : Nat) (R : Mx) (L : List Ak) (k : Nat) : Prop where
  mat : MatR wr (fun b => b ≠ pw) pm n R
  ref : RefR wr (fun b => b ≠ pm) pw n L
  okm : okR n R
  oka : ∀ a ∈ L, okA (a.r, a.i)
  len : L.length ≤ k
  ne : pm ≠ pw
  hm : w.heap.size ≤ pm
  hw : w.heap.size ≤ pw
  ltm : pm < wr.heap.size
  ltw : pw < wr.heap.size
  below : Below w.heap.size w wr
theorem EdE.step {w wr w' : World} {pm pw n : Nat} {R : Mx} {L : List Ak} {k : Nat} (h : EdE w wr pm pw n R L k) (hb : Below wr.heap.size wr w') : EdE w w' pm pw n R L k :=
  ⟨h.mat.below hb, h.ref.below hb, h.okm, h.oka, h.len, h.ne, h.hm, h.hw, Nat.lt_of_lt_of_le h.ltm hb.size, Nat.lt_of_lt_of_le h.ltw hb.size, h.below.trans (hb.mono h.below.size)⟩
theorem EdE.takeM {w wr w' : World} {pm pw n : Nat} {R : Mx} {L : List Ak} {k : Nat} {a : Ak} (h : EdE w wr pm pw n R L k) (ha : okAk a) (hm : MatR w' (fun b => b ≠ pw ∨ wr.heap.size ≤ b) pm n (nextM n R a)) (hc : Chg [pm] wr w') : EdE w w' pm pw n (nextM n R a) L k :=
  ⟨hm.mono (fun b hb => by have := h.ltw; rcases hb with hb | hb <;> omega), h.ref.chg hc (by simp), okR_next h.okm ha, h.oka, h.len, h.ne, h.hm, h.hw, Nat.lt_of_lt_of_le h.ltm hc.size, Nat.lt_of_lt_of_le h.ltw hc.size, h.below.trans (hc.below h.below.size (by have := h.hm; simpa using this))⟩
theorem EdE.takeR {w wr w' : World} {pm pw n : Nat} {R : Mx} {L : List Ak} {k : Nat} {a : Ak} (h : EdE w wr pm pw n R L k) (ha : okAk a) (hm : RefR w' (fun b => b ≠ pm ∨ wr.heap.size ≤ b) pw n (nextL n L a)) (hc : Chg [pw] wr w') : EdE w w' pm pw n R (nextL n L a) (k + 1) := by
  refine ⟨h.mat.chg hc (by simp), rmono hm (fun b hb => by have := h.ltm; rcases hb with hb | hb <;> omega), h.okm, fun x hx => ?_, ?_, h.ne, h.hm, h.hw, Nat.lt_of_lt_of_le h.ltm hc.size, Nat.lt_of_lt_of_le h.ltw hc.size, h.below.trans (hc.below h.below.size (by have := h.hw; simpa using this))⟩
  · unfold nextL at hx
    split at hx
    · rcases List.mem_append.1 hx with hx | hx
      · exact h.oka x hx
      · rw [List.mem_singleton] at hx; rw [hx]; exact ha.1
    · exact h.oka x hx
  · have := h.len
    unfold nextL
    split
    · simp; omega
    · omega
theorem mat_new {w : World} {F G : Nat → Prop} {pm n : Nat} (h : MatR w F pm n newR) (hG : G pm) : MatR w G pm n newR := by
  obtain ⟨C, P, h⟩ := h
  refine ⟨C, P, h.blk, h.size, h.c0, h.cP, hG, h.hn, fun j hj => ?_⟩
  rcases h.rows j hj with h | ⟨p, a, _, h2, _⟩
  · exact .inl h
  · cases h2
theorem okR_nil (n : Nat) : okR n (RL []) := fun k a h => by cases h
theorem RL_nil : RL [] = newR := rfl
theorem ref_new {w : World} {pw n : Nat} {F : Nat → Prop} (h : w.heap[pw]? = some (.cells #[.int .i64 n, .slice none 0 0] 65 (0, 0))) (hF : F pw) : RefR w F pw n [] :=
  ⟨none, 0, h, ⟨rfl, Nat.le_refl _, Nat.zero_le _, fun _ => ⟨rfl, rfl⟩, fun i y hy => by simp at hy⟩, hF, fun k hk => by simp [ob] at hk⟩
theorem dec_same {o : Option (Int × List Dt)} {m m' : Int} {v v' : List Dt} (h : o = some (m, v)) (h' : o = some (m', v')) : m' = m ∧ v' = v := by
  rw [h] at h'; simp at h'; exact ⟨h'.1.symm, h'.2.symm⟩

set_option maxRecDepth 100000 in
set_option maxHeartbeats 8000000 in
theorem decides_walk (n : Int) (la ia Fa fa va : Option Addr) (lc ic Fc fc vc : Nat) (ys : List Ak) (l : List Int) (dm num : Int) (DF f vv : List Dt) (w : World) (hl : Acks w la lc ys) (hi : U32 w ia ic l) (oi : okI l) (hF : Vec w Fa Fc DF) (oF : okV DF) (hf : Vec w fa fc f) (of : okV f) (hv : Vec w va vc vv) (ov : okV vv) (h0 : 0 ≤ num) (h1 : num ≤ 18446744073709551615) :
    Calls Try.prog 8 #[.int .i64 n, .slice la ys.length lc, .slice ia l.length ic, .agg #[.int .u64 dm, .slice Fa DF.length Fc], .int .u64 num, .slice fa f.length fc, .slice va vv.length vc] w fun e w' => e = .returned (.bool true) ∧ Below w.heap.size w w' := by
  have Hl := Lib.hid hl
  have Hi := Lib.hid hi
  have HF := Lib.hid hF
  have Hf := Lib.hid hf
  have Hv := Lib.hid hv
  have m1 : ys.length ≤ 9223372036854775807 := by have := hl.len; unfold maxLen at this; omega
  have m2 : l.length ≤ 9223372036854775807 := by have := hi.2.1; have := hi.2.2.1; unfold maxLen at this; omega
  clear hl hi hF hf hv
  go_enter Try.func8, Try.ntmps8
  go_upto_region 1 with (fail)
  have hx0 := heap_new w (.cells #[.int .u64 dm, .slice Fa DF.length Fc] 72)
  have hb0 := (Below.refl _ w).alloc (Nat.le_refl _) (.cells #[.int .u64 dm, .slice Fa DF.length Fc] 72)
  generalize w.alloc (.cells #[.int .u64 dm, .slice Fa DF.length Fc] 72) = w0 at *
  go_wp2_with fail
  refine (great18_any la lc ys _ (Hl.out.below hb0)).mono ?_
  rintro e w1 ⟨rfl, hb1⟩
  have HB := Lib.hid (hb0.trans (hb1.mono hb0.size))
  have hx1 := (hb1.block _ (heap_lt hx0)).trans hx0
  have Hx1 := Lib.hid hx1
  have d1 := cells_at hx1
  clear hb0 hb1 hx0 hx1
  cases hg : greatL ys with
  | true =>
    clear hg
    go_wp2_with fail
    refine (known18_any _).mono ?_
    rintro e w3 ⟨rfl, rfl⟩
    go_wp2_with fail
    go_ret
    exact ⟨rfl, HB.out⟩
  | false =>
    have Hg := Lib.hid hg
    clear hg
    by_cases h20 : 20 < l.length
    · have h20' : decide ((20 : Int) < l.length) = true := by simp; omega
      go_wp2_with fail
      refine (known18_any _).mono ?_
      rintro e w3 ⟨rfl, rfl⟩
      go_wp2_with fail
      go_ret
      exact ⟨rfl, HB.out⟩
    · have h20' : decide ((20 : Int) < l.length) = false := by simp; omega
      by_cases h40 : 40 < DF.length
      · have h40' : decide ((40 : Int) < DF.length) = true := by simp; omega
        go_wp2_with fail
        refine (known18_any _).mono ?_
        rintro e w3 ⟨rfl, rfl⟩
        go_wp2_with fail
        go_ret
        exact ⟨rfl, HB.out⟩
      · have h40' : decide ((40 : Int) < DF.length) = false := by simp; omega
        by_cases h41 : 40 < f.length
        · have h41' : decide ((40 : Int) < f.length) = true := by simp; omega
          go_wp2_with fail
          refine (known18_any _).mono ?_
          rintro e w3 ⟨rfl, rfl⟩
          go_wp2_with fail
          go_ret
          exact ⟨rfl, HB.out⟩
        · have h41' : decide ((40 : Int) < f.length) = false := by simp; omega
          by_cases h42 : 40 < vv.length
          · have h42' : decide ((40 : Int) < vv.length) = true := by simp; omega
            go_wp2_with fail
            refine (known18_any _).mono ?_
            rintro e w3 ⟨rfl, rfl⟩
            go_wp2_with fail
            go_ret
            exact ⟨rfl, HB.out⟩
          · have h42' : decide ((40 : Int) < vv.length) = false := by simp; omega
            have hys : ys.length ≤ 60 := by have := Hg.out; simp [greatL] at this; omega
            have Hgk := Lib.hid (show ∀ y ∈ ys, y.vv.length ≤ 40 ∧ y.incs.length ≤ 20 by
              have := Hg.out; simp only [greatL, Bool.or_eq_false_iff, List.any_eq_false] at this
              intro y hy; have := this.1 y hy; simp [greatK] at this; omega)
            clear Hg
            have hm0 : 0 ≤ num % 7 ∧ num % 7 < 7 := by omega
            go_upto_region 4 with (fail)
            generalize num % 7 = inc at *
            obtain ⟨⟨ne1, ne2⟩, hne⟩ : ∃ p, nextE num inc = p := ⟨_, rfl⟩
            have hres := next_res hne
            clear hne
            go_wp2_with fail
            refine (epoNext_any num inc _ h0 h1).mono ?_
            rintro e w2 ⟨rfl, rfl⟩
            rw [← hres]
            go_wp2_with fail
            refine (repoNext_any num inc _ h0 h1 hm0.1).mono ?_
            rintro e w2 ⟨rfl, rfl⟩
            rw [← hres]
            clear hres
            go_wp2_with fail
            refine region_text [([0, 1, 2, 3, 4, 5, 6, 7, 8, 9, 10, 11, 12, 14, 15, 16, 17], false), ([13], true), ([18, 19, 20, 21, 22, 23, 25, 26, 24, 27, 28, 29], false)] mixed (by kernel_rfl) ?_
            simp only [wpSegs, List.map_cons, List.map_nil, List.getD_cons_succ, List.getD_cons_zero]
            go_wp2_with fail
            refine (judge_any dm num Fa fa va Fc fc vc DF f vv _ (HF.out.below HB.out.drew) (Hf.out.below HB.out.drew) (Hv.out.below HB.out.drew) oF of ov (by omega) (by omega) (by omega)).mono ?_
            rintro e w2 ⟨rfl, hb⟩
            have hb' := (Below.refl _ _).drew.trans hb
            replace Hx1 := Lib.hid ((hb'.block _ (heap_lt Hx1.out)).trans Hx1.out)
            replace HB := Lib.hid (HB.out.trans (hb'.mono HB.out.size))
            clear d1 hb'
            have d1 := cells_at Hx1.out
            obtain ⟨jn, hjn⟩ : ∃ jn, judgeN dm num DF f vv = jn := ⟨_, rfl⟩
            rw [hjn]
            go_wp2_with fail
            refine And.intro (Agree.of_below hb) ?_
            clear hb
            go_wp2_with fail
            refine (rjudge_any dm num Fa fa va Fc fc vc DF f vv _ (HF.out.below HB.out) (Hf.out.below HB.out) (Hv.out.below HB.out) oF of (by omega) (by omega) (by omega)).mono ?_
            rintro e w3 ⟨rfl, hb⟩
            rw [hjn]
            clear hjn
            replace Hx1 := Lib.hid ((hb.block _ (heap_lt Hx1.out)).trans Hx1.out)
            replace HB := Lib.hid (HB.out.trans (hb.mono HB.out.size))
            clear d1 hb
            go_wp2_with fail
            refine (isStale_any fa va fc vc f vv _ (Hf.out.below HB.out) (Hv.out.below HB.out) of ov (by omega) (by omega)).mono ?_
            rintro e w4 ⟨rfl, hb⟩
            replace HB := Lib.hid (HB.out.trans (hb.mono HB.out.size))
            clear hb
            obtain ⟨bw, hbw⟩ : ∃ bw, withinV f vv = bw := ⟨_, rfl⟩
            rw [hbw]
            go_wp2_with fail
            refine (rwithin_any fa va fc vc f vv _ (Hf.out.below HB.out) (Hv.out.below HB.out) of (by omega) (by omega)).mono ?_
            rintro e w5 ⟨rfl, hb⟩
            rw [hbw]
            clear hbw
            replace HB := Lib.hid (HB.out.trans (hb.mono HB.out.size))
            clear hb
            have hxor : ((!bw) == bw) = false := by cases bw <;> rfl
            go_wp2_with fail
            refine And.intro (by kernel_rfl) ?_
            clear Hx1
            go_wp2_with fail
            refine (new_any n _).mono ?_
            rintro e w6 (⟨hn, rfl, rfl⟩ | ⟨hn, rfl, hM, hb⟩)
            · go_wp2_with fail
              refine (known18_any _).mono ?_
              rintro e w3 ⟨rfl, rfl⟩
              go_wp2_with fail
              go_ret
              exact ⟨rfl, HB.out⟩
            · obtain ⟨N, rfl⟩ : ∃ N : Nat, n = N := ⟨n.toNat, by omega⟩
              simp only [Int.toNat_natCast] at hM
              have hpm : w.heap.size ≤ w5.heap.size := HB.out.size
              have hpl : w5.heap.size < w6.heap.size := by obtain ⟨C, P, h⟩ := hM; exact heap_lt h.blk
              have HM := Lib.hid (mat_new (G := fun b => b ≠ w6.heap.size) hM (by omega))
              replace HB := Lib.hid (HB.out.trans (hb.mono HB.out.size))
              clear hM hb
              generalize w5.heap.size = pm at *
              go_upto_region 12 with (fail)
              have hx := heap_new w6 (.cells #[.int .i64 (N : Int), .slice none 0 0] 65)
              have hb := (Below.refl _ w6).alloc (Nat.le_refl _) (.cells #[.int .i64 (N : Int), .slice none 0 0] 65)
              have hM := HM.out.below hb
              have E := Lib.hid (⟨hM, ref_new hx (show w6.heap.size ≠ pm by omega), okR_new _, by simp, Nat.le_refl _, by omega, hpm, by omega, by simp; omega, by simp, HB.out.trans (hb.mono HB.out.size)⟩ : EdE w (w6.alloc (.cells #[.int .i64 (N : Int), .slice none 0 0] 65)) pm w6.heap.size N (RL []) [] 0)
              clear hM hb hx HM HB hpm hpl
              generalize w6.alloc (.cells #[.int .i64 (N : Int), .slice none 0 0] 65) = w7 at *
              generalize w6.heap.size = pw at *
              go_wp2_with fail
              go_loopw [113] (fun j wr => ∃ (k : Nat) (L : List Ak), k ≤ ys.length ∧ j = .int .i64 k ∧ Hid (EdE w wr pm pw N (RL L) L k)) (fun j _ => ys.length - (intOf j).toNat)
              case atStart => exact ⟨0, [], Nat.zero_le _, rfl, E⟩
              case round =>
                obtain ⟨k, L, hk, rfl, HE⟩ := hrel
                clear E
                by_cases hlt : k < ys.length
                · obtain ⟨⟨yr, yi, yl, yv⟩, hy⟩ : ∃ y, ys[k]? = some y := ⟨ys[k], by simp [hlt]⟩
                  obtain ⟨ad, ai, ci, av1, cv1, had, hat0, hl0⟩ := Hl.out.at hy
                  have hgk := Hgk.out _ (List.mem_of_getElem? hy)
                  obtain ⟨c0, c1, c2, c3, _, _, _⟩ := hat0.below HE.out.below
                  have Hi1 := Lib.hid hat0.hi
                  have Hv1 := Lib.hid hat0.hv
                  have hok := hat0.ok
                  have hl1 : ad.block < _ := Nat.lt_of_lt_of_le hl0 HE.out.below.size
                  clear hat0 hl0
                  dsimp only at c0 c1 c2 c3 hgk
                  obtain ⟨rn, rfl⟩ : ∃ rn : Nat, yr = rn := ⟨yr.toNat, by have := hok.1.1.1; dsimp only at this; omega⟩
                  have hrn : rn ≤ 255 := by have := hok.1.1.2; dsimp only at this; omega
                  subst had
                  have Hok := Lib.hid hok
                  clear hy hok
                  go_upto_region 15 with (fail)
                  have hba : Below wr.heap.size wr (wr.alloc (.cells #[.int .u8 rn, .int .u32 yi, .slice ai yl.length ci, .slice av1 yv.length cv1] 51)) := (Below.refl _ wr).alloc (Nat.le_refl _) _
                  have hbx := heap_new wr (.cells #[.int .u8 rn, .int .u32 yi, .slice ai yl.length ci, .slice av1 yv.length cv1] 51)
                  have hqm := HE.out.ltm
                  have hqw := HE.out.ltw
                  replace HE := Lib.hid (HE.out.step hba)
                  clear hba c0 c1 c2 c3 hl1
                  generalize wr.alloc (.cells #[.int .u8 rn, .int .u32 yi, .slice ai yl.length ci, .slice av1 yv.length cv1] 51) = w8 at *
                  generalize wr.heap.size = q at *
                  have dx := cells_at hbx
                  go_wp2_with fail
                  refine (take_any rn yi ai av1 ci cv1 yl yv pm N _ _ _ HE.out.mat HE.out.okm (Hi1.out.below HE.out.below) (Hv1.out.below HE.out.below) hrn Hok.out.2.2 (by omega) (by omega)).mono ?_
                  rintro e w9 ⟨rfl, hM, hch⟩
                  have HR0 := Lib.hid HE.out.okm
                  replace hbx := heap_chg hbx hch (by simp; omega)
                  replace HE := Lib.hid (HE.out.takeM Hok.out hM hch)
                  clear hM hch dx
                  have dx := cells_at hbx
                  go_wp2_with fail
                  refine (rtake_any rn yi ai av1 ci cv1 yl yv pw N L _ _ HE.out.ref (by have := HE.out.len; omega) HE.out.oka HR0.out (Hi1.out.below HE.out.below) (Hv1.out.below HE.out.below) hrn Hok.out.2.2 (by omega) (by omega)).mono ?_
                  rintro e w10 ⟨rfl, hM, hch⟩
                  replace HE := Lib.hid (HE.out.takeR Hok.out hM hch)
                  rw [← RL_next (n := N) (L := L) (a := ⟨rn, yi, yl, yv⟩) (Int.natCast_nonneg _)] at HE
                  clear hM hch dx hbx HR0
                  generalize nextL N L ⟨rn, yi, yl, yv⟩ = L2 at *
                  go_wp2_with fail
                  refine (decide_any ia fa ic fc l f num pm N (RL L2) _ _ HE.out.mat HE.out.okm (Hi.out.below HE.out.below) (by omega) (Hf.out.below HE.out.below) of (by omega) h0 h1).mono ?_
                  rintro e w11 hd
                  obtain ⟨o, ho⟩ : ∃ o, decideM N (RL L2) l num f = o := ⟨_, rfl⟩
                  rw [ho] at hd
                  rcases hd with ⟨hno, rfl, hb⟩ | ⟨m8, v8, hyes, a8, c8, rfl, ho8, hb⟩
                  · subst hno
                    replace HE := Lib.hid (HE.out.step hb)
                    clear hb
                    go_upto_region 18 with (fail)
                    have hba : Below w11.heap.size w11 (w11.alloc (.cells #[.int .u64 0, .slice none 0 0] 72)) := (Below.refl _ _).alloc (Nat.le_refl _) _
                    have hb1 := heap_new w11 (.cells #[.int .u64 0, .slice none 0 0] 72)
                    replace HE := Lib.hid (HE.out.step hba)
                    clear hba
                    generalize w11.alloc (.cells #[.int .u64 0, .slice none 0 0] 72) = w12 at *
                    go_wp2_with fail
                    refine (rdecide_any ia fa ic fc l f num pw N L2 _ _ HE.out.ref (by have := HE.out.len; omega) HE.out.oka HE.out.okm (Hi.out.below HE.out.below) (by omega) (Hf.out.below HE.out.below) of (by omega) h0 h1 oi).mono ?_
                    rintro e w13 hd
                    rw [ho] at hd
                    rcases hd with ⟨_, rfl, hb⟩ | ⟨m9, v9, hyes, _⟩
                    case inr => cases hyes
                    replace hb1 := (hb.block _ (heap_lt hb1)).trans hb1
                    replace HE := Lib.hid (HE.out.step hb)
                    clear hb ho
                    go_upto_region 19 with (fail)
                    have hba : Below w13.heap.size w13 (w13.alloc (.cells #[.int .u64 0, .slice none 0 0] 72)) := (Below.refl _ _).alloc (Nat.le_refl _) _
                    have hb2 := heap_new w13 (.cells #[.int .u64 0, .slice none 0 0] 72)
                    replace HE := Lib.hid (HE.out.step hba)
                    replace hb1 := (hba.block _ (heap_lt hb1)).trans hb1
                    clear hba
                    generalize w13.alloc (.cells #[.int .u64 0, .slice none 0 0] 72) = w14 at *
                    have d1 := cells_at hb1
                    have d2 := cells_at hb2
                    go_wp2_with fail
                    refine (same_any none none 0 0 [] [] _ (Sl.nil _ _) (Sl.nil _ _) (by simp) (by simp)).mono ?_
                    rintro e w15 ⟨rfl, hb⟩
                    replace HE := Lib.hid (HE.out.step hb)
                    clear hb d1 d2 hb1 hb2
                    go_wp2_with fail
                    go_roundw
                    case rel => exact ⟨k + 1, L2, by omega, by go_num, HE⟩
                    case measure => simp [intOf]; omega
                  · subst hyes
                    have Hvl := Lib.hid (decide_facts HE.out.okm h0 ho)
                    have hs8 := HE.out.below.size
                    replace HE := Lib.hid (HE.out.step hb)
                    have Ho8 := Lib.hid ho8
                    clear hb ho8
                    go_upto_region 18 with (fail)
                    have hba : Below w11.heap.size w11 (w11.alloc (.cells #[.int .u64 m8, .slice a8 v8.length c8] 72)) := (Below.refl _ _).alloc (Nat.le_refl _) _
                    have hb1 := heap_new w11 (.cells #[.int .u64 m8, .slice a8 v8.length c8] 72)
                    replace HE := Lib.hid (HE.out.step hba)
                    replace Ho8 := Lib.hid (owns_chg (F := []) Ho8.out (Chg.of_below hba) (by simp))
                    clear hba
                    generalize w11.alloc (.cells #[.int .u64 m8, .slice a8 v8.length c8] 72) = w12 at *
                    go_wp2_with fail
                    refine (rdecide_any ia fa ic fc l f num pw N L2 _ _ HE.out.ref (by have := HE.out.len; omega) HE.out.oka HE.out.okm (Hi.out.below HE.out.below) (by omega) (Hf.out.below HE.out.below) of (by omega) h0 h1 oi).mono ?_
                    rintro e w13 hd
                    rw [ho] at hd
                    rcases hd with ⟨hno, _⟩ | ⟨m9, v9, hyes, a9, c9, rfl, ho9, hb⟩
                    case inl => cases hno
                    obtain ⟨rfl, rfl⟩ := dec_same hyes rfl
                    replace hb1 := (hb.block _ (heap_lt hb1)).trans hb1
                    replace HE := Lib.hid (HE.out.step hb)
                    replace Ho8 := Lib.hid (owns_chg (F := []) Ho8.out (Chg.of_below hb) (by simp))
                    have Ho9 := Lib.hid ho9
                    clear hb ho ho9 hyes
                    go_upto_region 19 with (fail)
                    have hba : Below w13.heap.size w13 (w13.alloc (.cells #[.int .u64 m8, .slice a9 v8.length c9] 72)) := (Below.refl _ _).alloc (Nat.le_refl _) _
                    have hb2 := heap_new w13 (.cells #[.int .u64 m8, .slice a9 v8.length c9] 72)
                    replace HE := Lib.hid (HE.out.step hba)
                    replace hb1 := (hba.block _ (heap_lt hb1)).trans hb1
                    replace Ho8 := Lib.hid (owns_chg (F := []) Ho8.out (Chg.of_below hba) (by simp))
                    replace Ho9 := Lib.hid (owns_chg (F := []) Ho9.out (Chg.of_below hba) (by simp))
                    clear hba
                    generalize w13.alloc (.cells #[.int .u64 m8, .slice a9 v8.length c9] 72) = w14 at *
                    have d1 := cells_at hb1
                    have d2 := cells_at hb2
                    have hvl := Hvl.out.2.2.2.2.2.2
                    go_wp2_with fail
                    refine (same_any a8 a9 c8 c9 v8 v8 _ (vec_of Ho8.out) (vec_of Ho9.out) (by omega) (by omega)).mono ?_
                    rintro e w15 ⟨rfl, hb⟩
                    rw [decide_eq_true (rfl : v8 = v8)]
                    replace HE := Lib.hid (HE.out.step hb)
                    clear hb d1 d2 hb1 hb2 Ho8 Ho9
                    go_wp2_with fail
                    go_roundw
                    case rel => exact ⟨k + 1, L2, by omega, by go_num, HE⟩
                    case measure => simp [intOf]; omega
                · go_wp2_with fail
                  refine (decide_none ia fa l.length ic f.length fc num _).mono ?_
                  rintro e w8 hd
                  rcases hd with ⟨_, rfl, hb⟩ | ⟨m8, v8, hyes, _⟩
                  · replace HE := Lib.hid (HE.out.step hb)
                    clear hb
                    go_wp2_with fail
                    refine (known18_any _).mono ?_
                    rintro e w3 ⟨rfl, rfl⟩
                    go_wp2_with fail
                    go_ret
                    exact ⟨rfl, (HE.out.step ((Below.refl _ _).alloc (Nat.le_refl _) _)).below⟩
                  · cases hyes
end Go.Proofs.Ytblahapjdgncfaa
