/- For the law GraphPlays: what its round knows. | varvelaw12.GraphWhole: the walk, first part. | varvelaw12.GraphPlays: the walk. -/
import Derived.Test.YthdmoplclllhjaaGreatLwL
import Derived.Test.YthdmoplclllhjaaGreatFilP
import Derived.Test.YthdmoplclllhjaaGreatSamB
import Derived.Test.YthdmoplclllhjaaGreatRMbA
import Derived.Test.YthdmoplclllhjaaGreatBasB
import Derived.Test.YthdmoplclllhjaaGreatGraQ
import Derived.Test.YthdmoplclllhjaaGreatGraV
import Derived.Test.YthdmoplclllhjaaGreatGraM
import Derived.Test.YthdmoplclllhjaaGreatHistP
import Derived.Test.YthdmoplclllhjaaGreatLevC
/- PlyA -/
namespace Go.Proofs.YthdmoplclllhjaaGreat
open Go.RowKit
set_option linter.unusedVariables false
set_option linter.unusedSimpArgs false

/-- inserting into a graph that lies above B changes nothing below B -/
theorem InsTo.bel {w w' : World} {pg mb : Nat} {w0 : World} {m : Nat} {b : Bw} {L : List Cw} {vv : List Dt} {c : Cm} {e : Ending} (h : InsTo w pg mb w0 m b L vv c e w') {B : Nat} (hB : B ≤ w.heap.size) (h1 : B ≤ pg) (h2 : B ≤ mb) : Below B w w' := by
  obtain ⟨_, ⟨_, hb⟩ | ⟨_, u, va', vc', _, _, hc⟩⟩ := h
  · exact hb.mono hB
  · exact hc.below hB (fun k hk => by simp at hk; rcases hk with rfl | rfl <;> assumption)
theorem InsTo.no_ {w w' : World} {pg mb : Nat} {w0 : World} {m : Nat} {b : Bw} {L : List Cw} {vv : List Dt} {c : Cm} {e : Ending} (h : InsTo w pg mb w0 m b L vv c e w') (hn : insE b.b.f (findC (cms L)) L.length c ≠ 0) : Below w.heap.size w w' := by
  obtain ⟨_, ⟨_, hb⟩ | ⟨hz, _⟩⟩ := h
  · exact hb
  · exact absurd hz hn
theorem RInsTo.keep {w w' : World} {pw : Nat} {w0 : World} {m : Nat} {b : Bw} {S : List Cw} {v : Cw} {e : Ending} (h : RInsTo w pw w0 m b S v e w') {k : Nat} {o : Obj} (hk : w.heap[k]? = some o) (h1 : k ≠ pw) : w'.heap[k]? = some o := by
  obtain ⟨_, ⟨_, hb⟩ | ⟨_, la', lc', _, hc⟩⟩ := h
  · exact (hb.block _ (heap_lt hk)).trans hk
  · exact (hc.block _ (heap_lt hk) (by simpa using h1)).trans hk
/-- a baseline of one's own, alike, as an argument -/
theorem OwnB.at_ {w w0 : World} {base m : Nat} {b v : Bw} (h : OwnB w base v) (hs : SameBw b.b v.b) (hb : BwAt w0 m b) : BwAt w 3 v :=
  ⟨h.f.vec, h.tips.vec, OwnT.rd h.tr, by rw [hs.f]; exact hb.okf, by rw [hs.tips]; exact hb.okt, by rw [hs.num]; exact hb.num, by rw [hs.t]; exact hb.t⟩
/-- inserted once more: there is it already, or it is refused as before -/
def againP (k : Int) : Int := if k = 0 then 8 else k
theorem againP_ne (k : Int) : againP k ≠ 0 := by
  unfold againP
  by_cases h : k = 0
  · rw [if_pos h]; decide
  · rw [if_neg h]; exact h
theorem again_P (k : Int) (w : World) : Calls Tryz.prog 31 #[.int .i64 k] w fun e w' => e = .returned (.int .i64 (againP k)) ∧ w' = w := again_any k w
/-- a commit more: into both, and what is told when it comes again -/
theorem PairE.next {w wr w1 : World} {v : Bw} {m pg mb : Nat} {w0 : World} {b : Bw} {L : List Cw} {va : Option Addr} {vc : Nat} {vv : List Dt} {pw : Nat} {S : List Cw} {la : Option Addr} {lc : Nat} {c : Cw} {e : Ending} (h : PairE w wr v m pg mb w0 b L va vc vv pw S la lc) (okc : okV c.c.vv) (hi : InsTo wr pg mb w0 3 b L vv c.c e w1) :
    RgAt w1 pw w m v S la lc ∧ Below w.heap.size w w1 ∧ ∀ (e2 : Ending) (w2 : World), RInsTo w1 pw w m v S c e2 w2 → e2 = .returned (.int .i64 (insE b.b.f (findC (cms L)) L.length c.c)) ∧
      ∃ (L2 : List Cw) (va2 : Option Addr) (vc2 : Nat) (vv2 : List Dt) (S2 : List Cw) (la2 : Option Addr) (lc2 : Nat), L2.length ≤ L.length + 1 ∧ PairE w w2 v m pg mb w0 b L2 va2 vc2 vv2 pw S2 la2 lc2 ∧ insE b.b.f (findC (cms L2)) L2.length c.c = againP (insE b.b.f (findC (cms L)) L.length c.c) := by
  have h1 := hi.1
  obtain ⟨x, hx, hR, hB, hn⟩ := h.ins_ okc hi
  rw [h1] at hx
  injection hx with hx
  injection hx with _ hx
  rw [hx]
  refine ⟨hR, hB, fun e2 w2 h2 => ?_⟩
  obtain ⟨he, hc⟩ := hn e2 w2 h2
  refine ⟨he, ?_⟩
  rcases hc with ⟨hz, hP⟩ | ⟨hz, u, va', vc', la', lc', hu, hP⟩
  · exact ⟨L, va, vc, vv, S, la, lc, by omega, hP, by unfold againP; rw [if_neg hz]; exact hx⟩
  · refine ⟨L ++ [u], va', vc', _, _, la', lc', by simp, hP, ?_⟩
    unfold againP
    rw [if_pos hz, ← hu]
    have hm : u.c ∈ cms (L ++ [u]) := List.mem_map.2 ⟨u, by simp, rfl⟩
    exact insE_twice (hP.gr.may u (by simp)) (by unfold hasG; rw [findC_mem hP.gr.nodup hm]; rfl)
/-- the history's join is the same for both -/
theorem PairE.jn {w wr : World} {v : Bw} {m pg mb : Nat} {w0 : World} {b : Bw} {L : List Cw} {va : Option Addr} {vc : Nat} {vv : List Dt} {pw : Nat} {S : List Cw} {la : Option Addr} {lc : Nat} (h : PairE w wr v m pg mb w0 b L va vc vv pw S la lc) : jnS v.b.f (cms S) = vv :=
  jnS_eq (h.hist.perm h.perm.symm) h.rg.canon (fun c hc => by
    obtain ⟨u, hu, rfl⟩ := List.mem_map.1 hc
    exact (h.rg.each u hu).ok.vv)
theorem PairE.out_ {w wr : World} {v : Bw} {m pg mb : Nat} {w0 : World} {b : Bw} {L : List Cw} {va : Option Addr} {vc : Nat} {vv : List Dt} {pw : Nat} {S : List Cw} {la : Option Addr} {lc : Nat} (h : PairE w wr v m pg mb w0 b L va vc vv pw S la lc) : ∀ u ∈ S, hasV v.b.f u.c.d = false := fun u hu =>
  h.hist.out u.c (h.perm.mem_iff.1 (List.mem_map.2 ⟨u, hu, rfl⟩))
theorem PairE.heads {w wr : World} {v : Bw} {m pg mb : Nat} {w0 : World} {b : Bw} {L : List Cw} {va : Option Addr} {vc : Nat} {vv : List Dt} {pw : Nat} {S : List Cw} {la : Option Addr} {lc : Nat} (h : PairE w wr v m pg mb w0 b L va vc vv pw S la lc) {x y : List Dt} (hx : HeadsP b.b.tips (cms L) x) (hy : HeadsP v.b.tips (cms S) y) : x = y := by
  rw [h.tips] at hx
  exact hx.uniq hy fun c => h.perm.mem_iff.symm
theorem TimeP.perm {t : Int} {L M : List Cm} {n : Int} (h : TimeP t L n) (hp : L.Perm M) : TimeP t M n :=
  ⟨h.1, fun c hc => h.2.1 c (hp.mem_iff.2 hc), h.2.2.imp id fun ⟨c, hc, e⟩ => ⟨c, hp.mem_iff.1 hc, e⟩⟩
theorem PairE.time {w wr : World} {v : Bw} {m pg mb : Nat} {w0 : World} {b : Bw} {L : List Cw} {va : Option Addr} {vc : Nat} {vv : List Dt} {pw : Nat} {S : List Cw} {la : Option Addr} {lc : Nat} (h : PairE w wr v m pg mb w0 b L va vc vv pw S la lc) (ht : b.b.t = v.b.t) {x y : Int} (hx : TimeP b.b.t (cms L) x) (hy : TimeP v.b.t (cms S) y) : x = y := by
  rw [ht] at hx
  exact hx.uniq (hy.perm h.perm)
/-- asked for a dot: nothing, or the commit -/
theorem PairE.get {w wr : World} {v : Bw} {m pg mb : Nat} {w0 : World} {b : Bw} {L : List Cw} {va : Option Addr} {vc : Nat} {vv : List Dt} {pw : Nat} {S : List Cw} {la : Option Addr} {lc : Nat} (h : PairE w wr v m pg mb w0 b L va vc vv pw S la lc) (d : Dt) : (findC (cms L) d = none ∧ ixC S d = -1) ∨ ∃ (k : Nat) (u : Cw), ixC S d = (k : Int) ∧ S[k]? = some u ∧ findC (cms L) d = some u.c ∧ CmP u.c := by
  have hnd := h.nd
  rcases ixC_cases S d with ⟨h1, h2⟩ | ⟨k, u, h1, h2, _, h3⟩
  · exact .inl ⟨by rw [← hnd]; exact h2, h1⟩
  · exact .inr ⟨k, u, h1, h2, by rw [← hnd]; exact h3, h.rg.may u (List.mem_of_getElem? h2)⟩
/-- what was told as all commits -/
structure AllE (w : World) (base : Nat) (a : Option Addr) (c : Nat) (R S : List Cw) : Prop where
  row : OwnC w base a c R
  each : ∀ v ∈ R, CwOwn w base v
  eq : cms R = cms S
  may : ∀ v ∈ R, CmP v.c
  few : R.length ≤ 200
theorem AllE.below {w w' : World} {base : Nat} {a : Option Addr} {c : Nat} {R S : List Cw} (h : AllE w base a c R S) (hb : Below w.heap.size w w') : AllE w' base a c R S :=
  ⟨h.row.below hb, fun v hv => (h.each v hv).below hb, h.eq, h.may, h.few⟩
theorem AllE.rows {w : World} {base : Nat} {a : Option Addr} {c : Nat} {R S : List Cw} (h : AllE w base a c R S) : Cms w a c R := ⟨h.row.cms, fun v hv => (h.each v hv).at_⟩
theorem PairE.all {w wr w' : World} {v : Bw} {m pg mb : Nat} {w0 : World} {b : Bw} {L : List Cw} {va : Option Addr} {vc : Nat} {vv : List Dt} {pw : Nat} {S : List Cw} {la : Option Addr} {lc : Nat} (h : PairE w wr v m pg mb w0 b L va vc vv pw S la lc) {e : Ending} (hc : ComsTo wr (cms L) e w') :
    ∃ a c R, e = .returned (.slice a (List.length R) c) ∧ AllE w' wr.heap.size a c R S ∧ Below wr.heap.size wr w' := by
  obtain ⟨a, c, R, rfl, hp, hs, ho, hcw, hb⟩ := hc
  have e : cms S = cms R := sorted_uniq h.perm h.rg.sorted hp hs
  have hl : R.length = S.length := by have := congrArg List.length e; simpa [cms] using this.symm
  have hf := h.rg.few
  exact ⟨a, c, R, rfl, ⟨ho, hcw, e.symm, fun u hu => h.hist.may u.c (hp.mem_iff.1 (List.mem_map.2 ⟨u, hu, rfl⟩)), by omega⟩, hb⟩
theorem AllE.ste {w w' : World} {base : Nat} {a : Option Addr} {c : Nat} {R S : List Cw} (h : AllE w' base a c R S) (hb : Below w.heap.size w w') (hs : base = w.heap.size) : StE w w' base a c R :=
  ⟨h.row, fun v hv => SeqW.of (h.each v hv).vv (h.may v hv).vv0, by rw [hs]; exact hb, hs⟩
end Go.Proofs.YthdmoplclllhjaaGreat

/- WhlA -/
namespace Go.Proofs.YthdmoplclllhjaaGreat
open Go.RowKit
set_option linter.unusedVariables false
set_option linter.unusedSimpArgs false

end Go.Proofs.YthdmoplclllhjaaGreat

/- PlyB -/
namespace Go.Proofs.YthdmoplclllhjaaGreat
open Go.RowKit
set_option linter.unusedVariables false
set_option linter.unusedSimpArgs false

set_option maxRecDepth 100000 in
set_option maxHeartbeats 32000000 in
theorem graphPlays_walk (v : Bw) (m : Nat) (la0 : Option Addr) (lc0 : Nat) (l : List Cw) (dr di dn : Int) (w : World) (h : BwAt w m v) (hl : Cms w la0 lc0 l) (hd : okD ((dr, di), dn)) :
    Calls Tryz.prog 5 #[.agg (bwcells v), .slice la0 l.length lc0, .agg #[.int .u8 dr, .int .u32 di, .int .u64 dn]] w (fun e w' => e = .returned (.bool true) ∧ Below w.heap.size w w') := by
  obtain ⟨⟨num, F, tips, t, tr⟩, fa, fc, ta, tc, ra, rc⟩ := v
  have hlm := hl.sl.2.2.1
  have hll := hl.sl.2.1
  unfold maxLen at hlm
  have Hd := Lib.hid hd
  have E0 : Hid (((w.alloc (.cells (basecells num fa F.length fc ta tips.length tc t ra tr.length rc) 28)).alloc (.cells #[.int .u8 dr, .int .u32 di, .int .u64 dn] 41)).heap[w.heap.size]? = some (.cells (basecells num fa F.length fc ta tips.length tc t ra tr.length rc) 28 (0, 0)) ∧ ((w.alloc (.cells (basecells num fa F.length fc ta tips.length tc t ra tr.length rc) 28)).alloc (.cells #[.int .u8 dr, .int .u32 di, .int .u64 dn] 41)).heap[w.heap.size + 1]? = some (.cells #[.int .u8 dr, .int .u32 di, .int .u64 dn] 41 (0, 0)) ∧ Below w.heap.size w ((w.alloc (.cells (basecells num fa F.length fc ta tips.length tc t ra tr.length rc) 28)).alloc (.cells #[.int .u8 dr, .int .u32 di, .int .u64 dn] 41))) :=
    Lib.hid ⟨(heap_old _ _ (by simp)).trans (heap_new _ _), heap_new2 _ _ _, ((Below.refl _ _).alloc (Nat.le_refl _) _).alloc (by simp) _⟩
  have H0 := Lib.hid h
  have HL0 := Lib.hid hl
  clear h hl hd
  simp only [bwcells]
  go_enter Tryz.func5, Tryz.ntmps5
  go_upto_region 1 with (fail)
  generalize hwE : ((w.alloc (.cells (basecells num fa F.length fc ta tips.length tc t ra tr.length rc) 28)).alloc (.cells #[.int .u8 dr, .int .u32 di, .int .u64 dn] 41)) = wE at E0 ⊢
  clear hwE
  have HX : Hid (wE.heap[w.heap.size]? = some (.cells (basecells num fa F.length fc ta tips.length tc t ra tr.length rc) 28 (0, 0))) := Lib.hid E0.out.1
  have HY : Hid (wE.heap[w.heap.size + 1]? = some (.cells #[.int .u8 dr, .int .u32 di, .int .u64 dn] 41 (0, 0))) := Lib.hid E0.out.2.1
  have BE := Lib.hid E0.out.2.2
  have H := Lib.hid (H0.out.below BE.out)
  have HL := Lib.hid (HL0.out.below BE.out)
  clear E0 H0 HL0
  have x0 := heap_lt HX.out
  have y0 := heap_lt HY.out
  have d0 := cells_at HX.out
  simp only [basecells] at d0
  go_wp2_with fail
  refine (great12_any ⟨⟨num, F, tips, t, tr⟩, fa, fc, ta, tc, ra, rc⟩ m la0 lc0 l _ H.out HL.out).mono ?_
  intro e w1 hto
  obtain ⟨z, rfl, hz, hb⟩ := hto
  have B1 := Lib.hid hb
  have Hz := Lib.hid hz
  clear hb hz d0
  have d0 := cells_at ((B1.out.block _ x0).trans HX.out)
  have z0 := heap_lt ((B1.out.block _ x0).trans HX.out)
  simp only [basecells] at d0
  cases z with
  | true =>
    go_wp2_with fail
    refine (known12_any _).mono ?_
    rintro e w2 ⟨rfl, hb⟩
    have HB := Lib.hid (below2 BE.out (below2 B1.out hb B1.out.size) BE.out.size)
    clear hb
    go_wp2_with fail
    go_ret
    exact ⟨rfl, HB.out⟩
  | false =>
    have HG := Lib.hid (Hz.out rfl)
    have g1 := HG.out.f
    have g2 := HG.out.tips
    have g3 := HG.out.few
    dsimp only at g1 g2
    have HBd : Hid (BdA 1100000 3 tr) := Lib.hid (WdP.bdA HG.out.tr)
    clear Hz
    go_wp2_with fail
    refine (new_any ⟨⟨num, F, tips, t, tr⟩, fa, fc, ta, tc, ra, rc⟩ m _ (H.out.below B1.out) (by show F.length ≤ 1100000; omega) (by show tips.length ≤ 1100000; omega) HBd.out).mono ?_
    intro e w2 hto
    rcases hto with ⟨hP, pg, mb, w0, b, va, vc, rfl, hsame, hG, hb, hold⟩ | ⟨hn, rfl, hb⟩
    rotate_left
    · have B2 := Lib.hid (below2 B1.out hb B1.out.size)
      have HN := Lib.hid hn
      clear hb hn
      have C2d : Hid (Below w2.heap.size w2 w2.drew) := Lib.hid ((Below.refl w2.heap.size w2).drew)
      have B2d := Lib.hid (B2.out.trans (C2d.out.mono B2.out.size))
      clear d0 z0
      have d0 := cells_at ((B2.out.block _ x0).trans HX.out)
      have z0 := heap_lt ((B2.out.block _ x0).trans HX.out)
      simp only [basecells] at d0
      go_wp2_with fail
      refine region_text [([0, 2], false), ([1], true), ([3, 4], false)] mixed (by kernel_rfl) ?_
      simp only [wpSegs, List.map_cons, List.map_nil, List.getD_cons_succ, List.getD_cons_zero]
      go_wp2_with fail
      refine (mayBase_any ⟨⟨num, F, tips, t, tr⟩, fa, fc, ta, tc, ra, rc⟩ m _ (H.out.below B2d.out) (by show F.length ≤ 1100000; omega) (by show tips.length ≤ 1100000; omega) HBd.out).mono ?_
      rintro e w3 ⟨q, rfl, hq, hb⟩
      obtain rfl : q = false := (by cases q with | false => rfl | true => exact absurd (hq.1 rfl) HN.out)
      have hA3 := Agree.of_below hb
      have B3 := Lib.hid (below2 B2d.out hb B2d.out.size)
      have C3 := Lib.hid (below2 C2d.out hb C2d.out.size)
      clear hb hq d0 z0
      have d0 := cells_at ((B3.out.block _ x0).trans HX.out)
      have z0 := heap_lt ((B3.out.block _ x0).trans HX.out)
      simp only [basecells] at d0
      go_wp2_with fail
      refine And.intro hA3 ?_
      clear hA3
      go_wp2_with fail
      refine (rmayBase_any ⟨⟨num, F, tips, t, tr⟩, fa, fc, ta, tc, ra, rc⟩ m _ (H.out.below B3.out) (by show F.length ≤ 1100000; omega) (by show tips.length ≤ 1100000; omega) HBd.out).mono ?_
      rintro e w4 ⟨q, rfl, hq, hb⟩
      obtain rfl : q = false := (by cases q with | false => rfl | true => exact absurd (hq.1 rfl) HN.out)
      have B4 := Lib.hid (below2 B3.out hb B3.out.size)
      have C4 := Lib.hid (below2 C3.out hb C3.out.size)
      clear hb hq d0 z0
      have d0 := cells_at ((B4.out.block _ x0).trans HX.out)
      have z0 := heap_lt ((B4.out.block _ x0).trans HX.out)
      simp only [basecells] at d0
      go_wp2_with fail
      refine And.intro (by kernel_rfl) ?_
      go_wp2_with fail
      refine (rmayBase_any ⟨⟨num, F, tips, t, tr⟩, fa, fc, ta, tc, ra, rc⟩ m _ (H.out.below B4.out) (by show F.length ≤ 1100000; omega) (by show tips.length ≤ 1100000; omega) HBd.out).mono ?_
      rintro e w5 ⟨q, rfl, hq, hb⟩
      obtain rfl : q = false := (by cases q with | false => rfl | true => exact absurd (hq.1 rfl) HN.out)
      have B5 := Lib.hid (below2 B4.out hb B4.out.size)
      have C5 := Lib.hid (below2 C4.out hb C4.out.size)
      clear hb hq d0 z0
      have d0 := cells_at ((B5.out.block _ x0).trans HX.out)
      have z0 := heap_lt ((B5.out.block _ x0).trans HX.out)
      simp only [basecells] at d0
      go_wp2_with fail
      refine (known12_any _).mono ?_
      rintro e w6 ⟨rfl, hb⟩
      have HB := Lib.hid (below2 BE.out (below2 B5.out hb B5.out.size) BE.out.size)
      clear hb
      go_wp2_with fail
      go_ret
      exact ⟨rfl, HB.out⟩
    have B2 := Lib.hid (below2 B1.out hb B1.out.size)
    have HP := Lib.hid hP
    have Hs := Lib.hid hsame
    have HGr := Lib.hid hG
    have hold2 : wE.heap.size ≤ w0.heap.size := Nat.le_trans B1.out.size hold
    clear hb hP hsame hG hold
    have C2d : Hid (Below w2.heap.size w2 w2.drew) := Lib.hid ((Below.refl w2.heap.size w2).drew)
    have B2d := Lib.hid (B2.out.trans (C2d.out.mono B2.out.size))
    clear d0 z0
    have d0 := cells_at ((B2.out.block _ x0).trans HX.out)
    have z0 := heap_lt ((B2.out.block _ x0).trans HX.out)
    simp only [basecells] at d0
    go_wp2_with fail
    refine region_text [([0, 2], false), ([1], true), ([3, 4], false)] mixed (by kernel_rfl) ?_
    simp only [wpSegs, List.map_cons, List.map_nil, List.getD_cons_succ, List.getD_cons_zero]
    go_wp2_with fail
    refine (mayBase_any ⟨⟨num, F, tips, t, tr⟩, fa, fc, ta, tc, ra, rc⟩ m _ (H.out.below B2d.out) (by show F.length ≤ 1100000; omega) (by show tips.length ≤ 1100000; omega) HBd.out).mono ?_
    rintro e w3 ⟨q, rfl, hq, hb⟩
    obtain rfl : q = true := hq.2 HP.out
    have hA3 := Agree.of_below hb
    have B3 := Lib.hid (below2 B2d.out hb B2d.out.size)
    have C3 := Lib.hid (below2 C2d.out hb C2d.out.size)
    clear hb hq d0 z0
    have d0 := cells_at ((B3.out.block _ x0).trans HX.out)
    have z0 := heap_lt ((B3.out.block _ x0).trans HX.out)
    simp only [basecells] at d0
    go_wp2_with fail
    refine And.intro hA3 ?_
    clear hA3
    go_wp2_with fail
    refine (rmayBase_any ⟨⟨num, F, tips, t, tr⟩, fa, fc, ta, tc, ra, rc⟩ m _ (H.out.below B3.out) (by show F.length ≤ 1100000; omega) (by show tips.length ≤ 1100000; omega) HBd.out).mono ?_
    rintro e w4 ⟨q, rfl, hq, hb⟩
    obtain rfl : q = true := hq.2 HP.out
    have B4 := Lib.hid (below2 B3.out hb B3.out.size)
    have C4 := Lib.hid (below2 C3.out hb C3.out.size)
    clear hb hq d0 z0
    have d0 := cells_at ((B4.out.block _ x0).trans HX.out)
    have z0 := heap_lt ((B4.out.block _ x0).trans HX.out)
    simp only [basecells] at d0
    go_wp2_with fail
    refine And.intro (by kernel_rfl) ?_
    go_wp2_with fail
    refine (rmayBase_any ⟨⟨num, F, tips, t, tr⟩, fa, fc, ta, tc, ra, rc⟩ m _ (H.out.below B4.out) (by show F.length ≤ 1100000; omega) (by show tips.length ≤ 1100000; omega) HBd.out).mono ?_
    rintro e w5 ⟨q, rfl, hq, hb⟩
    obtain rfl : q = true := hq.2 HP.out
    have B5 := Lib.hid (below2 B4.out hb B4.out.size)
    have C5 := Lib.hid (below2 C4.out hb C4.out.size)
    clear hb hq d0 z0
    have d0 := cells_at ((B5.out.block _ x0).trans HX.out)
    have z0 := heap_lt ((B5.out.block _ x0).trans HX.out)
    simp only [basecells] at d0
    have W0 : Hid (PairE wE (w5.alloc (.cells (rgcells num fa F.length fc ta tips.length tc t ra tr.length rc none 0 0) 61)) ⟨⟨num, F, tips, t, tr⟩, fa, fc, ta, tc, ra, rc⟩ m pg mb w0 b [] va vc b.b.f w5.heap.size [] none 0) := Lib.hid (by
      have hA : Below w5.heap.size w5 (w5.alloc (.cells (rgcells num fa F.length fc ta tips.length tc t ra tr.length rc none 0 0) 61)) := (Below.refl _ _).alloc (Nat.le_refl _) _
      have hcan : canonV F = F := HP.out.canon
      have hbf : b.b.f = F := Hs.out.f
      have HG5 := HGr.out.below C5.out
      exact ⟨HG5.below hA, ⟨heap_new _ _, below2 B5.out hA B5.out.size, B5.out.size, H.out, OwnC.nil _ _, fun y hy => (by cases hy), List.Pairwise.nil, List.nodup_nil, fun y hy => (by cases hy), Nat.zero_le _, hcan⟩, hbf, Hs.out.tips, Hs.out.tr, List.Perm.refl _, by rw [hbf]; exact HistP.start H.out.okf hcan, HistI.start _, hold2, HG5.bel.size, below2 B5.out hA B5.out.size⟩)
    have HBb : Hid (BdA 1100000 3 b.b.tr) := Lib.hid (BdA.same HBd.out Hs.out.tr)
    clear HGr C2d C3 C4 C5 B2 B2d B3 B4
    go_wp2_with fail
    generalize b.b.f = vv0 at W0
    clear d0 z0
    generalize hpw : w5.heap.size = pw at W0 ⊢
    clear hpw
    generalize w5.alloc (.cells (rgcells num fa F.length fc ta tips.length tc t ra tr.length rc none 0 0) 61) = w6 at W0 ⊢
    go_loopw [56] (fun j wr => ∃ (q : Nat) (L : List Cw) (va' : Option Addr) (vc' : Nat) (vv : List Dt) (S : List Cw) (la' : Option Addr) (lc' : Nat), q ≤ l.length ∧ j = .int .i64 q ∧ L.length ≤ q ∧ Hid (PairE wE wr ⟨⟨num, F, tips, t, tr⟩, fa, fc, ta, tc, ra, rc⟩ m pg mb w0 b L va' vc' vv pw S la' lc')) (fun j _ => l.length - (intOf j).toNat)
    case atStart => exact ⟨0, [], va, vc, vv0, [], none, 0, Nat.zero_le _, rfl, Nat.le_refl _, W0⟩
    case round =>
      obtain ⟨q, L, va', vc', vv, S, la', lc', hq, rfl, hLq, W⟩ := hrel
      clear W0
      by_cases hlt : q < l.length
      rotate_left
      · go_wp2_with fail
        refine (known12_any _).mono ?_
        rintro e w7 ⟨rfl, hb⟩
        have HB := Lib.hid (below2 BE.out (below2 W.out.bel hb W.out.bel.size) BE.out.size)
        clear hb
        go_wp2_with fail
        go_ret
        exact ⟨rfl, HB.out⟩
      obtain ⟨v, hv⟩ : ∃ v, l[q]? = some v := ⟨l[q], by simp [hlt]⟩
      obtain ⟨ad, had, ⟨c0, c1, c2, c3, c4, c5, c6, c7, c8, c9, c10⟩, hlb⟩ := (HL.out.below W.out.bel).at_ hv
      subst had
      have Hat := Lib.hid (HL.out.each v (List.mem_of_getElem? hv))
      have Hn := Lib.hid (HG.out.each v (List.mem_of_getElem? hv))
      clear hv
      obtain ⟨⟨⟨⟨r, i⟩, s⟩, ps, uu, t1, ⟨k, n, x, p, ds⟩⟩, qa, qc, ua, uc, pa, pc, da, dc⟩ := v
      dsimp only at c0 c1 c2 c3 c4 c5 c6 c7 c8 c9 c10
      have hn2 := Hn.out.2.1
      dsimp only at hn2
      have HA : Hid (BoxE 46 wr (wr.alloc (.cells (ccells r i s qa ps.length qc ua uu.length uc t1 k pa p.length pc n x da ds.length dc) 46)) (ccells r i s qa ps.length qc ua uu.length uc t1 k pa p.length pc n x da ds.length dc)) := Lib.hid ⟨heap_new _ _, (Below.refl _ _).alloc (Nat.le_refl _) _⟩
      have WA := Lib.hid (W.out.below HA.out.bel)
      have hgt : wr.heap.size + 1 ≤ (wr.alloc (.cells (ccells r i s qa ps.length qc ua uu.length uc t1 k pa p.length pc n x da ds.length dc) 46)).heap.size := by simp
      go_upto_region 14 with (fail)
      clear c0 c1 c2 c3 c4 c5 c6 c7 c8 c9 c10 hlb
      generalize hpcb : wr.heap.size = pcb at HA hgt ⊢
      have HC : Hid ((wr.alloc (.cells (ccells r i s qa ps.length qc ua uu.length uc t1 k pa p.length pc n x da ds.length dc) 46)).heap[pcb]? = some (.cells (ccells r i s qa ps.length qc ua uu.length uc t1 k pa p.length pc n x da ds.length dc) 46 (0, 0))) := Lib.hid (by rw [← hpcb]; exact HA.out.blk)
      clear HA
      have hpx := heap_lt HC.out
      generalize (wr.alloc (.cells (ccells r i s qa ps.length qc ua uu.length uc t1 k pa p.length pc n x da ds.length dc) 46)) = wA at WA HC hgt hpx ⊢
      have Hq := Lib.hid hpcb
      clear hpcb hgt
      go_wp2_with fail
      refine (copy_G pg mb w0 b L va' vc' vv _ WA.out.gr HBb.out).mono ?_
      rintro e w7 ⟨pg2, mb2, w02, b2, va2, vc2, rfl, hs2, hG2, hb7, hold7⟩
      have B7 : Hid (Below wA.heap.size wA w7.drew) := Lib.hid (hb7.trans (((Below.refl w7.heap.size w7).drew).mono hb7.size))
      have HC7 := Lib.hid ((B7.out.block _ hpx).trans HC.out)
      have HG2 := Lib.hid (hG2.below (Below.refl _ _).drew)
      have hle1 : wA.heap.size ≤ pg2 := Nat.le_trans hold7 hG2.old.1
      have hle2 : wA.heap.size ≤ mb2 := Nat.le_trans hold7 hG2.old.2
      have hf2 := Lib.hid (show b2.b.f = b.b.f from hs2.f)
      have d0 := cells_at HC7.out
      simp only [ccells] at d0
      have z0 := heap_lt HC7.out
      clear hb7 hs2 hG2 hold7
      go_wp2_with fail
      refine region_tree_at (fun k => k = pcb) (sgOf [([0, 1, 3, 4], false), ([2], true), ([5, 6], false)]) mixed (by kernel_rfl) ?_
      simp only [sgOf, wpSgB, List.map_cons, List.map_nil, List.getD_cons_succ, List.getD_cons_zero]
      go_wp2_with fail
      refine (insert_G pg2 mb2 w02 3 b2 L va2 vc2 vv ⟨⟨((r, i), s), ps, uu, t1, ⟨k, n, x, p, ds⟩⟩, qa, qc, ua, uc, pa, pc, da, dc⟩ _ HG2.out (Hat.out.below (below2 WA.out.bel B7.out WA.out.bel.size)) (by dsimp only; omega)).mono ?_
      intro e w8 hto
      have hb8 := hto.bel B7.out.size hle1 hle2
      have h8 := hto.1
      dsimp only at h8
      rw [hf2.out] at h8
      subst h8
      have B8 := Lib.hid (B7.out.trans hb8)
      have HC8 := Lib.hid ((B8.out.block _ hpx).trans HC.out)
      have hH8 := held_new HC7.out HC8.out
      have W8 := Lib.hid (WA.out.below B8.out)
      clear hto hb8 d0 z0 HG2 hle1 hle2
      have d0 := cells_at HC8.out
      simp only [ccells] at d0
      have z0 := heap_lt HC8.out
      obtain ⟨X, hX⟩ : ∃ X, X = insE b.b.f (findC (cms L)) L.length ⟨((r, i), s), ps, uu, t1, ⟨k, n, x, p, ds⟩⟩ := ⟨_, rfl⟩
      rw [← hX]
      have HXx := Lib.hid hX
      clear hX
      go_wp2_with fail
      refine And.intro hH8 ?_
      clear hH8
      go_wp2_with fail
      refine (insert_G pg mb w0 3 b L va' vc' vv ⟨⟨((r, i), s), ps, uu, t1, ⟨k, n, x, p, ds⟩⟩, qa, qc, ua, uc, pa, pc, da, dc⟩ _ W8.out.gr (Hat.out.below W8.out.bel) (by dsimp only; omega)).mono ?_
      intro e w9 hto
      have HN := Lib.hid (W8.out.next (c := ⟨⟨((r, i), s), ps, uu, t1, ⟨k, n, x, p, ds⟩⟩, qa, qc, ua, uc, pa, pc, da, dc⟩) Hat.out.ok.vv hto)
      have HC9 := Lib.hid (hto.keep HC8.out (by have := Hq.out; have := heap_lt W.out.gr.blk; omega) (by have := Hq.out; have := W.out.gr.map.lt; omega))
      have h9 := hto.1
      dsimp only at h9
      rw [← HXx.out] at h9
      subst h9
      clear hto d0 z0
      have d0 := cells_at HC9.out
      simp only [ccells] at d0
      have z0 := heap_lt HC9.out
      have hne : (X != X) = false := by simp
      go_wp2_with fail
      refine And.intro (And.intro (by kernel_rfl) (reads_of ?rds)) ?_
      case rds => exact ⟨trivial, rfl, trivial, trivial, rfl, trivial, trivial, trivial⟩
      go_wp2_with fail
      refine (insert_R pw wE m ⟨⟨num, F, tips, t, tr⟩, fa, fc, ta, tc, ra, rc⟩ S la' lc' ⟨⟨((r, i), s), ps, uu, t1, ⟨k, n, x, p, ds⟩⟩, qa, qc, ua, uc, pa, pc, da, dc⟩ _ HN.out.1 Hat.out (by dsimp only; omega)).mono ?_
      intro e w10 hto
      have HC10 := Lib.hid (hto.keep HC9.out (by have := Hq.out; have := heap_lt W.out.rg.blk; omega))
      obtain ⟨rfl, L2, va2, vc2, vv2, S2, la2, lc2, hl2, hW2, hY⟩ := HN.out.2.2 e w10 hto
      rw [← HXx.out] at hY ⊢
      have HY2 := Lib.hid hY
      have W2 := Lib.hid hW2
      clear hto hY hW2 HN d0 z0 HXx HC9 W8 HC8 HC7 B8 B7 WA HC
      have d0 := cells_at HC10.out
      simp only [ccells] at d0
      have z0 := heap_lt HC10.out
      have hne2 : (againP X != againP X) = false := by simp
      go_wp2_with fail
      refine (insert_G pg mb w0 3 b L2 va2 vc2 vv2 ⟨⟨((r, i), s), ps, uu, t1, ⟨k, n, x, p, ds⟩⟩, qa, qc, ua, uc, pa, pc, da, dc⟩ _ W2.out.gr (Hat.out.below W2.out.bel) (by dsimp only; omega)).mono ?_
      intro e w11 hto
      have hb11 := hto.no_ (by dsimp only; rw [HY2.out]; exact againP_ne X)
      have h11 := hto.1
      dsimp only at h11
      rw [HY2.out] at h11
      subst h11
      have W3 := Lib.hid (W2.out.below hb11)
      have HC11 := Lib.hid ((hb11.block _ (heap_lt HC10.out)).trans HC10.out)
      clear hto hb11 d0 z0 W2 HC10 HY2
      go_wp2_with fail
      refine (again_P X _).mono ?_
      rintro e w12 ⟨rfl, rfl⟩
      go_wp2_with fail
      clear hne hne2
      refine (commits_G pg mb w0 3 b L2 va2 vc2 vv2 _ W3.out.gr).mono ?_
      intro e w13 hto
      obtain ⟨ga, gc, R, rfl, hA, hb⟩ := W3.out.all hto
      have W4 := Lib.hid (W3.out.below hb)
      have HR := Lib.hid hA
      have D0 := Lib.hid hb
      have D1 : Hid (Below w13.heap.size w13 w13.drew) := Lib.hid ((Below.refl _ _).drew)
      have hrf := hA.few
      have hsl := W4.out.rg.few
      clear hto hA hb HC11
      have p0 := cells_at W4.out.rg.blk
      simp only [rgcells] at p0
      have pz := heap_lt W4.out.rg.blk
      go_wp2_with fail
      refine region_text [([0, 1, 2, 3, 4, 5, 6, 7, 8, 10, 9, 11, 12, 13, 14, 15, 16, 18, 17, 19, 20, 21, 22, 23, 24, 26, 25, 27, 28, 29, 30, 31, 33], false), ([32], true), ([34, 35, 36, 37, 38, 39, 41, 42], false), ([40], true), ([43, 44, 45], false)] mixed (by kernel_rfl) ?_
      simp only [wpSegs, List.map_cons, List.map_nil, List.getD_cons_succ, List.getD_cons_zero]
      go_wp2_with fail
      refine (sameAll11_any ga la2 gc lc2 R S2 _ (HR.out.below D1.out).rows (W4.out.below D1.out).rg.rows (fun v hv => (HR.out.may v hv).b) HR.out.eq (by omega)).mono ?_
      rintro e w14 ⟨rfl, hb⟩
      have D2 := Lib.hid (below2 D1.out hb D1.out.size)
      clear hb p0 pz
      go_wp2_with fail
      refine (heads_G pg mb w0 3 b L2 va2 vc2 vv2 _ (W4.out.below D2.out).gr).mono ?_
      rintro e w15 ⟨ha, hc, Hl, rfl, hp, hok, hlen, ho, hb⟩
      have D3 := Lib.hid (below2 D2.out hb D2.out.size)
      have HHp := Lib.hid hp
      have HHo := Lib.hid ho
      clear hb hp ho hok
      go_wp2_with fail
      refine (heads_R pw wE m ⟨⟨num, F, tips, t, tr⟩, fa, fc, ta, tc, ra, rc⟩ S2 la2 lc2 _ (W4.out.below D3.out).rg HP.out W4.out.out_).mono ?_
      rintro e w16 ⟨ha', hc', Hl', rfl, hp, hok, hlen', ho, hb⟩
      obtain rfl : Hl = Hl' := W4.out.heads HHp.out hp
      have D4 := Lib.hid (below2 D3.out hb D3.out.size)
      have HH1 := Lib.hid (HHo.out.vec.below hb)
      have HH2 := Lib.hid ho.vec
      clear hb hp ho hok HHp HHo
      have e1 : decide (Hl = Hl) = true := decide_eq_true rfl
      go_wp2_with fail
      refine (same_any ha ha' hc hc' Hl Hl _ HH1.out HH2.out (by omega) (by omega)).mono ?_
      rintro e w17 ⟨rfl, hb⟩
      have D5 := Lib.hid (below2 D4.out hb D4.out.size)
      clear hb HH1 HH2
      go_wp2_with fail
      refine (vv_G pg mb w0 3 b L2 va2 vc2 vv2 _ (W4.out.below D5.out).gr).mono ?_
      rintro e w18 ⟨na, nc, rfl, ho, hb⟩
      have D6 := Lib.hid (below2 D5.out hb D5.out.size)
      have HV := Lib.hid ho
      clear ho hb
      have hj := vv_R pw wE m ⟨⟨num, F, tips, t, tr⟩, fa, fc, ta, tc, ra, rc⟩ S2 la2 lc2 w18 (W4.out.below D6.out).rg
      rw [W4.out.jn] at hj
      have Hj := Lib.hid hj
      clear hj
      go_wp2_with fail
      refine Hj.out.mono ?_
      rintro e w19 ⟨na', nc', rfl, ho, hb⟩
      have D7 := Lib.hid (below2 D6.out hb D6.out.size)
      have HV1 := Lib.hid (HV.out.vec.below hb)
      have HV2 := Lib.hid ho.vec
      have hvm := W4.out.gr.vmax
      clear ho hb HV Hj
      have e2 : decide (vv2 = vv2) = true := decide_eq_true rfl
      go_wp2_with fail
      refine (same_any na na' nc nc' vv2 vv2 _ HV1.out HV2.out (by omega) (by omega)).mono ?_
      rintro e w20 ⟨rfl, hb⟩
      have D8 := Lib.hid (below2 D7.out hb D7.out.size)
      clear hb HV1 HV2
      go_wp2_with fail
      refine (time_G pg mb w0 3 b L2 va2 vc2 vv2 _ (W4.out.below D8.out).gr).mono ?_
      rintro e w21 ⟨tn, rfl, hT, hb⟩
      have D9 := Lib.hid (below2 D8.out hb D8.out.size)
      have HT := Lib.hid hT
      clear hb hT
      go_wp2_with fail
      refine (time_R pw wE m ⟨⟨num, F, tips, t, tr⟩, fa, fc, ta, tc, ra, rc⟩ S2 la2 lc2 _ (W4.out.below D9.out).rg).mono ?_
      rintro e w22 ⟨tn', rfl, hT, hb⟩
      obtain rfl : tn = tn' := W4.out.time Hs.out.t HT.out hT
      have D10 := Lib.hid (below2 D9.out hb D9.out.size)
      clear hb hT HT
      have e3 : (tn != tn) = false := by simp
      have d0 := cells_at (((below2 W4.out.bel D10.out W4.out.bel.size).block _ x0).trans HX.out)
      have z0 := heap_lt (((below2 W4.out.bel D10.out W4.out.bel.size).block _ x0).trans HX.out)
      have d1 := cells_at (((below2 W4.out.bel D10.out W4.out.bel.size).block _ y0).trans HY.out)
      have z1 := heap_lt (((below2 W4.out.bel D10.out W4.out.bel.size).block _ y0).trans HY.out)
      simp only [basecells] at d0
      go_wp2_with fail
      refine (base_G pg mb w0 3 b L2 va2 vc2 vv2 _ (W4.out.below D10.out).gr W4.out.gr.base.tr HBb.out).mono ?_
      rintro e w23 ⟨⟨⟨num', F', tips', t', tr'⟩, fa', fc', ta', tc', ra', rc'⟩, rfl, hsb, hob, hb⟩
      have hA23 := Agree.of_below hb
      have D11 := Lib.hid (below2 D10.out hb D10.out.size)
      have HSb := Lib.hid hsb
      have HOb := Lib.hid (hob.at_ hsb W4.out.gr.base)
      clear hb hsb hob d0 z0 d1 z1
      have hF' : F'.length ≤ 1100000 := by have h1 : F' = b.b.f := HSb.out.f; have h2 : b.b.f = F := Hs.out.f; rw [h1, h2]; omega
      have htips' : tips'.length ≤ 1100000 := by have h1 : tips' = b.b.tips := HSb.out.tips; have h2 : b.b.tips = tips := Hs.out.tips; rw [h1, h2]; omega
      have d0 := cells_at (((below2 W4.out.bel D11.out W4.out.bel.size).block _ x0).trans HX.out)
      have z0 := heap_lt (((below2 W4.out.bel D11.out W4.out.bel.size).block _ x0).trans HX.out)
      have d1 := cells_at (((below2 W4.out.bel D11.out W4.out.bel.size).block _ y0).trans HY.out)
      have z1 := heap_lt (((below2 W4.out.bel D11.out W4.out.bel.size).block _ y0).trans HY.out)
      simp only [basecells] at d0
      go_wp2_with fail
      refine And.intro hA23 ?_
      clear hA23
      go_wp2_with fail
      refine (sameBase_any ⟨⟨num', F', tips', t', tr'⟩, fa', fc', ta', tc', ra', rc'⟩ ⟨⟨num, F, tips, t, tr⟩, fa, fc, ta, tc, ra, rc⟩ 3 m _ HOb.out (H.out.below (below2 W4.out.bel D11.out W4.out.bel.size)) (Hs.out.trans HSb.out).symm (BdA.same HBb.out HSb.out.tr) hF' htips').mono ?_
      rintro e w24 ⟨rfl, hb⟩
      have D12 := Lib.hid (below2 D11.out hb D11.out.size)
      clear hb HOb HSb hF' htips' d0 z0 d1 z1
      have d0 := cells_at (((below2 W4.out.bel D12.out W4.out.bel.size).block _ x0).trans HX.out)
      have z0 := heap_lt (((below2 W4.out.bel D12.out W4.out.bel.size).block _ x0).trans HX.out)
      have d1 := cells_at (((below2 W4.out.bel D12.out W4.out.bel.size).block _ y0).trans HY.out)
      have z1 := heap_lt (((below2 W4.out.bel D12.out W4.out.bel.size).block _ y0).trans HY.out)
      simp only [basecells] at d0
      go_wp2_with fail
      refine (has_G pg mb w0 3 b L2 va2 vc2 vv2 dr di dn _ (W4.out.below D12.out).gr Hd.out).mono ?_
      rintro e w25 ⟨rfl, hb⟩
      have hA25 := Agree.of_below hb
      have D13 := Lib.hid (below2 D12.out hb D12.out.size)
      clear hb d0 z0 d1 z1
      have d0 := cells_at (((below2 W4.out.bel D13.out W4.out.bel.size).block _ x0).trans HX.out)
      have z0 := heap_lt (((below2 W4.out.bel D13.out W4.out.bel.size).block _ x0).trans HX.out)
      have d1 := cells_at (((below2 W4.out.bel D13.out W4.out.bel.size).block _ y0).trans HY.out)
      have z1 := heap_lt (((below2 W4.out.bel D13.out W4.out.bel.size).block _ y0).trans HY.out)
      simp only [basecells] at d0
      have hj := has_R pw wE m ⟨⟨num, F, tips, t, tr⟩, fa, fc, ta, tc, ra, rc⟩ S2 la2 lc2 dr di dn w25 (W4.out.below D13.out).rg
      rw [W4.out.nd, ← W4.out.same] at hj
      obtain ⟨Z, hZ⟩ : ∃ Z, Z = hasG b.b.f (findC (cms L2)) ((dr, di), dn) := ⟨_, rfl⟩
      rw [← hZ] at hj ⊢
      have Hj := Lib.hid hj
      clear hj hZ
      have e4 : (Z != Z) = false := by simp
      go_wp2_with fail
      refine And.intro hA25 ?_
      clear hA25
      go_wp2_with fail
      refine Hj.out.mono ?_
      rintro e w26 ⟨rfl, hb⟩
      have D14 := Lib.hid (below2 D13.out hb D13.out.size)
      clear hb Hj d0 z0 d1 z1
      have d0 := cells_at (((below2 W4.out.bel D14.out W4.out.bel.size).block _ x0).trans HX.out)
      have z0 := heap_lt (((below2 W4.out.bel D14.out W4.out.bel.size).block _ x0).trans HX.out)
      have d1 := cells_at (((below2 W4.out.bel D14.out W4.out.bel.size).block _ y0).trans HY.out)
      have z1 := heap_lt (((below2 W4.out.bel D14.out W4.out.bel.size).block _ y0).trans HY.out)
      simp only [basecells] at d0
      go_wp2_with fail
      refine And.intro (by kernel_rfl) ?_
      clear e1 e2 e3 e4
      have hgg := get_G pg mb w0 3 b L2 va2 vc2 vv2 dr di dn w26 (W4.out.below D14.out).gr Hd.out
      rcases W4.out.get ((dr, di), dn) with ⟨hf, hk⟩ | ⟨kk, y, hk, hy, hf, hm⟩
      · rw [hf] at hgg
        have Hgg := Lib.hid hgg
        have Hk := Lib.hid hk
        clear hgg hk hf
        go_wp2_with fail
        refine Hgg.out.mono ?_
        rintro e w27 ⟨⟨⟨⟨⟨r2, i2⟩, s2⟩, ps2, uu2, tt2, ⟨k2, n2, x2, p2, ds2⟩⟩, qa2, qc2, ua2, uc2, pa2, pc2, da2, dc2⟩, rfl, hu, ho, hb⟩
        have D15 : Hid (Below w13.heap.size w13 (w27.alloc (.cells (ccells r2 i2 s2 qa2 ps2.length qc2 ua2 uu2.length uc2 tt2 k2 pa2 p2.length pc2 n2 x2 da2 ds2.length dc2) 46))) := Lib.hid ((below2 D14.out hb D14.out.size).alloc (below2 D14.out hb D14.out.size).size _)
        clear hb hu ho Hgg d0 z0 d1 z1
        have d0 := cells_at (((below2 W4.out.bel D15.out W4.out.bel.size).block _ x0).trans HX.out)
        have z0 := heap_lt (((below2 W4.out.bel D15.out W4.out.bel.size).block _ x0).trans HX.out)
        have d1 := cells_at (((below2 W4.out.bel D15.out W4.out.bel.size).block _ y0).trans HY.out)
        have z1 := heap_lt (((below2 W4.out.bel D15.out W4.out.bel.size).block _ y0).trans HY.out)
        simp only [basecells] at d0
        simp only [cwcells, Option.isSome_none]
        go_wp2_with fail
        refine (find_R pw wE m ⟨⟨num, F, tips, t, tr⟩, fa, fc, ta, tc, ra, rc⟩ S2 la2 lc2 dr di dn _ (W4.out.below D15.out).rg).mono ?_
        rintro e w28 ⟨rfl, hb⟩
        have D16 := Lib.hid (below2 D15.out hb D15.out.size)
        clear hb d0 z0 d1 z1 D15
        rw [Hk.out]
        go_wp2_with fail
        obtain ⟨wz, hwz⟩ : ∃ wz, wz = w28.drew := ⟨_, rfl⟩
        replace D16 := Lib.hid (D16.out.trans (((Below.refl w28.heap.size w28).drew).mono D16.out.size))
        rw [← hwz] at D16
        refine region_text [([0, 1, 2, 3, 4, 5, 6, 7, 8, 9, 10, 11, 12, 13, 14, 15, 16, 17, 18], false)] mixed (by kernel_rfl) ?_
        simp only [wpSegs, List.map_cons, List.map_nil, List.getD_cons_succ, List.getD_cons_zero]
        rw [← hwz]
        clear hwz
        go_wp2_with fail
        refine And.intro (by kernel_rfl) ?_
        have E4 : Hid (StE w12 wz w12.heap.size ga gc R) := Lib.hid ((HR.out.below D16.out).ste (below2 D0.out D16.out D0.out.size) rfl)
        have HMay := Lib.hid HR.out.may
        clear D16 HR D0
        go_wp2_with fail
        go_loopw [156] (fun j wx => ∃ z : Nat, z ≤ R.length ∧ j = .int .i64 z ∧ Hid (StE w12 wx w12.heap.size ga gc R)) (fun j _ => R.length - (intOf j).toNat)
        case atStart => exact ⟨0, by omega, rfl, E4⟩
        case round =>
          obtain ⟨z, hz, rfl, G⟩ := hrel
          clear E4
          by_cases hzl : z < R.length
          · obtain ⟨u, hu⟩ : ∃ u, R[z]? = some u := ⟨R[z], by simp [hzl]⟩
            obtain ⟨gg, hgg⟩ := G.out.row.ptr (by omega)
            subst hgg
            have hum := List.mem_of_getElem? hu
            obtain ⟨g, sq, hva, hcs, hcf, hgl⟩ := G.out.cell hum
            have hn0 : 0 < u.c.vv.length := List.length_pos_iff.2 (HMay.out u hum).vv0
            have hc4 : wr.cell? ⟨gg, z * 11 + 4, none⟩ = some (.slice (some ⟨g, 0, none⟩) u.c.vv.length u.vc) := by rw [← hva]; exact OwnC.range G.out.row hu 4 _ rfl
            have hn9 : u.c.vv.length ≤ 64 := by rw [← (HMay.out u hum).canon]; exact vecOf_length _
            have HGp := Lib.hid (fun yy : Int => G.out.put hum hva yy)
            clear hu hum hva
            generalize u.c.vv.length = vn at hc4 hn0 hn9
            go_wp2_with fail
            go_roundw
            case rel => exact ⟨z + 1, by omega, by go_num, Lib.hid (HGp.out _)⟩
            case measure => simp [intOf]; omega
          · have W5 := Lib.hid (W3.out.below G.out.bel)
            go_wp2_with fail
            go_roundw
            case rel => exact ⟨q + 1, L2, va2, vc2, vv2, S2, _, lc2, by omega, by go_num, by omega, W5⟩
            case measure => simp [intOf]; omega
      · rw [hf] at hgg
        have Hgg := Lib.hid hgg
        have Hk := Lib.hid hk
        have Hm := Lib.hid hm
        clear hgg hk hf hm
        go_wp2_with fail
        refine Hgg.out.mono ?_
        rintro e w27 ⟨⟨⟨⟨⟨r2, i2⟩, s2⟩, ps2, uu2, tt2, ⟨k2, n2, x2, p2, ds2⟩⟩, qa2, qc2, ua2, uc2, pa2, pc2, da2, dc2⟩, rfl, hu, ho, hb⟩
        have HB6 : Hid (BoxE 46 w27 (w27.alloc (.cells (ccells r2 i2 s2 qa2 ps2.length qc2 ua2 uu2.length uc2 tt2 k2 pa2 p2.length pc2 n2 x2 da2 ds2.length dc2) 46)) (ccells r2 i2 s2 qa2 ps2.length qc2 ua2 uu2.length uc2 tt2 k2 pa2 p2.length pc2 n2 x2 da2 ds2.length dc2)) := Lib.hid ⟨heap_new _ _, (Below.refl _ _).alloc (Nat.le_refl _) _⟩
        have D15 : Hid (Below w13.heap.size w13 (w27.alloc (.cells (ccells r2 i2 s2 qa2 ps2.length qc2 ua2 uu2.length uc2 tt2 k2 pa2 p2.length pc2 n2 x2 da2 ds2.length dc2) 46))) := Lib.hid ((below2 D14.out hb D14.out.size).alloc (below2 D14.out hb D14.out.size).size _)
        have Huc := Lib.hid hu
        have Huo := Lib.hid ho.at_
        clear hb hu ho Hgg d0 z0 d1 z1
        have d0 := cells_at (((below2 W4.out.bel D15.out W4.out.bel.size).block _ x0).trans HX.out)
        have z0 := heap_lt (((below2 W4.out.bel D15.out W4.out.bel.size).block _ x0).trans HX.out)
        have d1 := cells_at (((below2 W4.out.bel D15.out W4.out.bel.size).block _ y0).trans HY.out)
        have z1 := heap_lt (((below2 W4.out.bel D15.out W4.out.bel.size).block _ y0).trans HY.out)
        simp only [basecells] at d0
        simp only [cwcells, Option.isSome_some]
        go_wp2_with fail
        refine (find_R pw wE m ⟨⟨num, F, tips, t, tr⟩, fa, fc, ta, tc, ra, rc⟩ S2 la2 lc2 dr di dn _ (W4.out.below D15.out).rg).mono ?_
        rintro e w28 ⟨rfl, hb⟩
        have D16 := Lib.hid (below2 D15.out hb D15.out.size)
        replace HB6 := Lib.hid (HB6.out.step hb)
        have B28 := Lib.hid (below2 HB6.out.bel (((Below.refl w28.heap.size w28).drew)) HB6.out.bel.size)
        clear hb d0 z0 d1 z1 D15
        rw [Hk.out]
        have hkl : kk < S2.length := (List.getElem?_eq_some_iff.1 hy).1
        obtain ⟨ad, had, ⟨c0, c1, c2, c3, c4, c5, c6, c7, c8, c9, c10⟩, hlb⟩ := (W4.out.below D16.out).rg.rows.at_ hy
        have Hy := Lib.hid ((W4.out.below D16.out).rg.rows.each y (List.mem_of_getElem? hy))
        clear hy
        obtain ⟨⟨⟨⟨r3, i3⟩, s3⟩, ps3, uu3, tt3, ⟨k3, n3, x3, p3, ds3⟩⟩, qa3, qc3, ua3, uc3, pa3, pc3, da3, dc3⟩ := y
        dsimp only at c0 c1 c2 c3 c4 c5 c6 c7 c8 c9 c10
        subst had
        have d2 := cells_at HB6.out.blk
        have z2 := heap_lt HB6.out.blk
        simp only [ccells] at d2
        have p0 := cells_at (W4.out.below D16.out).rg.blk
        simp only [rgcells] at p0
        have pz := heap_lt (W4.out.below D16.out).rg.blk
        have hkk : decide ((0 : Int) ≤ (kk : Int)) = true := decide_eq_true (by omega)
        go_wp2_with fail
        refine region_text [([0, 1, 2, 3, 4, 5, 6, 7, 8, 9, 10, 11, 12, 13, 14, 15, 16, 17, 18], false)] mixed (by kernel_rfl) ?_
        simp only [wpSegs, List.map_cons, List.map_nil, List.getD_cons_succ, List.getD_cons_zero]
        go_wp2_with fail
        refine (same11_any ⟨⟨((r2, i2), s2), ps2, uu2, tt2, ⟨k2, n2, x2, p2, ds2⟩⟩, qa2, qc2, ua2, uc2, pa2, pc2, da2, dc2⟩ ⟨⟨((r3, i3), s3), ps3, uu3, tt3, ⟨k3, n3, x3, p3, ds3⟩⟩, qa3, qc3, ua3, uc3, pa3, pc3, da3, dc3⟩ _ (Huo.out.below B28.out) (Hy.out.below ((Below.refl _ _).drew)) (CmP.b (by rw [Huc.out]; exact Hm.out)) Huc.out).mono ?_
        rintro e wz ⟨rfl, hb⟩
        replace D16 := Lib.hid (below2 (D16.out.trans (((Below.refl w28.heap.size w28).drew).mono D16.out.size)) hb D16.out.size)
        clear hb c0 c1 c2 c3 c4 c5 c6 c7 c8 c9 c10 hlb d2 z2 p0 pz HB6 B28 Huo Huc Hy Hm
        go_wp2_with fail
        refine And.intro (by kernel_rfl) ?_
        have E4 : Hid (StE w12 wz w12.heap.size ga gc R) := Lib.hid ((HR.out.below D16.out).ste (below2 D0.out D16.out D0.out.size) rfl)
        have HMay := Lib.hid HR.out.may
        clear D16 HR D0
        go_wp2_with fail
        go_loopw [156] (fun j wx => ∃ z : Nat, z ≤ R.length ∧ j = .int .i64 z ∧ Hid (StE w12 wx w12.heap.size ga gc R)) (fun j _ => R.length - (intOf j).toNat)
        case atStart => exact ⟨0, by omega, rfl, E4⟩
        case round =>
          obtain ⟨z, hz, rfl, G⟩ := hrel
          clear E4
          by_cases hzl : z < R.length
          · obtain ⟨u, hu⟩ : ∃ u, R[z]? = some u := ⟨R[z], by simp [hzl]⟩
            obtain ⟨gg, hgg⟩ := G.out.row.ptr (by omega)
            subst hgg
            have hum := List.mem_of_getElem? hu
            obtain ⟨g, sq, hva, hcs, hcf, hgl⟩ := G.out.cell hum
            have hn0 : 0 < u.c.vv.length := List.length_pos_iff.2 (HMay.out u hum).vv0
            have hc4 : wr.cell? ⟨gg, z * 11 + 4, none⟩ = some (.slice (some ⟨g, 0, none⟩) u.c.vv.length u.vc) := by rw [← hva]; exact OwnC.range G.out.row hu 4 _ rfl
            have hn9 : u.c.vv.length ≤ 64 := by rw [← (HMay.out u hum).canon]; exact vecOf_length _
            have HGp := Lib.hid (fun yy : Int => G.out.put hum hva yy)
            clear hu hum hva
            generalize u.c.vv.length = vn at hc4 hn0 hn9
            go_wp2_with fail
            go_roundw
            case rel => exact ⟨z + 1, by omega, by go_num, Lib.hid (HGp.out _)⟩
            case measure => simp [intOf]; omega
          · have W5 := Lib.hid (W3.out.below G.out.bel)
            go_wp2_with fail
            go_roundw
            case rel => exact ⟨q + 1, L2, va2, vc2, vv2, S2, _, lc2, by omega, by go_num, by omega, W5⟩
            case measure => simp [intOf]; omega
end Go.Proofs.YthdmoplclllhjaaGreat
