/- varvelaw12.GraphWhole: the walk, first part. -/
import Derived.Test.YthdmoplclllhjaaGreatRMbA
import Derived.Test.YthdmoplclllhjaaGreatBasB
import Derived.Test.YthdmoplclllhjaaGreatGraQ
import Derived.Test.YthdmoplclllhjaaGreatGraV
import Derived.Test.YthdmoplclllhjaaGreatGraM
import Derived.Test.YthdmoplclllhjaaGreatHistP
import Derived.Test.YthdmoplclllhjaaGreatLevB
namespace Go.Proofs.YthdmoplclllhjaaGreat
open Go.RowKit
set_option linter.unusedVariables false
set_option linter.unusedSimpArgs false

/-- the law's graph: what was inserted so far -/
structure WhlE (w wr : World) (C : Array Value) (k : Nat) (pg mb : Nat) (w0 : World) (b : Bw) (L : List Cw) (va : Option Addr) (vc : Nat) (vv : List Dt) : Prop where
  blk : wr.heap[w.heap.size]? = some (.cells C 28 (0, 0))
  bel : Below w.heap.size w wr
  gr : GrAt wr pg mb w0 3 b L va vc vv
  old : w.heap.size < w0.heap.size
  hist : HistP b.b.f (cms L) vv
  few : L.length ≤ k
theorem WhlE.ins {w wr w' : World} {C : Array Value} {k pg mb : Nat} {w0 : World} {b : Bw} {L : List Cw} {va : Option Addr} {vc : Nat} {vv : List Dt} {c : Cm} {e : Ending} (h : WhlE w wr C k pg mb w0 b L va vc vv) (okc : okV c.vv) (hi : InsTo wr pg mb w0 3 b L vv c e w') :
    ∃ (x : Int) (L' : List Cw) (va' : Option Addr) (vc' : Nat) (vv' : List Dt), e = .returned (.int .i64 x) ∧ WhlE w w' C (k + 1) pg mb w0 b L' va' vc' vv' := by
  obtain ⟨rfl, ⟨_, hb⟩ | ⟨hz, u, va', vc', hu, hG, hc⟩⟩ := hi
  · exact ⟨_, L, va, vc, vv, rfl, ⟨(hb.block _ (heap_lt h.blk)).trans h.blk, below2 h.bel hb h.bel.size, h.gr.below hb, h.old, h.hist, by have := h.few; omega⟩⟩
  · have o1 := h.gr.old.1
    have o2 := h.gr.old.2
    have o3 := h.old
    refine ⟨_, L ++ [u], va', vc', joinV vv c.vv, rfl, ⟨(hc.block _ (heap_lt h.blk) (by simp; omega)).trans h.blk, ?_, hG, h.old, ?_, by have := h.few; simp; omega⟩⟩
    · exact h.bel.trans (hc.below (B := w.heap.size) h.bel.size (by simp; omega))
    · have := h.hist.step h.gr.okv okc hz
      rw [show cms (L ++ [u]) = cms L ++ [c] by simp [cms, hu]]
      exact this
theorem WhlE.below {w wr w' : World} {C : Array Value} {k pg mb : Nat} {w0 : World} {b : Bw} {L : List Cw} {va : Option Addr} {vc : Nat} {vv : List Dt} (h : WhlE w wr C k pg mb w0 b L va vc vv) (hb : Below wr.heap.size wr w') : WhlE w w' C k pg mb w0 b L va vc vv :=
  ⟨(hb.block _ (heap_lt h.blk)).trans h.blk, below2 h.bel hb h.bel.size, h.gr.below hb, h.old, h.hist, h.few⟩
/-- vectors as a map's elements -/
def slv (v : Cw) : Value := .slice v.va v.c.vv.length v.vc
def fsV (S : List Cw) : Dt → Option Value := fun d => (fdW S d).map slv
theorem fsV_snoc {L : List Cw} {u : Cw} (hf : fdW L u.c.d = none) (d : Dt) : (if d = u.c.d then some (slv u) else fsV L d) = fsV (L ++ [u]) d := by
  unfold fsV
  unfold fdW at hf ⊢
  rw [List.find?_append]
  by_cases e : d = u.c.d
  · subst e
    simp [hf]
  · cases hh : L.find? fun v => decide (v.c.d = d) with
    | none => simp [e, Ne.symm e]
    | some v => simp [e]
theorem fdW_none {ss : List Cw} (hn : ((cms ss).map (·.d)).Nodup) {q : Nat} {v : Cw} (hv : ss[q]? = some v) : fdW (ss.take q) v.c.d = none := by
  have h := fresh_at hn hv
  unfold lvV at h
  rw [Option.map_eq_none_iff, lvF_none] at h
  unfold fdW
  rw [List.find?_eq_none]
  intro u hu
  have := h u.c (List.mem_map.2 ⟨u, hu, rfl⟩)
  simpa using this
theorem zeroVec (w : World) : (zeroValue 24).run Tryz.prog w = .ok (.slice none 0 0) w := by kernel_rfl
theorem fs_look {w W : World} {mb n : Nat} {S : List Cw} (h : MapN w mb n (fsV S)) (hb : Below w.heap.size w W) {r i s : Int} (hd : okD ((r, i), s)) :
    (Instr.lookup 49 (.map (some mb)) (.agg #[.int .u8 r, .int .u32 i, .int .u64 s]) true).run Tryz.prog W = .ok (.tuple #[(fsV S ((r, i), s)).getD (.slice none 0 0), .bool (fsV S ((r, i), s)).isSome]) W :=
  (h.below hb).look2 Tryz.underlying49 zeroVec hd
/-- while the law lays the vectors by dots -/
structure WhlF (w wr : World) (C : Array Value) (k : Nat) (pg mb : Nat) (w0 : World) (b : Bw) (L : List Cw) (va : Option Addr) (vc : Nat) (vv : List Dt) (mp base : Nat) (a : Option Addr) (c : Nat) (ss : List Cw) (q : Nat) : Prop where
  whl : WhlE w wr C k pg mb w0 b L va vc vv
  map : MapN wr mp q (fsV (ss.take q))
  row : OwnC wr base a c ss
  each : ∀ v ∈ ss, CwOwn wr base v
  ne : pg < mp ∧ mb < mp ∧ w0.heap.size ≤ mp
theorem WhlF.below {w wr w' : World} {C : Array Value} {k pg mb : Nat} {w0 : World} {b : Bw} {L : List Cw} {va : Option Addr} {vc : Nat} {vv : List Dt} {mp base : Nat} {a : Option Addr} {c : Nat} {ss : List Cw} {q : Nat} (h : WhlF w wr C k pg mb w0 b L va vc vv mp base a c ss q) (hb : Below wr.heap.size wr w') : WhlF w w' C k pg mb w0 b L va vc vv mp base a c ss q :=
  ⟨h.whl.below hb, h.map.below hb, h.row.below hb, fun v hv => (h.each v hv).below hb, h.ne⟩
theorem WhlF.step {w wr w' : World} {C : Array Value} {k pg mb : Nat} {w0 : World} {b : Bw} {L : List Cw} {va : Option Addr} {vc : Nat} {vv : List Dt} {mp base : Nat} {a : Option Addr} {c : Nat} {ss : List Cw} {q : Nat} {v : Cw} (h : WhlF w wr C k pg mb w0 b L va vc vv mp base a c ss q) (hn : ((cms ss).map (·.d)).Nodup) (hv : ss[q]? = some v)
    (hm : MapN w' mp (q + 1) (fun d => if d = v.c.d then some (slv v) else fsV (ss.take q) d)) (hc : Chg [mp] wr w') : WhlF w w' C k pg mb w0 b L va vc vv mp base a c ss (q + 1) := by
  have hr := noRow_map h.map
  obtain ⟨n1, n2, n3⟩ := h.ne
  have n4 := h.whl.old
  refine ⟨⟨(hc.block _ (heap_lt h.whl.blk) (by simp; omega)).trans h.whl.blk, h.whl.bel.trans (hc.below (B := w.heap.size) h.whl.bel.size (by simp; omega)), h.whl.gr.chg hc (by simp; omega) (by simp; omega) hr (by simpa using n3), h.whl.old, h.whl.hist, h.whl.few⟩, hm.congr fun d _ => by rw [take_snoc' hv]; exact fsV_snoc (fdW_none hn hv) d, h.row.chg hc (fun k hk hm => ?_), fun v hv => (h.each v hv).chg hc hr, h.ne⟩
  obtain ⟨C, fr, hh⟩ := ob_row h.row k hk
  obtain ⟨es, clock, h2⟩ := h.map.block
  simp at hm
  subst hm
  rw [hh] at h2; cases h2
/-- what the law meets at a parent: nothing and the baseline's, or an earlier commit's vector -/
theorem WhlF.ahead {w wr : World} {C : Array Value} {k pg mb : Nat} {w0 : World} {b : Bw} {L : List Cw} {va : Option Addr} {vc : Nat} {vv : List Dt} {mp base : Nat} {a : Option Addr} {c : Nat} {ss : List Cw} {q : Nat} {v : Cw} (h : WhlF w wr C k pg mb w0 b L va vc vv mp base a c ss q) (hp : (cms ss).Perm (cms L)) (hs : SortedC (cms ss)) (hv : ss[q]? = some v) {p : Dt} (hpp : p ∈ v.c.ps) :
    (fsV (ss.take q) p = none ∧ hasV b.b.f p = true) ∨ ∃ y ∈ ss, fsV (ss.take q) p = some (slv y) ∧ withinV y.c.vv v.c.vv = true := by
  have hvc : (cms ss)[q]? = some v.c := by simp [cms, hv]
  have ht : (cms ss).take q = cms (ss.take q) := by simp [cms, List.map_take]
  rcases h.whl.hist.ahead hp hs hvc hpp with ⟨h1, h2⟩ | ⟨y, hy, _, h2, h3⟩
  · rw [ht, ← fdW_c, Option.map_eq_none_iff] at h2
    exact .inl ⟨by unfold fsV; rw [h2]; rfl, h1⟩
  · rw [ht, ← fdW_c, Option.map_eq_some_iff] at h2
    obtain ⟨u, hu, rfl⟩ := h2
    have hm := List.mem_of_mem_take (fdW_some hu).1
    exact .inr ⟨u, hm, by unfold fsV; rw [hu]; rfl, (withinV_iff (h.each u hm).ok.vv).2 h3⟩
/-- while the dots are put together -/
structure WhlG (w7 wr : World) (mp it : Nat) (tips : List Dt) (ss : List Cw) (left : Dt → Bool) (cnt : Nat) (a : Option Addr) (c : Nat) (T : List Dt) : Prop where
  rng : RangeF wr Tryz.prog 41 mkD mp it ss.length (fsV ss) left cnt
  own : OwnD wr w7.heap.size a c T
  far : it ∉ ob a
  mem : ∀ d ∈ T, d ∈ tips ∨ ∃ v ∈ ss, v.c.d = d
  len : T.length + cnt ≤ 300
  bel : Below w7.heap.size w7 wr
  itl : w7.heap.size ≤ it
  mpl : mp < w7.heap.size
theorem WhlG.next {w7 wr w3 : World} {mp it : Nat} {tips : List Dt} {ss : List Cw} {left : Dt → Bool} {cnt cnt1 : Nat} {a : Option Addr} {c : Nat} {T : List Dt} {rr ii qq : Int} {v : Value} (h : WhlG w7 wr mp it tips ss left cnt a c T) (hX : NextD wr mp it ss.length (fsV ss) left cnt rr ii qq v w3 cnt1) :
    WhlG w7 w3 mp it tips ss (fun y => left y && !decide (y = ((rr, ii), qq))) cnt1 a c T ∧ T.length + cnt1 + 1 ≤ 300 ∧ ∃ u ∈ ss, u.c.d = ((rr, ii), qq) := by
  have hc := Chg.grown hX.grown
  simp only [Option.toList_some] at hc
  have h1 := h.len
  have h2 := hX.lt
  refine ⟨⟨hX.rng, owns_chg h.own hc (fun k hk hm => by rw [List.mem_singleton] at hm; subst hm; exact h.far hk), h.far, h.mem, by omega, h.bel.trans (hc.below h.bel.size (by simpa using h.itl)), h.itl, h.mpl⟩, by omega, ?_⟩
  have hv := hX.val
  unfold fsV at hv
  rw [Option.map_eq_some_iff] at hv
  obtain ⟨u, hu, _⟩ := hv
  exact ⟨u, (fdW_some hu).1, (fdW_some hu).2⟩
theorem WhlG.below {w7 wr : World} {mp it : Nat} {tips : List Dt} {ss : List Cw} {left : Dt → Bool} {cnt : Nat} {a : Option Addr} {c : Nat} {T : List Dt} (h : WhlG w7 wr mp it tips ss left cnt a c T) (o : Obj) : WhlG w7 (wr.alloc o) mp it tips ss left cnt a c T :=
  ⟨h.rng.alloc o, h.own.below ((Below.refl _ _).alloc (Nat.le_refl _) o), h.far, h.mem, h.len, h.bel.alloc h.bel.size o, h.itl, h.mpl⟩
theorem WhlG.add {w7 wr w3 : World} {mp it : Nat} {tips : List Dt} {ss : List Cw} {left : Dt → Bool} {cnt : Nat} {a a' : Option Addr} {c c' : Nat} {T v' : List Dt} {d : Dt} (h : WhlG w7 wr mp it tips ss left cnt a c T) (hl : T.length + cnt + 1 ≤ 300) (hd : ∃ u ∈ ss, u.c.d = d) (hv : v' = T ++ [d]) (ho : OwnD w3 w7.heap.size a' c' v') (hc : Chg (ob a) wr w3) (hn : ∀ k ∈ ob a', k ∈ ob a ∨ wr.heap.size ≤ k) :
    WhlG w7 w3 mp it tips ss left cnt a' c' v' := by
  have hlt : it < wr.heap.size := h.rng.lt
  refine ⟨h.rng.chg hc (fun hm => ?_) h.far, ho, fun hm => ?_, fun x hx => ?_, by rw [hv]; simp; omega, h.bel.trans (hc.below h.bel.size fun k hk => (owns_lt h.own k hk).1), h.itl, h.mpl⟩
  · have := (owns_lt h.own mp hm).1; have := h.mpl; omega
  · rcases hn it hm with h1 | h1
    · exact h.far h1
    · omega
  · rw [hv] at hx
    rcases List.mem_append.1 hx with h1 | h1
    · exact h.mem x h1
    · rw [List.mem_singleton] at h1; subst h1; exact .inr hd
/-- another head's vector has the dot -/
def hitB (ss : List Cw) (d h : Dt) : Bool := !eqD h d && hasV (((fdW ss h).map (·.c.vv)).getD []) d
/-- just one of the flags -/
theorem flags_of {F : List Dt} {L : List Cm} {vv tips Hl : List Dt} {ss : List Cw} {d : Dt} (h : HistP F L vv) (hh : HeadsP tips L Hl) (hn : ((cms ss).map (·.d)).Nodup) (hp : (cms ss).Perm L) (hd : d ∈ tips ∨ ∃ v ∈ ss, v.c.d = d) :
    (decide (d ∈ Hl) = true ∧ Hl.any (hitB ss d) = false) ∨ (decide (d ∈ Hl) = false ∧ Hl.any (hitB ss d) = true) := by
  have hd2 : d ∈ tips ∨ ∃ c ∈ L, c.d = d := hd.imp id fun ⟨v, hv, e⟩ => ⟨v.c, hp.mem_iff.1 (List.mem_map.2 ⟨v, hv, rfl⟩), e⟩
  rcases h.heads hh hd2 with ⟨h1, h2⟩ | ⟨h1, c, hc, h3, h4, h5⟩
  · refine .inl ⟨decide_eq_true h1, ?_⟩
    rw [List.any_eq_false]
    intro x hx
    unfold hitB
    cases he : eqD x d with
    | true => simp
    | false =>
      cases hf : fdW ss x with
      | none =>
        have hz : hasV [] d = false := by
          rw [← Bool.not_eq_true, hasV_iff]
          rintro ⟨e1, e2⟩
          have := ((may_iff d).1 e1).2.1
          rw [getN_nil] at e2; omega
        simp [hz]
      | some v =>
        obtain ⟨m1, m2⟩ := fdW_some hf
        have hne : v.c.d ≠ d := fun e => by rw [← m2, (eqD_iff _ _).2 e] at he; cases he
        have := h2 v.c (hp.mem_iff.1 (List.mem_map.2 ⟨v, m1, rfl⟩)) hne
        simp [this]
  · refine .inr ⟨decide_eq_false h1, ?_⟩
    rw [List.any_eq_true]
    refine ⟨c.d, h3, ?_⟩
    unfold hitB
    have he : eqD c.d d = false := by
      cases he : eqD c.d d with
      | false => rfl
      | true => exact absurd ((eqD_iff _ _).1 he) h4
    have hf := fdW_c ss c.d
    rw [findC_mem hn (hp.mem_iff.2 hc), Option.map_eq_some_iff] at hf
    obtain ⟨v, hv, e⟩ := hf
    rw [he, hv]
    simp [e, h5]
theorem in_snoc {l : List Dt} {k : Nat} {h : Dt} (hh : l[k]? = some h) (d : Dt) : decide (d ∈ l.take (k + 1)) = (decide (d ∈ l.take k) || eqD h d) := by
  rw [take_snoc' hh, Bool.eq_iff_iff]
  simp only [decide_eq_true_eq, List.mem_append, List.mem_singleton, Bool.or_eq_true, eqD]
  exact or_congr_right eq_comm
theorem any_snoc {l : List Dt} {k : Nat} {h : Dt} (hh : l[k]? = some h) (f : Dt → Bool) : (l.take (k + 1)).any f = ((l.take k).any f || f h) := by
  rw [take_snoc' hh, List.any_append]; simp
set_option maxRecDepth 100000 in
set_option maxHeartbeats 8000000 in
theorem graphWhole_walk (v : Bw) (m : Nat) (la : Option Addr) (lc : Nat) (l : List Cw) (w : World) (h : BwAt w m v) (hl : Cms w la lc l) : Calls Tryz.prog 3 #[.agg (bwcells v), .slice la l.length lc] w (fun e w' => e = .returned (.bool true) ∧ Below w.heap.size w w') := by
  obtain ⟨⟨num, F, tips, t, tr⟩, fa, fc, ta, tc, ra, rc⟩ := v
  have H := Lib.hid h
  have HL := Lib.hid hl
  have hlm := hl.sl.2.2.1
  unfold maxLen at hlm
  have hmm := @run_makeMap Tryz.prog
  have E0 : Hid (BoxE 28 w (w.alloc (.cells (basecells num fa F.length fc ta tips.length tc t ra tr.length rc) 28)) (basecells num fa F.length fc ta tips.length tc t ra tr.length rc)) := Lib.hid ⟨heap_new _ _, (Below.refl _ _).alloc (Nat.le_refl _) _⟩
  clear h hl
  simp only [bwcells]
  go_enter Tryz.func3, Tryz.ntmps3
  go_wp2_with fail
  refine (great12_any ⟨⟨num, F, tips, t, tr⟩, fa, fc, ta, tc, ra, rc⟩ m la lc l _ (H.out.below E0.out.bel) (HL.out.below E0.out.bel)).mono ?_
  intro e w1 hto
  obtain ⟨z, rfl, hz, hb⟩ := hto
  have E := Lib.hid (E0.out.step hb)
  have Hz := Lib.hid hz
  clear hb hz E0
  have d0 := cells_at E.out.blk
  simp only [basecells] at d0
  have z0 := heap_lt E.out.blk
  cases z with
  | true =>
    go_wp2_with fail
    refine (known12_any _).mono ?_
    rintro e w2 ⟨rfl, hb⟩
    have HB := Lib.hid (E.out.step hb).bel
    clear hb
    go_wp2_with fail
    go_ret
    exact ⟨rfl, HB.out⟩
  | false =>
    have HG := Lib.hid (Hz.out rfl)
    have g1 := HG.out.f
    have g2 := HG.out.tips
    have g3 := HG.out.few
    dsimp only at g1 g2
    have HBd : Hid (BdA 1100000 3 tr) := Lib.hid (WdP.bdA HG.out.tr)
    clear Hz
    go_wp2_with fail
    refine (rmayBase_any ⟨⟨num, F, tips, t, tr⟩, fa, fc, ta, tc, ra, rc⟩ m _ (H.out.below E.out.bel) (by show F.length ≤ 1100000; omega) (by show tips.length ≤ 1100000; omega) HBd.out).mono ?_
    intro e w2 hto
    obtain ⟨z, rfl, hz, hb⟩ := hto
    replace E := Lib.hid (E.out.step hb)
    have Hz := Lib.hid hz
    clear hb hz d0 z0
    have d0 := cells_at E.out.blk
    simp only [basecells] at d0
    have z0 := heap_lt E.out.blk
    cases z with
    | false =>
      go_wp2_with fail
      refine (known12_any _).mono ?_
      rintro e w3 ⟨rfl, hb⟩
      have HB := Lib.hid (E.out.step hb).bel
      clear hb
      go_wp2_with fail
      go_ret
      exact ⟨rfl, HB.out⟩
    | true =>
      have HP := Lib.hid (Hz.out.1 rfl)
      clear Hz
      go_wp2_with fail
      refine (new_any ⟨⟨num, F, tips, t, tr⟩, fa, fc, ta, tc, ra, rc⟩ m _ (H.out.below E.out.bel) (by show F.length ≤ 1100000; omega) (by show tips.length ≤ 1100000; omega) HBd.out).mono ?_
      intro e w3 hto
      rcases hto with ⟨_, pg, mb, w0, b, va, vc, rfl, hsame, hG, hb, hold⟩ | ⟨hn, _, _⟩
      rotate_left
      · exact absurd HP.out hn
      have W0 : Hid (WhlE w w3 (basecells num fa F.length fc ta tips.length tc t ra tr.length rc) 0 pg mb w0 b [] va vc b.b.f) := Lib.hid ⟨(E.out.step hb).blk, (E.out.step hb).bel, hG, Nat.lt_of_lt_of_le z0 hold, HistP.start hG.okv (by rw [hsame.f]; exact HP.out.canon), Nat.le_refl _⟩
      have Hs := Lib.hid hsame
      clear hb hG hsame hold d0 z0 E
      go_wp2_with fail
      go_loopw [51] (fun j wr => ∃ (q : Nat) (L : List Cw) (va' : Option Addr) (vc' : Nat) (vv : List Dt), q ≤ l.length ∧ j = .int .i64 q ∧ Hid (WhlE w wr (basecells num fa F.length fc ta tips.length tc t ra tr.length rc) q pg mb w0 b L va' vc' vv)) (fun j _ => l.length - (intOf j).toNat)
      case atStart => exact ⟨0, [], va, vc, _, Nat.zero_le _, rfl, W0⟩
      case round =>
        obtain ⟨q, L, va', vc', vv, hq, rfl, W⟩ := hrel
        clear W0
        by_cases hlt : q < l.length
        · obtain ⟨v, hv⟩ : ∃ v, l[q]? = some v := ⟨l[q], by simp [hlt]⟩
          obtain ⟨ad, had, ⟨c0, c1, c2, c3, c4, c5, c6, c7, c8, c9, c10⟩, hlb⟩ := (HL.out.below W.out.bel).at_ hv
          subst had
          have Hat := Lib.hid (HL.out.each v (List.mem_of_getElem? hv))
          have Hn := Lib.hid (HG.out.each v (List.mem_of_getElem? hv))
          clear hv
          obtain ⟨⟨⟨⟨r, i⟩, s⟩, ps, uu, t1, ⟨k, n, x, p, ds⟩⟩, qa, qc, ua, uc, pa, pc, da, dc⟩ := v
          dsimp only at c0 c1 c2 c3 c4 c5 c6 c7 c8 c9 c10
          replace W := Lib.hid (W.out.below ((Below.refl _ _).alloc (Nat.le_refl _) (.cells (ccells r i s qa ps.length qc ua uu.length uc t1 k pa p.length pc n x da ds.length dc) 46)))
          have Hc := Lib.hid (Hat.out.below W.out.bel)
          have hn2 := Hn.out.2.1
          dsimp only at hn2
          have Hok := Lib.hid (show okV uu from Hat.out.ok.vv)
          clear Hat Hn
          go_wp2_with fail
          refine (insert_G pg mb w0 3 b L va' vc' vv ⟨⟨((r, i), s), ps, uu, t1, ⟨k, n, x, p, ds⟩⟩, qa, qc, ua, uc, pa, pc, da, dc⟩ _ W.out.gr Hc.out (by dsimp only; omega)).mono ?_
          intro e w4 hto
          obtain ⟨x1, L', va2, vc2, vv2, rfl, hW⟩ := W.out.ins Hok.out hto
          replace W := Lib.hid hW
          clear hto hW c0 c1 c2 c3 c4 c5 c6 c7 c8 c9 c10 hlb
          go_wp2_with fail
          go_roundw
          case rel => exact ⟨q + 1, L', va2, vc2, vv2, by omega, by go_num, W⟩
          case measure => simp [intOf]; omega
        · go_wp2_with fail
          refine (vv_G pg mb w0 3 b L va' vc' vv _ W.out.gr).mono ?_
          rintro e w4 ⟨a4, c4, rfl, hown, hb⟩
          replace W := Lib.hid (W.out.below hb)
          have HV := Lib.hid (vec_of hown)
          clear hown hb
          have hvl := W.out.gr.vmax
          have MZ : Hid (MapN (w4.alloc (.map #[] 0)) w4.heap.size 0 (fun _ => none)) := Lib.hid (MapN.made w4)
          have hmp : w.heap.size < w4.heap.size := Nat.lt_of_lt_of_le W.out.old (by have := W.out.gr.bel.size; omega)
          have hne : pg < w4.heap.size ∧ mb < w4.heap.size ∧ w0.heap.size ≤ w4.heap.size := ⟨heap_lt W.out.gr.blk, W.out.gr.map.lt, W.out.gr.bel.size⟩
          replace W := Lib.hid (W.out.below ((Below.refl _ _).alloc (Nat.le_refl _) (.map #[] 0)))
          replace HV := Lib.hid (HV.out.below ((Below.refl _ _).alloc (Nat.le_refl _) (.map #[] 0)))
          go_wp2_with fail
          generalize hmpe : w4.heap.size = mp at hmp hne MZ W HV ⊢
          generalize w4.alloc (.map #[] 0) = w5 at MZ W HV ⊢
          clear hmpe
          go_loopw [64] (fun j wr => ∃ z : Nat, z ≤ vv.length ∧ j = .int .i64 z ∧ Below w5.heap.size w5 wr) (fun j _ => vv.length - (intOf j).toNat)
          case atStart => exact ⟨0, Nat.zero_le _, rfl, Below.refl _ _⟩
          case round =>
            obtain ⟨z, hz, rfl, hb5⟩ := hrel
            have B5 := Lib.hid hb5
            clear hb5
            by_cases hlz : z < vv.length
            · obtain ⟨⟨⟨r, i⟩, s⟩, hx⟩ : ∃ x, vv[z]? = some x := ⟨vv[z], by simp [hlz]⟩
              obtain ⟨ad, had, f0, f1, f2, hl0⟩ := (HV.out.below B5.out).at hx
              dsimp only at had f0 f1 f2
              subst had
              have Hm := Lib.hid (W.out.hist.vec W.out.gr.okv (List.mem_of_getElem? hx))
              have Hok := Lib.hid (W.out.gr.okv _ (List.mem_of_getElem? hx))
              have hs1 := Hm.out.2.2.1
              have hs2 := Hm.out.2.2.2
              dsimp only at hs1 hs2
              have B6 : Hid (BoxE 41 wr (wr.alloc (.cells #[.int .u8 r, .int .u32 i, .int .u64 s] 41)) #[.int .u8 r, .int .u32 i, .int .u64 s]) := Lib.hid ⟨heap_new _ _, (Below.refl _ _).alloc (Nat.le_refl _) _⟩
              clear hx
              go_wp2_with fail
              go_loopw [13] (fun j wz => ∃ n : Nat, 1 ≤ n ∧ n ≤ 61 ∧ j = .int .u64 n ∧ Hid (BoxE 41 wr wz #[.int .u8 r, .int .u32 i, .int .u64 s])) (fun j _ => 62 - (intOf j).toNat)
              case atStart => exact ⟨1, by omega, by omega, rfl, B6⟩
              case round =>
                obtain ⟨n, hn1, hn2, rfl, B7⟩ := hrel
                clear B6
                have d0 := cells_at B7.out.blk
                have z0 := heap_lt B7.out.blk
                have B8 := Lib.hid (below2 B5.out B7.out.bel B5.out.size)
                by_cases h1 : (n : Int) ≤ s
                · by_cases h2 : n ≤ 60
                  · have x1 : decide ((n : Int) ≤ s) = true := decide_eq_true h1
                    have x2 : decide ((n : Int) ≤ 60) = true := decide_eq_true (by omega)
                    have Hod := Lib.hid (show okD ((r, i), (n : Int)) from ⟨Hok.out.1, by dsimp only; omega, by dsimp only; omega⟩)
                    have Hh := Lib.hid (Hm.out.1 n (by omega) h1)
                    go_wp2_with fail
                    refine (has_G pg mb w0 3 b L va' vc' vv r i n _ (W.out.gr.below B8.out) Hod.out).mono ?_
                    rintro e w6 ⟨rfl, hb⟩
                    rw [Hh.out]
                    replace B7 := Lib.hid (B7.out.step hb)
                    clear hb d0 z0 B8 Hh
                    go_wp2_with fail
                    go_roundw
                    case rel => exact ⟨n + 1, by omega, by omega, by go_num, B7⟩
                    case measure => simp [intOf]; omega
                  · have x1 : decide ((n : Int) ≤ s) = true := decide_eq_true h1
                    have x2 : decide ((n : Int) ≤ 60) = false := decide_eq_false (by omega)
                    have Hod := Lib.hid (show okD ((r, i), s + 1) from ⟨Hok.out.1, by dsimp only; omega, by dsimp only; omega⟩)
                    have Hh : Hid (hasG b.b.f (findC (cms L)) ((r, i), s + 1) = false) := Lib.hid Hm.out.2.1
                    go_wp2_with fail
                    refine (has_G pg mb w0 3 b L va' vc' vv r i (s + 1) _ (W.out.gr.below B8.out) Hod.out).mono ?_
                    rintro e w6 ⟨rfl, hb⟩
                    rw [Hh.out]
                    replace B8 := Lib.hid (below2 B5.out (B7.out.step hb).bel B5.out.size)
                    clear hb d0 z0 B7 Hh
                    go_wp2_with fail
                    go_roundw
                    case rel => exact ⟨z + 1, by omega, by go_num, B8.out⟩
                    case measure => simp [intOf]; omega
                · have x1 : decide ((n : Int) ≤ s) = false := decide_eq_false h1
                  have Hod := Lib.hid (show okD ((r, i), s + 1) from ⟨Hok.out.1, by dsimp only; omega, by dsimp only; omega⟩)
                  have Hh : Hid (hasG b.b.f (findC (cms L)) ((r, i), s + 1) = false) := Lib.hid Hm.out.2.1
                  go_wp2_with fail
                  refine (has_G pg mb w0 3 b L va' vc' vv r i (s + 1) _ (W.out.gr.below B8.out) Hod.out).mono ?_
                  rintro e w6 ⟨rfl, hb⟩
                  rw [Hh.out]
                  replace B8 := Lib.hid (below2 B5.out (B7.out.step hb).bel B5.out.size)
                  clear hb d0 z0 B7 Hh
                  go_wp2_with fail
                  go_roundw
                  case rel => exact ⟨z + 1, by omega, by go_num, B8.out⟩
                  case measure => simp [intOf]; omega
            · replace W := Lib.hid (W.out.below B5.out)
              replace MZ := Lib.hid (MZ.out.below B5.out)
              go_wp2_with fail
              refine (commits_G pg mb w0 3 b L va' vc' vv _ W.out.gr).mono ?_
              rintro e w6 ⟨a6, c6, ss, rfl, hp, hs, ho, hc, hb⟩
              have hl : ss.length ≤ 200 := by have h1 := hp.length_eq; have h2 := W.out.gr.max; unfold cms at h1; rw [List.length_map, List.length_map] at h1; omega
              have HN := Lib.hid (show ((cms ss).map (·.d)).Nodup from (hp.map _).nodup_iff.2 W.out.gr.nodup)
              have hWF : WhlF w w6 (basecells num fa F.length fc ta tips.length tc t ra tr.length rc) q pg mb w0 b L va' vc' vv mp wr.heap.size a6 c6 ss 0 := ⟨W.out.below hb, MZ.out.below hb, ho, hc, hne⟩
              have WF := Lib.hid hWF
              have HPm := Lib.hid hp
              have HSo := Lib.hid hs
              clear hp hs ho hc hb hWF W MZ B5 HV
              generalize wr.heap.size = B6 at WF
              go_wp2_with fail
              go_loopw [97] (fun j wr => ∃ y : Nat, y ≤ ss.length ∧ j = .int .i64 y ∧ Hid (WhlF w wr (basecells num fa F.length fc ta tips.length tc t ra tr.length rc) q pg mb w0 b L va' vc' vv mp B6 a6 c6 ss y)) (fun j _ => ss.length - (intOf j).toNat)
              case atStart => exact ⟨0, Nat.zero_le _, rfl, WF⟩
              case round =>
                obtain ⟨y, hy, rfl, X⟩ := hrel
                clear WF
                by_cases hly : y < ss.length
                · obtain ⟨g, rfl⟩ := X.out.row.ptr (by omega)
                  obtain ⟨v, hv⟩ : ∃ v, ss[y]? = some v := ⟨ss[y], by simp [hly]⟩
                  have hmem := List.mem_of_getElem? hv
                  have HR := Lib.hid (X.out.row.range hv)
                  have HA := Lib.hid (X.out.each v hmem).at_
                  have HM := Lib.hid (X.out.whl.hist.may v.c (HPm.out.mem_iff.1 (List.mem_map.2 ⟨v, hmem, rfl⟩)))
                  have HAh := Lib.hid (fun p hp => X.out.ahead HPm.out HSo.out hv (p := p) hp)
                  have HF := Lib.hid (show fsV (ss.take y) v.c.d = none by unfold fsV; rw [fdW_none HN.out hv]; rfl)
                  have HV := Lib.hid hv
                  have hpl : v.c.ps.length ≤ 64 := HM.out.few
                  have hul : v.c.vv.length ≤ 1100000 := by have h1 : (canonV v.c.vv).length ≤ 64 := vecOf_length _; rw [HM.out.canon] at h1; omega
                  clear hv hmem
                  obtain ⟨⟨⟨⟨r, i⟩, s⟩, ps, uu, t1, ⟨k, n, x, p, ds⟩⟩, qa, qc, ua, uc, pa, pc, da, dc⟩ := v
                  dsimp only at hpl hul
                  have B0 : Hid (BoxE 46 wr (wr.alloc (.cells (ccells r i s qa ps.length qc ua uu.length uc t1 k pa p.length pc n x da ds.length dc) 46)) (ccells r i s qa ps.length qc ua uu.length uc t1 k pa p.length pc n x da ds.length dc)) := Lib.hid ⟨heap_new _ _, (Below.refl _ _).alloc (Nat.le_refl _) _⟩
                  go_wp2_with (refine wpList_load_cw rfl _ rfl g (y * 11) (by first | rfl | simp [Addr.add]) ⟨⟨((r, i), s), ps, uu, t1, ⟨k, n, x, p, ds⟩⟩, qa, qc, ua, uc, pa, pc, da, dc⟩ HR.out ?_; simp only [cwcells])
                  go_loopw [104] (fun j wx => ∃ z : Nat, z ≤ ps.length ∧ j = .int .i64 z ∧ Hid (BoxE 46 wr wx (ccells r i s qa ps.length qc ua uu.length uc t1 k pa p.length pc n x da ds.length dc))) (fun j _ => ps.length - (intOf j).toNat)
                  case atStart => exact ⟨0, Nat.zero_le _, rfl, B0⟩
                  case round =>
                    obtain ⟨z2, hz2, rfl, B⟩ := hrel
                    clear B0
                    have d0 := cells_at B.out.blk
                    simp only [ccells] at d0
                    have z0 := heap_lt B.out.blk
                    by_cases hlt2 : z2 < ps.length
                    · obtain ⟨⟨⟨r', i'⟩, s'⟩, hx⟩ : ∃ d, ps[z2]? = some d := ⟨ps[z2], by simp [hlt2]⟩
                      obtain ⟨ad, had, e0, e1, e2, hl0⟩ := (HA.out.ps.below B.out.bel).at hx
                      dsimp only at had e0 e1 e2
                      subst had
                      have hd : okD ((r', i'), s') := HA.out.ok.ps _ (List.mem_of_getElem? hx)
                      have HAp := HAh.out _ (List.mem_of_getElem? hx)
                      have HW := Lib.hid (show Below wr.heap.size wr (wr.alloc (.cells #[.int .u8 r', .int .u32 i', .int .u64 s'] 41)) from (Below.refl _ _).alloc (Nat.le_refl _) _)
                      have l1 := fs_look (X.out.map.below B.out.bel) HW.out hd
                      have B1 := Lib.hid (B.out.step HW.out)
                      have XB := Lib.hid (X.out.below B.out.bel)
                      have k0 := cells_at XB.out.whl.blk
                      simp only [basecells] at k0
                      have kz := heap_lt XB.out.whl.blk
                      clear hx hd
                      rcases HAp with ⟨h1, h2⟩ | ⟨y1, hy1, h1, h3⟩
                      · rw [h1] at l1
                        simp only [Option.getD_none, Option.isSome_none] at l1
                        have HF2 : Hid (hasV F ((r', i'), s') = true) := Lib.hid (by have e := Hs.out.f; dsimp only at e; rw [← e]; exact h2)
                        clear h1 h2
                        go_wp2_with fail
                        refine (rhas_any fa fc F r' i' s' _ (H.out.f.below (XB.out.below HW.out).whl.bel) (by omega)).mono ?_
                        rintro e w7 ⟨rfl, hb⟩
                        rw [HF2.out]
                        replace B := Lib.hid (B1.out.step hb)
                        clear hb d0 z0 B1 k0 kz XB l1 HW HF2 e0 e1 e2
                        have d0 := cells_at B.out.blk
                        simp only [ccells] at d0
                        have z0 := heap_lt B.out.blk
                        go_wp2_with fail
                        refine (rwithin_any none ua 0 uc [] uu _ (Sl.nil _ _) (HA.out.vv.below B.out.bel) (fun d hd => by cases hd) (by decide) (by omega)).mono ?_
                        rintro e w8 ⟨rfl, hb⟩
                        rw [(withinV_iff (a := []) (b := uu) (fun d hd => by cases hd)).2 (fun x => (getN_bd uu x).1)]
                        replace B := Lib.hid (B.out.step hb)
                        clear hb d0 z0
                        go_wp2_with fail
                        go_roundw
                        case rel => exact ⟨z2 + 1, by omega, by go_num, B⟩
                        case measure => simp [intOf]; omega
                      · rw [h1] at l1
                        simp only [Option.getD_some, Option.isSome_some, slv] at l1
                        have HY := Lib.hid (X.out.each y1 hy1)
                        have HW3 := Lib.hid h3
                        have hyl : y1.c.vv.length ≤ 1100000 := by have h1 : (canonV y1.c.vv).length ≤ 64 := vecOf_length _; rw [(X.out.whl.hist.may y1.c (HPm.out.mem_iff.1 (List.mem_map.2 ⟨y1, hy1, rfl⟩))).canon] at h1; omega
                        clear h1 h3
                        go_wp2_with fail
                        refine (rwithin_any y1.va ua y1.vc uc y1.c.vv uu _ (HY.out.at_.vv.below B1.out.bel) (HA.out.vv.below B1.out.bel) HY.out.ok.vv hyl (by omega)).mono ?_
                        rintro e w8 ⟨rfl, hb⟩
                        rw [HW3.out]
                        replace B := Lib.hid (B1.out.step hb)
                        clear hb d0 z0 B1 k0 kz XB l1 HW e0 e1 e2
                        go_wp2_with fail
                        go_roundw
                        case rel => exact ⟨z2 + 1, by omega, by go_num, B⟩
                        case measure => simp [intOf]; omega
                    · have XB := Lib.hid (X.out.below B.out.bel)
                      obtain ⟨w9, hr9, hm9, hc9⟩ := XB.out.map.update Tryz.underlying49 (by unfold maxLen; omega) HA.out.ok.d HF.out (.slice ua uu.length uc)
                      have XN := Lib.hid (XB.out.step HN.out HV.out hm9 hc9)
                      clear hm9 hc9
                      go_wp2_with fail
                      go_roundw
                      case rel => exact ⟨y + 1, by omega, by go_num, XN⟩
                      case measure => simp [intOf]; omega
                · have hye : y = ss.length := by omega
                  subst hye
                  go_wp2_with fail
                  refine (heads_G pg mb w0 3 b L va' vc' vv _ X.out.whl.gr).mono ?_
                  rintro e w7 ⟨a7, c7, Hl, rfl, hh, hko, hkl, how, hb⟩
                  have XB := Lib.hid (X.out.below hb)
                  have HH := Lib.hid hh
                  have HOw := Lib.hid how
                  have HKo := Lib.hid hko
                  clear hb hh how hko X
                  have k0 := cells_at XB.out.whl.blk
                  simp only [basecells] at k0
                  have kz := heap_lt XB.out.whl.blk
                  have O1 := Lib.hid (OwnD.made w7 (base := w7.heap.size) (Nat.le_refl _))
                  have XC := Lib.hid (XB.out.below ((Below.refl _ _).alloc (Nat.le_refl _) (.cells #[] 41)))
                  go_wp2_with (at_builtin; go_must (refine wpList_appD rfl _ _ rfl w7.heap.size (some ⟨w7.heap.size, 0, none⟩) 0 [] rfl O1.out ta tc tips rfl (H.out.tips.below XC.out.whl.bel) ?n1 ?b1 ?_))
                  case n1 => simp; omega
                  case b1 => simp
                  intro v8 a8 c8 w8 hv8 ho8 hb8 _
                  have Hv8 := Lib.hid (show v8 = tips from hv8)
                  have hl8 : v8.length ≤ 100 := by rw [Hv8.out]; omega
                  clear hv8
                  have b8 := ((Below.refl w7.heap.size w7).alloc (Nat.le_refl _) (.cells #[] 41)).trans hb8
                  have XD := Lib.hid (XB.out.below b8)
                  have HVh := Lib.hid ((vec_of HOw.out).below b8)
                  have O8 := Lib.hid ho8
                  have hz8 := b8.size
                  have HM8 := Lib.hid XD.out.map.mapF
                  have HB8 := Lib.hid b8
                  have hmp7 : mp < w7.heap.size := XB.out.map.lt
                  clear ho8 hb8 b8 O1 XC k0 kz HVh XD
                  go_wp2_with (at_range; go_must (refine wpList_range_F keysD rfl _ _ rfl _ Tryz.underlying49 mp ss.length (fsV (ss.take ss.length)) rfl HM8.out ?_))
                  intro wa cnt0 hrg0 hcn0 hg0 hs0
                  have hb9 : Below w8.heap.size w8 wa := (Below.refl _ _).grown hg0 (Nat.le_refl _) (by simp)
                  have hG0 : WhlG w7 wa mp w8.heap.size tips ss (fun a => (fsV ss a).isSome) cnt0 a8 c8 v8 := ⟨by simpa using hrg0, OwnD.below O8.out hb9, fun hm => by have := (owns_lt O8.out _ hm).2; omega, fun d hd => .inl (by rw [← Hv8.out]; exact hd), by omega, below2 HB8.out hb9 HB8.out.size, HB8.out.size, hmp7⟩
                  have G0 := Lib.hid hG0
                  clear hG0 hb9 hrg0 hcn0 hg0 hs0 O8 HM8 HB8
                  generalize w8.heap.size = it at G0 ⊢
                  go_wp2_with fail
                  go_loopw [21, 145] (fun ov _ wr => ∃ (left : Dt → Bool) (cnt : Nat) (T : List Dt) (a : Option Addr) (c : Nat), ov = .slice a (List.length T) c ∧ Hid (WhlG w7 wr mp it tips ss left cnt a c T)) (fun _ _ wr => wr.rangeLeft mp it)
                  case atStart => exact ⟨_, cnt0, v8, a8, c8, rfl, G0⟩
                  case round =>
                    obtain ⟨left, cnt, T, a, c, rfl, G⟩ := hrel
                    clear G0
                    have hrg := G.out.rng
                    go_wp2_with (at_next; go_must (refine wpList_next_D rfl _ rfl _ _ _ _ _ _ rfl hrg ?_ ?_))
                    · intro hl
                      clear hrg hl
                      have hTl : T.length ≤ 300 := by have := G.out.len; omega
                      go_wp2_with fail
                      go_loopw [155] (fun j wz => ∃ z3 : Nat, z3 ≤ T.length ∧ j = .int .i64 z3 ∧ Hid (Below wr.heap.size wr wz)) (fun j _ => T.length - (intOf j).toNat)
                      case atStart => exact ⟨0, Nat.zero_le _, rfl, Lib.hid (Below.refl _ _)⟩
                      case round =>
                        obtain ⟨z3, hz3, rfl, BZ⟩ := hrel
                        by_cases hl3 : z3 < T.length
                        · obtain ⟨⟨⟨r, i⟩, s⟩, hx⟩ : ∃ d, T[z3]? = some d := ⟨T[z3], by simp [hl3]⟩
                          obtain ⟨ad, had, f0, f1, f2, hl0⟩ := ((vec_of G.out.own).below BZ.out).at hx
                          dsimp only at had f0 f1 f2
                          subst had
                          have HT := Lib.hid (G.out.mem _ (List.mem_of_getElem? hx))
                          clear hx
                          have B0 : Hid (BoxE 41 wr (wr.alloc (.cells #[.int .u8 r, .int .u32 i, .int .u64 s] 41)) #[.int .u8 r, .int .u32 i, .int .u64 s]) := Lib.hid ⟨heap_new _ _, (Below.refl _ _).alloc (Nat.le_refl _) _⟩
                          go_wp2_with fail
                          go_loopw [25, 26, 161] (fun u v j wx => ∃ z4 : Nat, z4 ≤ Hl.length ∧ j = .int .i64 z4 ∧ v = .bool (decide (((r, i), s) ∈ Hl.take z4)) ∧ u = .bool ((Hl.take z4).any (hitB ss ((r, i), s))) ∧ Hid (BoxE 41 wr wx #[.int .u8 r, .int .u32 i, .int .u64 s])) (fun _ _ j _ => Hl.length - (intOf j).toNat)
                          case atStart => exact ⟨0, Nat.zero_le _, rfl, by simp, by simp, B0⟩
                          case round =>
                            obtain ⟨z4, hz4, rfl, rfl, rfl, B⟩ := hrel
                            clear B0
                            by_cases hl4 : z4 < Hl.length
                            · obtain ⟨⟨⟨r', i'⟩, s'⟩, hx⟩ : ∃ d, Hl[z4]? = some d := ⟨Hl[z4], by simp [hl4]⟩
                              have XW := Lib.hid (below2 G.out.bel (below2 BZ.out B.out.bel BZ.out.size) G.out.bel.size)
                              have HD := Lib.hid (show okD ((r', i'), s') from HKo.out _ (List.mem_of_getElem? hx))
                              have H26 := Lib.hid (in_snoc hx ((r, i), s))
                              have H25 := Lib.hid (any_snoc hx (hitB ss ((r, i), s)))
                              obtain ⟨ae, hae, e0, e1, e2, hl1⟩ := ((vec_of HOw.out).below XW.out).at hx
                              dsimp only at hae e0 e1 e2
                              subst hae
                              clear hx
                              have d0 := cells_at B.out.blk
                              have z0 := heap_lt B.out.blk
                              have HA := Lib.hid (show Below wr.heap.size wr ((wr.alloc (.cells #[.int .u8 r', .int .u32 i', .int .u64 s'] 41)).drew) from ((Below.refl _ _).alloc (Nat.le_refl _) _).drew)
                              have l1 := (XB.out.map.below (below2 XW.out HA.out XW.out.size)).look Tryz.underlying49 zeroVec HD.out
                              rw [List.take_length] at l1
                              generalize decide (((r, i), s) ∈ List.take z4 Hl) = q26 at H26 ⊢
                              generalize List.any (List.take z4 Hl) (hitB ss ((r, i), s)) = q25 at H25 ⊢
                              have B1 := Lib.hid (B.out.step HA.out)
                              cases heq : eqD ((r', i'), s') ((r, i), s) with
                              | true =>
                                clear l1
                                cases q26 <;> cases q25
                                all_goals
                                  go_wp2_with fail
                                  refine region_text [([0, 1, 2, 3, 4, 5, 6, 7, 9], false), ([8], true), ([10, 11, 12, 13], false)] mixed (by kernel_rfl) ?_
                                  simp only [wpSegs, List.map_cons, List.map_nil, List.getD_cons_succ, List.getD_cons_zero]
                                  go_wp2_with fail
                                  refine And.intro (Agree.refl _) ?_
                                  go_wp2_with fail
                                  refine And.intro (by kernel_rfl) ?_
                                  go_wp2_with fail
                                  go_roundw
                                  case rel => exact ⟨z4 + 1, by omega, by go_num, by rw [H26.out, heq]; rfl, by rw [H25.out]; unfold hitB; rw [heq]; rfl, B1⟩
                                  case measure => simp [intOf]; omega
                              | false =>
                                cases q25 with
                                | true =>
                                  clear l1
                                  cases q26
                                  all_goals
                                    go_wp2_with fail
                                    refine region_text [([0, 1, 2, 3, 4, 5, 6, 7, 9], false), ([8], true), ([10, 11, 12, 13], false)] mixed (by kernel_rfl) ?_
                                    simp only [wpSegs, List.map_cons, List.map_nil, List.getD_cons_succ, List.getD_cons_zero]
                                    go_wp2_with fail
                                    refine And.intro (Agree.refl _) ?_
                                    go_wp2_with fail
                                    refine And.intro (by kernel_rfl) ?_
                                    go_wp2_with fail
                                    go_roundw
                                    case rel => exact ⟨z4 + 1, by omega, by go_num, by rw [H26.out, heq]; rfl, by rw [H25.out]; rfl, B1⟩
                                    case measure => simp [intOf]; omega
                                | false =>
                                  cases hf : fdW ss ((r', i'), s') with
                                  | none =>
                                    unfold fsV at l1
                                    rw [hf] at l1
                                    simp only [Option.map_none, Option.getD_none] at l1
                                    have Hf := Lib.hid hf
                                    cases q26
                                    all_goals
                                      go_wp2_with fail
                                      refine region_text [([0, 1, 2, 3, 4, 5, 6, 7, 9], false), ([8], true), ([10, 11, 12, 13], false)] mixed (by kernel_rfl) ?_
                                      simp only [wpSegs, List.map_cons, List.map_nil, List.getD_cons_succ, List.getD_cons_zero]
                                      go_wp2_with fail
                                      refine And.intro (Agree.refl _) ?_
                                      go_wp2_with fail
                                      refine (rhas_any none 0 [] r i s _ (Sl.nil _ _) (by decide)).mono ?_
                                      rintro e w8 ⟨rfl, hb⟩
                                      have B2 := Lib.hid (B1.out.step hb)
                                      clear hb d0 z0 l1
                                      go_wp2_with fail
                                      refine And.intro (by kernel_rfl) ?_
                                      go_wp2_with fail
                                      go_roundw
                                      case rel => exact ⟨z4 + 1, by omega, by go_num, by rw [H26.out, heq]; rfl, by rw [H25.out]; unfold hitB; rw [heq, Hf.out]; rfl, B2⟩
                                      case measure => simp [intOf]; omega
                                  | some y =>
                                    unfold fsV at l1
                                    rw [hf] at l1
                                    simp only [Option.map_some, Option.getD_some, slv] at l1
                                    have Hf := Lib.hid hf
                                    have hym := (fdW_some hf).1
                                    have HY := Lib.hid ((XB.out.each y hym).at_.vv.below (below2 XW.out HA.out XW.out.size))
                                    have hyl : y.c.vv.length ≤ 1100000 := by have h1 := (XB.out.whl.hist.may y.c (HPm.out.mem_iff.1 (List.mem_map.2 ⟨y, hym, rfl⟩))).vlen; omega
                                    clear hym hf
                                    cases q26
                                    all_goals
                                      go_wp2_with fail
                                      refine region_text [([0, 1, 2, 3, 4, 5, 6, 7, 9], false), ([8], true), ([10, 11, 12, 13], false)] mixed (by kernel_rfl) ?_
                                      simp only [wpSegs, List.map_cons, List.map_nil, List.getD_cons_succ, List.getD_cons_zero]
                                      go_wp2_with fail
                                      refine And.intro (Agree.refl _) ?_
                                      go_wp2_with fail
                                      refine (rhas_any y.va y.vc y.c.vv r i s _ HY.out hyl).mono ?_
                                      rintro e w8 ⟨rfl, hb⟩
                                      have B2 := Lib.hid (B1.out.step hb)
                                      clear hb d0 z0 l1
                                      go_wp2_with fail
                                      refine And.intro (by kernel_rfl) ?_
                                      go_wp2_with fail
                                      go_roundw
                                      case rel => exact ⟨z4 + 1, by omega, by go_num, by rw [H26.out, heq]; rfl, by rw [H25.out]; unfold hitB; rw [heq, Hf.out]; rfl, B2⟩
                                      case measure => simp [intOf]; omega
                            · have HFl := Lib.hid (flags_of XB.out.whl.hist HH.out HN.out HPm.out (d := ((r, i), s)) (HT.out.imp (fun e => by rw [Hs.out.tips]; exact e) id))
                              have hze : z4 = Hl.length := by omega
                              subst hze
                              have BZ2 := Lib.hid (below2 BZ.out B.out.bel BZ.out.size)
                              simp only [List.take_length]
                              rcases HFl.out with ⟨e1, e2⟩ | ⟨e1, e2⟩
                              · rw [e1, e2]
                                go_wp2_with fail
                                go_roundw
                                case rel => exact ⟨z3 + 1, by omega, by go_num, BZ2⟩
                                case measure => simp [intOf]; omega
                              · rw [e1, e2]
                                go_wp2_with fail
                                go_roundw
                                case rel => exact ⟨z3 + 1, by omega, by go_num, BZ2⟩
                                case measure => simp [intOf]; omega
                        · have XZ := Lib.hid (below2 (XB.out.whl.bel.trans (G.out.bel.mono XB.out.whl.bel.size)) BZ.out (Nat.le_trans XB.out.whl.bel.size G.out.bel.size))
                          go_wp2_with fail
                          refine (known12_any _).mono ?_
                          rintro e w11 ⟨rfl, hb⟩
                          have HB := Lib.hid (below2 XZ.out hb XZ.out.size)
                          clear hb
                          go_wp2_with fail
                          go_ret
                          exact ⟨rfl, HB.out⟩
                    · intro rr ii qq xv w9 cnt1 hX hen
                      clear hrg
                      obtain ⟨h1, h2, h3⟩ := G.out.next hX
                      have G1 := Lib.hid ((h1.below (.cells #[.int .u8 rr, .int .u32 ii, .int .u64 qq] 41)).below (.cells #[.int .u8 rr, .int .u32 ii, .int .u64 qq] 41))
                      have H3 := Lib.hid h3
                      have hlt9 := hX.lt
                      clear h1 h3 hX
                      go_wp2_with (at_builtin; go_must (refine wpList_appD3 rfl _ _ rfl w7.heap.size a c T rfl G1.out.own (some ⟨w9.heap.size + 1, 0, none⟩) 1 [((rr, ii), qq)] rfl (vec_one (heap_at _ _ (by simp))) ?n2 ?b2 ?_))
                      case n2 => simp; omega
                      case b2 => exact G1.out.bel.size
                      intro v10 a10 c10 w10 hv10 ho10 hb10 hch10 hn10
                      have G2 := Lib.hid (G1.out.add (by omega) H3.out hv10 ho10 hch10 (fun k hk => by rcases hn10 k hk with h | h; exact .inl h; exact .inr (by simpa using h)))
                      clear hv10 ho10 hb10 hch10 hn10 G1
                      go_wp2_with fail
                      go_roundw
                      case rel => exact ⟨_, cnt1, v10, a10, c10, rfl, G2⟩
                      case measure => rw [G2.out.rng.left_eq, G.out.rng.left_eq]; exact hlt9
end Go.Proofs.YthdmoplclllhjaaGreat
