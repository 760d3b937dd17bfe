/- The law's fresh and done. | The law's latest: a time behind all that a tree tells. | The law's seen: has a tree, or an operation, a dot of the new actor? | Plain: what a tree that is not great gives; names below a path are told by which leaves there are. -/
import Derived.Test.YtmabjghjkgicgaaGreatApT
import Derived.Test.YtmabjghjkgicgaaGreatMeanP
/- DonA -/
namespace Go.Proofs.YtmabjghjkgicgaaGreat
open Go.RowKit
set_option linter.unusedVariables false
set_option linter.unusedSimpArgs false

theorem fresh_any (w : World) : Calls Tryz.prog 17 #[] w fun e w' => e = .returned (.agg #[.int .u8 15, .int .u32 4]) ∧ Below w.heap.size w w' := by
  go_enter Tryz.func17, Tryz.ntmps17
  go_wp2_with fail
  refine bodyPost_ret (v := .agg #[.int .u8 15, .int .u32 4]) (by simp [results, Tryz.results17, go_sem]; try rfl) rfl ⟨rfl, ?_⟩
  first | exact ((((Below.refl _ _).alloc (Nat.le_refl _) _).setCell (by simp) _).setCell (by simp) _) | exact (Below.refl _ _).alloc (Nat.le_refl _) _
/-- leaves of a tree, as functions -/
def FT (T : List Nd) : Look := fun p k => (lookP T p k).map (·.l)
theorem FT_at (T : List Nd) (p : List ByteArray) (k : Int) : (FT T p k).getD (bare k) = (atP T p k).l := by
  unfold FT atP
  cases lookP T p k <;> rfl
theorem apply_len (l : Lf) (e : Ev) : (applyP l e).items.length ≤ l.items.length + 1 ∧ (applyP l e).tombs.length ≤ l.tombs.length + e.ds.length := by
  have h1 := layP_len l.items (putI e)
  have h2 := layP_len l.items (sayI e)
  have h3 := buryAll_len l.tombs e.ds
  have h4 : (leftP l.items (buryAll l.tombs e.ds)).length ≤ l.items.length := List.length_filter_le _ _
  unfold applyP
  repeat' split
  all_goals (first | omega | (dsimp only; omega))
/-- the loop's tree -/
structure DoneI (t0 : Int) (T : List Nd) (L : List Opn) (q : Nat) (U : List Nd) : Prop where
  may : MayT 3 U
  bd : BdT 1000000 3 U
  cnt : cntT 3 U ≤ cntT 3 T + 4 * q
  look : ∀ p k, FT U p k = runF t0 (FT T) (L.take q) p k
  len : ∀ p k u, lookP U p k = some u → u.l.items.length ≤ 2000 + 100 * q ∧ u.l.tombs.length ≤ 2000 + 100 * q
theorem DoneI.step {t0 : Int} {T U U' : List Nd} {L : List Opn} {q : Nat} {o : Opn} {M : Lv} (h : DoneI t0 T L q U) (ho : L[q]? = some o) (hds : o.ds.length ≤ 64) (hL : LayT 3 U o.p M U') (hM : M.l = applyP (atP U o.p (typeOf o.k)).l (evAt t0 q o)) (hk : M.l.k = typeOf o.k)
    (hc : cntT 3 U' ≤ cntT 3 U + 4) (hb : BdT 1000000 3 U') : DoneI t0 T L (q + 1) U' := by
  have hq := (List.getElem?_eq_some_iff.1 ho).1
  have hql : (L.take q).length = q := by rw [List.length_take]; omega
  refine ⟨hL.may, hb, by have := h.cnt; omega, fun p k => ?_, fun p k u hu => ?_⟩
  · rw [take_snoc' ho, runF_snoc, hql]
    have hlk : FT U' p k = if p = o.p ∧ k = typeOf o.k then some M.l else FT U p k := by
      unfold FT
      rw [hL.look, hk]
      split <;> rfl
    rw [hlk]
    unfold stepF
    by_cases hh : p = o.p ∧ k = typeOf o.k
    · rw [if_pos hh, if_pos hh, ← h.look]
      obtain ⟨rfl, rfl⟩ := hh
      rw [FT_at, ← hM]
    · rw [if_neg hh, if_neg hh]
      exact h.look p k
  · rw [hL.look] at hu
    by_cases hh : p = o.p ∧ k = M.l.k
    · rw [if_pos hh] at hu
      injection hu with hu
      subst hu
      rw [hM]
      obtain ⟨h1, h2⟩ := apply_len (atP U o.p (typeOf o.k)).l (evAt t0 q o)
      have hds' : (evAt t0 q o).ds.length ≤ 64 := hds
      have h3 : (atP U o.p (typeOf o.k)).l.items.length ≤ 2000 + 100 * q ∧ (atP U o.p (typeOf o.k)).l.tombs.length ≤ 2000 + 100 * q := by
        unfold atP
        cases e : lookP U o.p (typeOf o.k) with
        | none => exact ⟨Nat.zero_le _, Nat.zero_le _⟩
        | some u => exact h.len _ _ u e
      omega
    · rw [if_neg hh] at hu
      have := h.len p k u hu
      omega
def DoneTo (w : World) (T : List Nd) (t0 : Int) (L : List Opn) (e : Ending) (w' : World) : Prop :=
  ((e = .returned (.tuple #[.slice none 0 0, .bool false]) ∧ 1099511627776 < t0 + L.length) ∨
   (∃ a' c' T' m', e = .returned (.tuple #[.slice a' (List.length T') c', .bool true]) ∧ DoneI t0 T L L.length T' ∧ TrRd w' m' a' c' T')) ∧ Below w.heap.size w w'
set_option maxRecDepth 100000 in
set_option maxHeartbeats 2000000 in
theorem done_any (m : Nat) (a : Option Addr) (c : Nat) (T : List Nd) (la : Option Addr) (lc : Nat) (l : List Ow) (t0 : Int) (w : World) (hT : TrRd w m a c T) (hB : BdT 1000000 3 T) (hM : MayT 3 T) (hl : Ops w la lc l) (hn : l.length ≤ 30) (hml : ∀ o ∈ l, MayO o.o)
    (ht0 : 1 ≤ t0) (ht1 : t0 ≤ 2199023255552) (hcnt : cntT 3 T ≤ 90000) (hlen : ∀ p k u, lookP T p k = some u → u.l.items.length ≤ 2000 ∧ u.l.tombs.length ≤ 2000) :
    Calls Tryz.prog 11 #[.slice a T.length c, .slice la l.length lc, .int .u64 t0] w (DoneTo w T t0 (l.map (·.o))) := by
  have HT := Lib.hid hT
  have HM := Lib.hid hml
  have Hl := Lib.hid hl
  have Hc := Lib.hid hcnt
  have HI : Hid (DoneI t0 T (l.map (·.o)) 0 T) := Lib.hid ⟨hM, hB, by omega, fun p k => by simp [runF], fun p k u hu => by have := hlen p k u hu; omega⟩
  clear hT hB hM hl hml hcnt hlen
  go_enter Tryz.func11, Tryz.ntmps11
  go_wp2_with fail
  go_loopw [0, 14] (fun t i wr => ∃ (q m' : Nat) (ta : Option Addr) (tc : Nat) (U : List Nd), q ≤ l.length ∧ i = .int .i64 q ∧ t = .slice ta U.length tc ∧ Hid (DoneI t0 T (l.map (·.o)) q U) ∧ Hid (TrRd wr m' ta tc U) ∧ Hid (Below w.heap.size w wr)) (fun _ i _ => l.length - (intOf i).toNat)
  case atStart => exact ⟨0, m, a, c, T, Nat.zero_le _, rfl, rfl, HI, HT, Lib.hid (Below.refl _ _)⟩
  case round =>
    clear HI
    obtain ⟨q, m', ta, tc, U, hq, rfl, rfl, HI, HU, HB⟩ := hrel
    by_cases hlt : q < l.length
    · obtain ⟨o, ho⟩ : ∃ o, l[q]? = some o := ⟨l[q], by simp [hlt]⟩
      obtain ⟨ad, had, ⟨c0, c1, c2, c3, c4, hat⟩, hlb⟩ := (Hl.out.below HB.out).at ho
      subst had
      have Ho := Lib.hid ho
      have Hat := Lib.hid hat
      clear ho hat
      go_wp2_with fail
      refine region_tree_at (fun k => k = wr.heap.size) (sgOf [([0, 2, 3, 4, 6, 7, 8, 9, 10], false), ([1], true), ([5, 11, 12, 13, 14, 15, 16, 17], false)]) mixed (by kernel_rfl) ?_
      simp only [sgOf, wpSgB, List.map_cons, List.map_nil, List.getD_cons_succ, List.getD_cons_zero]
      go_wp2_with fail
      refine (fresh_any _).mono ?_
      rintro e w2 ⟨rfl, hb2⟩
      have hW : Below wr.heap.size wr (wr.alloc (.cells (owcells o) 59)).drew := ((Below.refl _ _).alloc (Nat.le_refl _) _).drew
      have hHeld : Held (fun k => k = wr.heap.size) _ _ := Held.of_chg (w := (wr.alloc (.cells (owcells o) 59)).drew) (heap_new _ _) (Chg.of_below (F := []) hb2) (by simp)
      have HB2 := Lib.hid (below2 (below2 HB.out hW HB.out.size) hb2 (by have := HB.out.size; simp; omega))
      have HBw := Lib.hid (below2 hW hb2 (by simp))
      have Hmo := Lib.hid (HM.out o (List.mem_of_getElem? Ho.out))
      have hd64 : o.o.ds.length ≤ 64 := Hmo.out.few
      have hcn : cntT 3 U ≤ 100000 := by have := HI.out.cnt; have := Hc.out; omega
      have hev : EwAt w2 ⟨evAt t0 q o.o, o.pa, o.o.p, o.pc, o.da, o.dc⟩ := by
        have h := (Hat.out.below HBw.out)
        refine ⟨h.pt, h.ds, ⟨show okA freshA from ⟨by decide, by decide, by decide⟩, ?_, ?_⟩, ⟨?_, ?_⟩, h.ok⟩
        · show (0 : Int) ≤ (q : Int) + 1; omega
        · show (q : Int) + 1 ≤ 18446744073709551615; omega
        · show (0 : Int) ≤ t0 + q; omega
        · show t0 + (q : Int) ≤ 18446744073709551615; omega
      clear hb2 hW c0 c1 c2 c3 c4
      go_wp2_with fail
      refine And.intro hHeld ?_
      clear hHeld
      go_wp2_with fail
      refine (rapplyT_any m' ta tc U ⟨evAt t0 q o.o, o.pa, o.o.p, o.pc, o.da, o.dc⟩ _ (HU.out.below HBw.out) HI.out.bd HI.out.may hev (show o.o.ds.length ≤ 100 by omega) hcn (fun u hu => by have := HI.out.len _ _ u hu; omega)).mono ?_
      intro e w3 hto
      obtain ⟨hto, hb3⟩ := hto
      have HB3 := Lib.hid (below2 HB2.out hb3 HB2.out.size)
      clear hb3 hev
      rcases hto with ⟨code, hc0, rfl, hno⟩ | ⟨a', c', T', m2, M, rfl, hme, hL, hMl, hMk, hc4, hbd, hrd⟩
      · have HT0 := Lib.hid (show 1099511627776 < t0 + ((l.map (·.o)).length : Int) from by
          rw [List.length_map]
          by_cases h : t0 + (q : Int) ≤ 1099511627776
          · refine absurd ⟨?_, ?_, h, Hmo.out⟩ hno
            · rw [may_iff]
              refine ⟨show mayA freshA = true by decide, ?_, ?_⟩
              · show (1 : Int) ≤ (q : Int) + 1; omega
              · show (q : Int) + 1 ≤ 1048576; omega
            · show 1 ≤ t0 + (q : Int); omega
          · omega)
        have e1 : (code != 0) = true := by simpa using hc0
        clear hno hc0
        go_wp2_with fail
        refine And.intro (And.intro (by kernel_rfl) (reads_of ?rds)) ?_
        case rds => exact ⟨trivial, trivial, trivial, trivial, trivial, trivial, trivial, trivial, trivial, trivial, rfl, trivial, trivial, trivial, trivial, trivial, trivial, trivial, trivial⟩
        go_wp2_with fail
        exact bodyPost_ret (v := .tuple #[.slice none 0 0, .bool false]) (by simp [results, Tryz.results11, go_sem]; try rfl) rfl ⟨.inl ⟨rfl, HT0.out⟩, HB3.out⟩
      · have HI2 := Lib.hid (HI.out.step (L := l.map (·.o)) (o := o.o) (by rw [List.getElem?_map, Ho.out]; rfl) hd64 hL hMl hMk hc4 hbd)
        have HU2 := Lib.hid hrd
        clear hme hL hMl hMk hc4 hbd hrd
        go_wp2_with fail
        refine And.intro (And.intro (by kernel_rfl) (reads_of ?rds)) ?_
        case rds => exact ⟨trivial, trivial, trivial, trivial, trivial, trivial, trivial, trivial, trivial, trivial, rfl, trivial, trivial, trivial, trivial, trivial, trivial, trivial, trivial⟩
        go_wp2_with fail
        go_roundw
        case rel => exact ⟨q + 1, m2, a', c', T', by omega, by go_num, rfl, HI2, HU2, HB3⟩
        case measure => simp [intOf]; omega
    · have HF := Lib.hid (show DoneI t0 T (l.map (·.o)) (l.map (·.o)).length U by have := HI.out; rwa [show q = (l.map (·.o)).length by rw [List.length_map]; omega] at this)
      go_wp2_with fail
      exact bodyPost_ret (v := .tuple #[.slice ta U.length tc, .bool true]) (by simp [results, Tryz.results11, go_sem]; try rfl) rfl ⟨.inr ⟨ta, tc, U, m', rfl, HF.out, HU.out⟩, HB.out⟩
end Go.Proofs.YtmabjghjkgicgaaGreat

/- LatA -/
namespace Go.Proofs.YtmabjghjkgicgaaGreat
open Go.RowKit
set_option linter.unusedVariables false
set_option linter.unusedSimpArgs false

structure RwC (w : World) (b : Addr) (r : Rw) : Prop where
  c0 : w.cell? b = some (.slice r.pa r.p.length r.pc)
  c1 : w.cell? ⟨b.block, b.off + 1, none⟩ = some (.int .u8 r.v.l.k)
  c2 : w.cell? ⟨b.block, b.off + 2, none⟩ = some (.int .i64 r.v.l.n)
  c3 : w.cell? ⟨b.block, b.off + 3, none⟩ = some (.int .u64 r.v.l.t)
  c4 : w.cell? ⟨b.block, b.off + 4, none⟩ = some (.int .u8 r.v.l.d.1.1)
  c5 : w.cell? ⟨b.block, b.off + 5, none⟩ = some (.int .u32 r.v.l.d.1.2)
  c6 : w.cell? ⟨b.block, b.off + 6, none⟩ = some (.int .u64 r.v.l.d.2)
  c7 : w.cell? ⟨b.block, b.off + 7, none⟩ = some (.string r.v.l.x)
  c8 : w.cell? ⟨b.block, b.off + 8, none⟩ = some (.slice r.v.ia r.v.l.items.length r.v.ic)
  c9 : w.cell? ⟨b.block, b.off + 9, none⟩ = some (.slice r.v.ta r.v.l.tombs.length r.v.tc)
theorem rws_at {w : World} {a : Option Addr} {c : Nat} {R : List Rw} (h : Sl w 10 a R.length c (R.flatMap rwcell)) {i : Nat} {x : Rw} (hx : R[i]? = some x) : ∃ ad, a = some ad ∧ RwC w (ad.add (i * 10)) x ∧ ad.block < w.heap.size := by
  have hi := (List.getElem?_eq_some_iff.1 hx).1
  rcases h.2.2.2 with ⟨_, h5, _⟩ | ⟨ad, rfl, hc⟩
  · omega
  · have g : ∀ j, j < 10 → w.cell? (ad.add (i * 10 + j)) = (rwcell x)[j]? := fun j hj => by
      have e := flatMap_at (enc := rwcell) (k := 10) rwcell_len R i j x hx hj
      have e2 : (rwcell x)[j]? = some ((rwcell x)[j]'(by rw [rwcell_len]; exact hj)) := by simp
      rw [e2]
      exact hc _ _ (by rw [e, e2])
    have g0 := g 0 (by omega)
    have g1 := g 1 (by omega)
    have g2 := g 2 (by omega)
    have g3 := g 3 (by omega)
    have g4 := g 4 (by omega)
    have g5 := g 5 (by omega)
    have g6 := g 6 (by omega)
    have g7 := g 7 (by omega)
    have g8 := g 8 (by omega)
    have g9 := g 9 (by omega)
    rw [Nat.add_zero] at g0
    rw [← Go.Deep.add_add] at g1 g2 g3 g4 g5 g6 g7 g8 g9
    refine ⟨ad, rfl, ⟨g0, g1, g2, g3, g4, g5, g6, g7, g8, g9⟩, ?_⟩
    have := World.block_lt_of_cell? w _ g0
    rwa [add_block] at this
/-- what is asked of each leaf -/
def QLf (v : Lv) : Prop := MayLf v.l ∧ v.l.items.length + v.l.tombs.length ≤ 1500
theorem QLf.t {v : Lv} (h : QLf v) (ho : okL v.l) : 0 ≤ v.l.t ∧ v.l.t ≤ 1099511627776 := by
  rcases h.1 with h | h | h | h
  · rw [h.2.1.1]; omega
  · rcases h.2.2.1 with h1 | h1
    · rw [h1.1]; omega
    · exact ⟨ho.2.1.1, h1.2.1⟩
  · rw [h.2.2.1.1]; omega
  · rw [h.2.2.1.1]; omega
theorem QLf.it {v : Lv} (h : QLf v) {x : It} (hx : x ∈ v.l.items) : 0 ≤ x.t ∧ x.t ≤ 1099511627776 := by
  rcases h.1 with h | h | h | h
  · rw [h.2.2.1] at hx; cases hx
  · rw [h.2.2.2.1] at hx; cases hx
  · have := (h.2.2.2.1.1 x hx).2.2.2 rfl; omega
  · have := (h.2.2.2.1.1 x hx).2.2.1 rfl; omega
/-- a time behind a leaf's -/
def Past (n : Int) (v : Lv) : Prop := v.l.t < n ∧ ∀ x ∈ v.l.items, x.t < n
theorem Past.mono {m n : Int} {v : Lv} (h : Past m v) (hn : m ≤ n) : Past n v := ⟨by have := h.1; omega, fun x hx => by have := h.2 x hx; omega⟩
def LatTo (w : World) (T : List Nd) (e : Ending) (w' : World) : Prop :=
  ∃ n : Int, e = .returned (.int .u64 n) ∧ 1 ≤ n ∧ n ≤ 1099511627777 ∧ (∀ p k v, lookP T p k = some v → Past n v) ∧ Below w.heap.size w w'
set_option maxRecDepth 100000 in
set_option maxHeartbeats 2000000 in
theorem latest_any (m : Nat) (a : Option Addr) (c : Nat) (T : List Nd) (w : World) (hT : TrRd w m a c T) (hM : MayT 3 T) (hcnt : cntT 3 T ≤ 100000) (hQ : AllQ QLf 3 T) :
    Calls Tryz.prog 10 #[.slice a T.length c] w (LatTo w T) := by
  have HT := Lib.hid hT
  have HM := Lib.hid hM
  have HQ := Lib.hid hQ
  have Hc := Lib.hid hcnt
  clear hT hM hQ hcnt
  go_enter Tryz.func10, Tryz.ntmps10
  go_wp2_with fail
  refine (rows_any QLf 3 m a c T none 0 [] w w HT.out HM.out (Below.refl _ _) (Sl.nil _ _) (by simp) Hc.out HQ.out).mono ?_
  intro e w1 hto
  obtain ⟨ra, rc, R, rfl, hO, hR, hA, hRl, hb⟩ := hto
  have HO := Lib.hid hO
  have HR := Lib.hid hR
  have HA := Lib.hid hA
  have HB1 := Lib.hid hb
  have hlen := hO.sl.2.1
  have hcap := hO.sl.2.2.1
  unfold maxLen at hcap
  have hRl2 : R.length ≤ 100000 := by have := Hc.out; omega
  clear hO hR hA hRl hb
  go_wp2_with fail
  go_loopw [3, 11] (fun n i wr => ∃ (q : Nat) (t : Int), q ≤ R.length ∧ i = .int .i64 q ∧ n = .int .u64 t ∧ 1 ≤ t ∧ t ≤ 1099511627777 ∧ Hid (∀ r ∈ R.take q, Past t r.v) ∧ Hid (Below w1.heap.size w1 wr)) (fun _ i _ => R.length - (intOf i).toNat)
  case atStart => exact ⟨0, 1, Nat.zero_le _, rfl, rfl, by omega, by omega, Lib.hid (fun r hr => by simp at hr), Lib.hid (Below.refl _ _)⟩
  case round =>
    obtain ⟨q, t, hq, rfl, rfl, ht1, ht2, HP, HB⟩ := hrel
    by_cases hlt : q < R.length
    · obtain ⟨r, hr⟩ : ∃ r, R[q]? = some r := ⟨R[q], by simp [hlt]⟩
      obtain ⟨ad, had, ⟨c0, c1, c2, c3, c4, c5, c6, c7, c8, c9⟩, hlb⟩ := rws_at (HO.out.below HB.out).sl hr
      subst had
      have Hr := Lib.hid hr
      have hmem := List.mem_of_getElem? hr
      have HRr := Lib.hid (HR.out r hmem)
      obtain ⟨hrt0, hrt1⟩ := QLf.t HRr.out.2.2.2 HRr.out.2.1.1.ok
      clear hr hmem
      go_wp2_with fail
      obtain ⟨t1, ht1e⟩ : ∃ t1, t1 = max t (r.v.l.t + 1) := ⟨_, rfl⟩
      have Ht1 := Lib.hid (show 1 ≤ t1 ∧ t1 ≤ 1099511627777 ∧ t ≤ t1 ∧ r.v.l.t < t1 from by rw [ht1e]; omega)
      rw [← ht1e]
      clear ht1e
      have HBr := Lib.hid (show Below w1.heap.size w1 (wr.alloc (.cells (rwcell r).toArray 50)) from HB.out.alloc HB.out.size _)
      have hil := HRr.out.2.1.1.its.2.1
      have hic := HRr.out.2.1.1.its.2.2.1
      unfold maxLen at hic
      go_loopw [3, 25] (fun n i wx => ∃ (j : Nat) (s : Int), j ≤ r.v.l.items.length ∧ i = .int .i64 j ∧ n = .int .u64 s ∧ 1 ≤ s ∧ s ≤ 1099511627777 ∧ t1 ≤ s ∧ Hid (∀ x ∈ r.v.l.items.take j, x.t < s) ∧ Hid (Below w1.heap.size w1 wx)) (fun _ i _ => r.v.l.items.length - (intOf i).toNat)
      case atStart => exact ⟨0, t1, Nat.zero_le _, rfl, rfl, Ht1.out.1, Ht1.out.2.1, Int.le_refl _, Lib.hid (fun x hx => by simp at hx), HBr⟩
      case round =>
        clear HBr c0 c1 c2 c3 c4 c5 c6 c7 c8 c9
        obtain ⟨j, s, hj, rfl, rfl, hs1, hs2, hts, HI, HBx⟩ := hrel
        by_cases hlt2 : j < r.v.l.items.length
        · obtain ⟨x, hx⟩ : ∃ x, r.v.l.items[j]? = some x := ⟨r.v.l.items[j], by simp [hlt2]⟩
          have HW := Lib.hid (below2 HB1.out HBx.out HB1.out.size)
          obtain ⟨ai, hai, ⟨i0, i1, i2, i3, i4⟩, hli⟩ := (HRr.out.2.1.1.its.below HW.out).at hx
          have Hx := Lib.hid hx
          obtain ⟨hx0, hx1⟩ := QLf.it HRr.out.2.2.2 (List.mem_of_getElem? hx)
          clear hx
          go_wp2_with fail
          obtain ⟨s1, hs1e⟩ : ∃ s1, s1 = max s (x.t + 1) := ⟨_, rfl⟩
          have Hs1 := Lib.hid (show 1 ≤ s1 ∧ s1 ≤ 1099511627777 ∧ s ≤ s1 ∧ x.t < s1 from by rw [hs1e]; omega)
          rw [← hs1e]
          clear hs1e
          go_roundw
          case rel => exact ⟨j + 1, s1, by omega, by go_num, rfl, Hs1.out.1, Hs1.out.2.1, by have := Hs1.out.2.2.1; omega, Lib.hid (fun y hy => by
            rw [take_snoc' Hx.out, List.mem_append, List.mem_singleton] at hy
            rcases hy with hy | rfl
            · have := HI.out y hy; have := Hs1.out.2.2.1; omega
            · exact Hs1.out.2.2.2), Lib.hid (HBx.out.alloc HBx.out.size _)⟩
          case measure => simp [intOf]; omega
        · have HP2 := Lib.hid (show ∀ u ∈ R.take (q + 1), Past s u.v from fun u hu => by
            rw [take_snoc' Hr.out, List.mem_append, List.mem_singleton] at hu
            rcases hu with hu | rfl
            · exact (HP.out u hu).mono (by have := Ht1.out.2.2.1; omega)
            · exact ⟨by have := Ht1.out.2.2.2; omega, fun x hx => HI.out x (by rw [List.take_of_length_le (by omega)]; exact hx)⟩)
          go_wp2_with fail
          go_roundw
          case rel => exact ⟨q + 1, s, by omega, by go_num, rfl, hs1, hs2, HP2, HBx⟩
          case measure => simp [intOf]; omega
    · have HF := Lib.hid (show ∀ p k v, lookP T p k = some v → Past t v from fun p k v hv => by
        obtain ⟨r, h1, rfl⟩ := HA.out p k v hv
        exact HP.out r (by rw [List.take_of_length_le (by omega)]; exact h1))
      have HB2 := Lib.hid (below2 HB1.out HB.out HB1.out.size)
      go_wp2_with fail
      go_ret
      exact ⟨t, rfl, ht1, ht2, HF.out, HB2.out⟩
end Go.Proofs.YtmabjghjkgicgaaGreat

/- SeeA -/
namespace Go.Proofs.YtmabjghjkgicgaaGreat
open Go.RowKit
set_option linter.unusedVariables false
set_option linter.unusedSimpArgs false

section
variable {w : World} {ops : Array Oper} {rest : List Oper} {o : Oper} {a : Act} {Q : Exit → Act → World → Prop}
theorem wpList_appD2 (hgd : o.guard = none) (s x : Operand) (ho : o.op = .call { callee := .builtin .append, args := #[s, x], argTypes := #[46, 46] })
    (base : Nat) (va : Option Addr) (vc : Nat) (v : List Dt) (hs : a.eval s = .slice va v.length vc) (hown : OwnD w base va vc v)
    (sa : Option Addr) (c : Nat) (u : List Dt) (hx : a.eval x = .slice sa u.length c) (hsl : Vec w sa c u) (hn : v.length + u.length ≤ 60000000) (hbase : base ≤ w.heap.size)
    (h : ∀ v' a' c' w', v' = v ++ u → OwnD w' base a' c' v' → Below base w w' → Chg (ob va) w w' → wpList Tryz.prog ops Q rest (a.put o.dst (.slice a' v'.length c')) w') : wpList Tryz.prog ops Q (o :: rest) a w := by
  obtain ⟨i0, hi0, hz0, hz1, hz2⟩ := info_parts Tryz.info_dot
  refine wpList_append_sl hgd s x 46 ho base 44 i0 (.agg #[.int .u8 0, .int .u32 0, .int .u64 0]) 3 16 Tryz.underlying46 hi0 hz0 hz1 hz2 rfl (by decide) va v.length vc (dcells v) hs hown sa u.length c (dcells u) hx hsl (dcells_one u) (by unfold maxLen; omega) (by omega) hbase fun a' c' w' h1 h2 h3 => ?_
  have := h (v ++ u) a' c' w' rfl (by unfold OwnD; rw [dcells_append, List.length_append]; exact h1) (h2.below hbase fun k hk => (owns_lt hown k hk).1) h2
  rwa [List.length_append] at this
end
def dts (v : Lv) : List Dt := v.l.tombs ++ dotsOf v.l.items
theorem dots_snoc7 {l : List It} {j : Nat} {x : It} (h : l[j]? = some x) : dotsOf (l.take (j + 1)) = dotsOf (l.take j) ++ [x.d] := by
  rw [take_snoc' h]; unfold dotsOf; rw [List.map_append]; rfl
/-- rows, the dots so far -/
structure SeE (w W : World) (ra : Option Addr) (rc : Nat) (R : List Rw) (da : Option Addr) (dc : Nat) (D : List Dt) : Prop where
  rows : OwnR W w.heap.size ra rc R
  dots : OwnD W w.heap.size da dc D
  bel : Below w.heap.size w W
theorem SeE.step {w W W' : World} {ra da : Option Addr} {rc dc : Nat} {R : List Rw} {D : List Dt} (h : SeE w W ra rc R da dc D) (hb : Below W.heap.size W W') : SeE w W' ra rc R da dc D :=
  ⟨h.rows.below hb, owns_chg (F := []) h.dots (Chg.of_below hb) (by simp), below2 h.bel hb h.bel.size⟩
theorem SeE.app {w W W' : World} {ra da da' : Option Addr} {rc dc dc' : Nat} {R : List Rw} {D D' : List Dt} (h : SeE w W ra rc R da dc D) (hd : OwnD W' w.heap.size da' dc' D') (hb : Below w.heap.size W W') (hc : Chg (ob da) W W') : SeE w W' ra rc R da' dc' D' :=
  ⟨owns_chg h.rows hc (fun k hk => owns_ne h.rows h.dots (by decide) k hk), hd, h.bel.trans hb⟩
def SeenTo (w : World) (T : List Nd) (l : List Ow) (e : Ending) (w' : World) : Prop :=
  ∃ z : Bool, e = .returned (.bool z) ∧ (z = false → (∀ p k v, lookP T p k = some v → oldDots (dts v)) ∧ ∀ o ∈ l, oldDots o.o.ds) ∧ Below w.heap.size w w'
set_option maxRecDepth 100000 in
set_option maxHeartbeats 2000000 in
theorem seen_any (m : Nat) (a : Option Addr) (c : Nat) (T : List Nd) (la : Option Addr) (lc : Nat) (l : List Ow) (w : World) (hT : TrRd w m a c T) (hM : MayT 3 T) (hcnt : cntT 3 T ≤ 1500) (hQ : AllQ QLf 3 T) (hl : Ops w la lc l) (hn : l.length ≤ 30) (hds : ∀ o ∈ l, o.o.ds.length ≤ 1100000) :
    Calls Tryz.prog 7 #[.slice a T.length c, .slice la l.length lc] w (SeenTo w T l) := by
  have HT := Lib.hid hT
  have HM := Lib.hid hM
  have HQ := Lib.hid hQ
  have Hc := Lib.hid hcnt
  have Hl := Lib.hid hl
  have Hds := Lib.hid hds
  clear hT hM hQ hcnt hl hds
  go_enter Tryz.func7, Tryz.ntmps7
  have hW0 : Below w.heap.size w (w.alloc (.cells #[] 44)) := (Below.refl _ _).alloc (Nat.le_refl _) _
  go_wp2_with fail
  refine (rows_any QLf 3 m a c T none 0 [] w _ HT.out HM.out hW0 (Sl.nil _ _) (by simp) (by have := Hc.out; omega) HQ.out).mono ?_
  intro e w1 hto
  obtain ⟨ra, rc, R, rfl, hO, hR, hA, hRl, hb⟩ := hto
  have HR := Lib.hid hR
  have HA := Lib.hid hA
  have hlen := hO.sl.2.1
  have hcap := hO.sl.2.2.1
  unfold maxLen at hcap
  have hRl2 : R.length ≤ 1500 := by have := Hc.out; omega
  have HE0 : Hid (SeE w w1 ra rc R (some ⟨w.heap.size, 0, none⟩) 0 []) := Lib.hid ⟨owns_base hO (by simp), owns_chg (F := []) (OwnD.made w (Nat.le_refl _)) (Chg.of_below hb) (by simp), below2 hW0 hb (by simp)⟩
  clear hO hR hA hRl hb hW0
  go_wp2_with fail
  go_loopw [5, 18] (fun d i wr => ∃ (q : Nat) (da : Option Addr) (dc : Nat) (D : List Dt), q ≤ R.length ∧ i = .int .i64 q ∧ d = .slice da D.length dc ∧ Hid (D.length ≤ 1501 * q) ∧ Hid (∀ r ∈ R.take q, ∀ x ∈ dts r.v, x ∈ D) ∧ Hid (SeE w wr ra rc R da dc D)) (fun _ i _ => R.length - (intOf i).toNat)
  case atStart => exact ⟨0, _, 0, [], Nat.zero_le _, rfl, rfl, Lib.hid (Nat.zero_le _), Lib.hid (fun r hr => by simp at hr), HE0⟩
  case round =>
    clear HE0
    obtain ⟨q, da, dc, D, hq, rfl, rfl, HD, HP, E⟩ := hrel
    have hDl : D.length ≤ 2300000 := by have := HD.out; omega
    have hsz := E.out.bel.size
    by_cases hlt : q < R.length
    · obtain ⟨r, hr⟩ : ∃ r, R[q]? = some r := ⟨R[q], by simp [hlt]⟩
      obtain ⟨ad, had, ⟨c0, c1, c2, c3, c4, c5, c6, c7, c8, c9⟩, hlb⟩ := rws_at E.out.rows.sl hr
      subst had
      have Hr := Lib.hid hr
      have hmem := List.mem_of_getElem? hr
      have HRr := Lib.hid (HR.out r hmem)
      have hil := HRr.out.2.1.1.its.2.1
      have hic := HRr.out.2.1.1.its.2.2.1
      unfold maxLen at hic
      have hbd := HRr.out.2.2.2.2
      clear hr hmem
      go_wp2_with (at_builtin; go_must (refine wpList_appD2 rfl _ _ rfl w.heap.size da dc D rfl ?o1 (some ⟨wr.heap.size + 1, 0, none⟩) 1 [r.v.l.d] rfl ?s1 ?n1 ?b1 ?_))
      case o1 => exact (E.out.step (((Below.refl _ _).alloc (Nat.le_refl _) _).alloc (by simp) _)).dots
      case s1 => exact vec_one (heap_new2 _ _ _)
      case n1 => simp; omega
      case b1 => simp; omega
      intro v2 a2 k2 w2 hv2 ho2 hb2 hC2
      have hA2 : Below wr.heap.size wr ((wr.alloc (.cells (rwcell r).toArray 50)).alloc (.cells #[.int .u8 r.v.l.d.1.1, .int .u32 r.v.l.d.1.2, .int .u64 r.v.l.d.2] 44)) := ((Below.refl _ _).alloc (Nat.le_refl _) _).alloc (by simp) _
      have e1 := E.out.step hA2
      have hx1 : ((wr.alloc (.cells (rwcell r).toArray 50)).alloc (.cells #[.int .u8 r.v.l.d.1.1, .int .u32 r.v.l.d.1.2, .int .u64 r.v.l.d.2] 44)).heap[wr.heap.size]? = some (.cells (rwcell r).toArray 50 (0, 0)) := (heap_old _ _ (by simp)).trans (heap_new _ _)
      have E2 := Lib.hid (e1.app ho2 hb2 hC2)
      have hx2 := heap_chg hx1 hC2 (own_blk e1.dots hx1 (by decide))
      have HX2 := Lib.hid hx2
      have Hv2 := Lib.hid hv2
      have Hv2l := Lib.hid (show v2.length = D.length + 1 by rw [hv2]; simp)
      have hv2l : v2.length ≤ 2300001 := by have := Hv2l.out; omega
      have d7 := cells_at hx2
      have z7 := heap_lt hx2
      simp only [rwcell, lvcell, lcells] at d7
      clear hv2 ho2 hb2 hC2 hA2 e1 hx1 hx2 c0 c1 c2 c3 c4 c5 c6 c7 c8 c9
      go_wp2_with (at_builtin; go_must (refine wpList_appD2 rfl _ _ rfl w.heap.size a2 k2 v2 rfl ?o2 r.v.ta r.v.tc r.v.l.tombs rfl ?s2 ?n2 ?b2 ?_))
      case o2 => exact E2.out.dots
      case s2 => exact HRr.out.2.1.1.tms.below E2.out.bel
      case n2 => omega
      case b2 => exact E2.out.bel.size
      intro v3 a3 c3 w3 hv3 ho3 hb3 hC3
      have E3 := Lib.hid (E2.out.app ho3 hb3 hC3)
      have hx3 := heap_chg HX2.out hC3 (own_blk E2.out.dots HX2.out (by decide))
      have HX3 := Lib.hid hx3
      have Hv3 := Lib.hid (show v3 = D ++ [r.v.l.d] ++ r.v.l.tombs by rw [hv3, Hv2.out])
      have Hv3l := Lib.hid (show v3.length = D.length + 1 + r.v.l.tombs.length by rw [hv3, List.length_append]; have := Hv2l.out; omega)
      have hv3l : v3.length ≤ 2302000 := by have := Hv3l.out; omega
      clear hv3 ho3 hb3 hC3 hx3 d7 z7
      have d7 := cells_at HX3.out
      have z7 := heap_lt HX3.out
      simp only [rwcell, lvcell, lcells] at d7
      go_wp2_with fail
      go_loopw [5, 37] (fun d i wx => ∃ (j : Nat) (da : Option Addr) (dc : Nat) (V : List Dt), j ≤ r.v.l.items.length ∧ i = .int .i64 j ∧ d = .slice da V.length dc ∧ Hid (V = D ++ [r.v.l.d] ++ r.v.l.tombs ++ dotsOf (r.v.l.items.take j)) ∧ Hid (V.length = D.length + 1 + r.v.l.tombs.length + j) ∧ Hid (SeE w wx (some ad) rc R da dc V)) (fun _ i _ => r.v.l.items.length - (intOf i).toNat)
      case atStart => exact ⟨0, a3, c3, v3, Nat.zero_le _, rfl, rfl, Lib.hid (by rw [Hv3.out]; simp [dotsOf]), Lib.hid (by have := Hv3l.out; omega), E3⟩
      case round =>
        clear E3 d7 z7
        obtain ⟨j, da3, dc3, V, hj, rfl, rfl, HV, HVl, E3⟩ := hrel
        have hVl : V.length ≤ 2310000 := by have := HVl.out; omega
        have hsz3 := E3.out.bel.size
        by_cases hlt2 : j < r.v.l.items.length
        · obtain ⟨x, hx⟩ : ∃ x, r.v.l.items[j]? = some x := ⟨r.v.l.items[j], by simp [hlt2]⟩
          obtain ⟨ai, hai, ⟨i0, i1, i2, i3, i4⟩, hli⟩ := (HRr.out.2.1.1.its.below E3.out.bel).at hx
          have Hx := Lib.hid hx
          have hA4 : Below wr.heap.size wr ((wr.alloc (.cells (icell x).toArray 63)).alloc (.cells #[.int .u8 x.d.1.1, .int .u32 x.d.1.2, .int .u64 x.d.2] 44)) := ((Below.refl _ _).alloc (Nat.le_refl _) _).alloc (by simp) _
          clear hx
          go_wp2_with (at_builtin; go_must (refine wpList_appD2 rfl _ _ rfl w.heap.size da3 dc3 V rfl ?o4 (some ⟨wr.heap.size + 1, 0, none⟩) 1 [x.d] rfl ?s4 ?n4 ?b4 ?_))
          case o4 => exact (E3.out.step hA4).dots
          case s4 => exact vec_one (heap_new2 _ _ _)
          case n4 => simp; omega
          case b4 => simp; omega
          intro v4 a4 c4 w4 hv4 ho4 hb4 hC4
          have E4 := Lib.hid ((E3.out.step hA4).app ho4 hb4 hC4)
          have HV4 := Lib.hid (show v4 = D ++ [r.v.l.d] ++ r.v.l.tombs ++ dotsOf (r.v.l.items.take (j + 1)) by rw [hv4, HV.out, dots_snoc7 Hx.out]; simp)
          have HL4 := Lib.hid (show v4.length = D.length + 1 + r.v.l.tombs.length + (j + 1) by rw [hv4]; have := HVl.out; simp; omega)
          clear hv4 ho4 hb4 hC4 hA4
          go_wp2_with fail
          try rw [← hai]
          go_roundw
          case rel => exact ⟨j + 1, a4, c4, v4, by omega, by go_num, rfl, HV4, HL4, E4⟩
          case measure => simp [intOf]; omega
        · have HP2 := Lib.hid (show ∀ u ∈ R.take (q + 1), ∀ y ∈ dts u.v, y ∈ V from fun u hu y hy => by
            rw [HV.out, List.take_of_length_le (by omega)]
            rw [take_snoc' Hr.out, List.mem_append, List.mem_singleton] at hu
            rcases hu with hu | rfl
            · have := HP.out u hu y hy
              simp [this]
            · unfold dts at hy
              rcases List.mem_append.1 hy with hy | hy
              · simp [hy]
              · simp [hy])
          have HD2 := Lib.hid (show V.length ≤ 1501 * (q + 1) from by have := HD.out; have := HVl.out; omega)
          go_wp2_with fail
          go_roundw
          case rel => exact ⟨q + 1, da3, dc3, V, by omega, by go_num, rfl, HD2, HP2, E3⟩
          case measure => simp [intOf]; omega
    · have HA2 := Lib.hid (show ∀ p k v, lookP T p k = some v → ∀ x ∈ dts v, x ∈ D from fun p k v hv => by
        obtain ⟨r, h1, rfl⟩ := HA.out p k v hv
        exact HP.out r (by rw [List.take_of_length_le (by omega)]; exact h1))
      have hll := (Hl.out).2.1
      have hlc := (Hl.out).2.2.1
      unfold maxLen at hlc
      have E0 := E
      go_wp2_with fail
      go_loopw [5, 50] (fun d i wx => ∃ (j : Nat) (da : Option Addr) (dc : Nat) (V : List Dt), j ≤ l.length ∧ i = .int .i64 j ∧ d = .slice da V.length dc ∧ Hid (∀ y ∈ D, y ∈ V) ∧ Hid (∀ o ∈ l.take j, ∀ y ∈ o.o.ds, y ∈ V) ∧ Hid (V.length ≤ 2300000 + 1100000 * j) ∧ Hid (SeE w wx ra rc R da dc V)) (fun _ i _ => l.length - (intOf i).toNat)
      case atStart => exact ⟨0, da, dc, D, Nat.zero_le _, rfl, rfl, Lib.hid (fun y hy => hy), Lib.hid (fun o ho => by simp at ho), Lib.hid (by omega), E0⟩
      case round =>
        clear E0
        obtain ⟨j, da3, dc3, V, hj, rfl, rfl, HDV, HO, HVl, E3⟩ := hrel
        have hVl := HVl.out
        have hsz3 := E3.out.bel.size
        by_cases hlt2 : j < l.length
        · obtain ⟨o, ho⟩ : ∃ o, l[j]? = some o := ⟨l[j], by simp [hlt2]⟩
          obtain ⟨ao, hao, ⟨o0, o1, o2, o3, o4, hat⟩, hlo⟩ := (Hl.out.below E3.out.bel).at ho
          subst hao
          have hod := Hds.out o (List.mem_of_getElem? ho)
          have Ho := Lib.hid ho
          have Hat := Lib.hid hat
          have hA4 : Below wr.heap.size wr (wr.alloc (.cells (owcells o) 59)) := (Below.refl _ _).alloc (Nat.le_refl _) _
          clear ho hat
          go_wp2_with (at_builtin; go_must (refine wpList_appD2 rfl _ _ rfl w.heap.size da3 dc3 V rfl ?o4 o.da o.dc o.o.ds rfl ?s4 ?n4 ?b4 ?_))
          case o4 => exact (E3.out.step hA4).dots
          case s4 => exact (Hat.out.below hA4).ds
          case n4 => omega
          case b4 => simp; omega
          intro v4 a4 c4 w4 hv4 ho4 hb4 hC4
          have E4 := Lib.hid ((E3.out.step hA4).app ho4 hb4 hC4)
          have HD4 := Lib.hid (show ∀ y ∈ D, y ∈ v4 from fun y hy => by rw [hv4]; exact List.mem_append.2 (.inl (HDV.out y hy)))
          have HO4 := Lib.hid (show ∀ u ∈ l.take (j + 1), ∀ y ∈ u.o.ds, y ∈ v4 from fun u hu y hy => by
            rw [hv4]
            rw [take_snoc' Ho.out, List.mem_append, List.mem_singleton] at hu
            rcases hu with hu | rfl
            · exact List.mem_append.2 (.inl (HO.out u hu y hy))
            · exact List.mem_append.2 (.inr hy))
          have HL4 := Lib.hid (show v4.length ≤ 2300000 + 1100000 * (j + 1) by rw [hv4, List.length_append]; omega)
          clear hv4 ho4 hb4 hC4 hA4
          go_wp2_with fail
          go_roundw
          case rel => exact ⟨j + 1, a4, c4, v4, by omega, by go_num, rfl, HD4, HO4, HL4, E4⟩
          case measure => simp [intOf]; omega
        · have HA3 := Lib.hid (show ∀ p k v, lookP T p k = some v → ∀ x ∈ dts v, x ∈ V from fun p k v hv x hx => HDV.out x (HA2.out p k v hv x hx))
          have HO3 := Lib.hid (show ∀ o ∈ l, ∀ x ∈ o.o.ds, x ∈ V from fun o ho => HO.out o (by rw [List.take_of_length_le (by omega)]; exact ho))
          have hvc := E3.out.dots.vec.2.1
          have hvm := E3.out.dots.vec.2.2.1
          unfold maxLen at hvm
          have hV6 : V.length ≤ 60000000 := by omega
          obtain ⟨we, hwe⟩ : ∃ we, we = wr := ⟨_, rfl⟩
          subst hwe
          go_wp2_with fail
          go_loopw [61] (fun i wx => ∃ k : Nat, k ≤ V.length ∧ i = .int .i64 k ∧ Hid (oldDots (V.take k)) ∧ Hid (Below we.heap.size we wx)) (fun i _ => V.length - (intOf i).toNat)
          case atStart => exact ⟨0, Nat.zero_le _, rfl, Lib.hid (fun d hd => by simp at hd), Lib.hid (Below.refl _ _)⟩
          case round =>
            obtain ⟨k, hk, rfl, HK, HBk⟩ := hrel
            by_cases hlt3 : k < V.length
            · obtain ⟨d, hd⟩ : ∃ d, V[k]? = some d := ⟨V[k], by simp [hlt3]⟩
              obtain ⟨av, hav, v0, v1, v2, hlv⟩ := (E3.out.dots.vec.below HBk.out).at hd
              subst hav
              have Hd := Lib.hid hd
              clear hd
              go_wp2_with fail
              refine region_tree_at (fun k => k = wr.heap.size) (sgOf [([0, 1], false), ([2], true), ([3], false)]) mixed (by kernel_rfl) ?_
              simp only [sgOf, wpSgB, List.map_cons, List.map_nil, List.getD_cons_succ, List.getD_cons_zero]
              go_wp2_with fail
              refine (fresh_any _).mono ?_
              rintro e w5 ⟨rfl, hb5⟩
              have hW : Below wr.heap.size wr (wr.alloc (.cells #[.int .u8 d.1.1, .int .u32 d.1.2, .int .u64 d.2] 44)).drew := ((Below.refl _ _).alloc (Nat.le_refl _) _).drew
              have hHeld : Held (fun k => k = wr.heap.size) _ _ := Held.of_chg (w := (wr.alloc (.cells #[.int .u8 d.1.1, .int .u32 d.1.2, .int .u64 d.2] 44)).drew) (heap_new _ _) (Chg.of_below (F := []) hb5) (by simp)
              have HB5 := Lib.hid (below2 (below2 HBk.out hW HBk.out.size) hb5 (by have := HBk.out.size; simp; omega))
              clear hb5 hW v0 v1 v2
              by_cases q1 : d.1.1 = 15
              · by_cases q2 : d.1.2 = 4
                · skip
                  go_wp2_with fail
                  refine And.intro hHeld ?_
                  clear hHeld
                  go_wp2_with fail
                  refine And.intro (And.intro (by kernel_rfl) (reads_of ?rds)) ?_
                  case rds => exact ⟨trivial, rfl, trivial, trivial, trivial⟩
                  go_wp2_with fail
                  go_ret
                  exact ⟨true, rfl, nofun, below2 E3.out.bel HB5.out hsz3⟩
                · have Hf := Lib.hid (show d.1 ≠ freshA from fun h => q2 (by rw [h]; rfl))
                  have HK2 := Lib.hid (show oldDots (V.take (k + 1)) from fun y hy => by
                    rw [take_snoc' Hd.out, List.mem_append, List.mem_singleton] at hy
                    rcases hy with hy | rfl
                    · exact HK.out y hy
                    · exact Hf.out)
                  go_wp2_with fail
                  refine And.intro hHeld ?_
                  clear hHeld
                  go_wp2_with fail
                  refine And.intro (And.intro (by kernel_rfl) (reads_of ?rds)) ?_
                  case rds => exact ⟨trivial, rfl, trivial, trivial, trivial⟩
                  go_wp2_with fail
                  go_roundw
                  case rel => exact ⟨k + 1, by omega, by go_num, HK2, HB5⟩
                  case measure => simp [intOf]; omega
              · have Hf := Lib.hid (show d.1 ≠ freshA from fun h => q1 (by rw [h]; rfl))
                have HK2 := Lib.hid (show oldDots (V.take (k + 1)) from fun y hy => by
                  rw [take_snoc' Hd.out, List.mem_append, List.mem_singleton] at hy
                  rcases hy with hy | rfl
                  · exact HK.out y hy
                  · exact Hf.out)
                go_wp2_with fail
                refine And.intro hHeld ?_
                clear hHeld
                go_wp2_with fail
                refine And.intro (And.intro (by kernel_rfl) (reads_of ?rds)) ?_
                case rds => exact ⟨trivial, rfl, trivial, trivial, trivial⟩
                go_wp2_with fail
                go_roundw
                case rel => exact ⟨k + 1, by omega, by go_num, HK2, HB5⟩
                case measure => simp [intOf]; omega
            · have HF := Lib.hid (show oldDots V from by have := HK.out; rwa [List.take_of_length_le (by omega)] at this)
              go_wp2_with fail
              go_ret
              exact ⟨false, rfl, fun _ => ⟨fun p k v hv d hd => HF.out d (HA3.out p k v hv d hd), fun o ho d hd => HF.out d (HO3.out o ho d hd)⟩, below2 E3.out.bel HBk.out hsz3⟩
end Go.Proofs.YtmabjghjkgicgaaGreat

/- JoiA -/
namespace Go.Proofs.YtmabjghjkgicgaaGreat
set_option linter.unusedVariables false
set_option linter.unusedSimpArgs false

theorem szT_mono : ∀ (n : Nat) (T : List Nd), szT n T ≤ szT (n + 1) T
  | 0, T => by simp [szT]
  | n + 1, T => by
    show (T.map _).sum ≤ (T.map _).sum
    refine sum_map_le _ _ fun x hx => ?_
    have := szT_mono n x.kids
    omega
theorem szT_ten (T : List Nd) : szT 3 T ≤ szT 10 T :=
  Nat.le_trans (szT_mono 3 T) (Nat.le_trans (szT_mono 4 T) (Nat.le_trans (szT_mono 5 T) (Nat.le_trans (szT_mono 6 T) (Nat.le_trans (szT_mono 7 T) (Nat.le_trans (szT_mono 8 T) (szT_mono 9 T))))))
theorem szL_pos (l : Lf) : 1 ≤ szL l := by unfold szL; omega
theorem len_szL (ls : List Lv) : ls.length ≤ (ls.map fun v => szL v.l).sum := by
  have := sum_map_le (fun _ : Lv => 1) (fun v : Lv => szL v.l) (l := ls) (fun v _ => szL_pos v.l)
  rwa [sum_ones] at this
theorem cnt_sz : ∀ (n : Nat) (T : List Nd), cntT n T ≤ szT n T
  | 0, T => by simp [cntT, szT]
  | n + 1, T => by
    unfold cntT szT
    refine sum_map_le _ _ fun x hx => ?_
    have := cnt_sz n x.kids
    have := len_szL x.ls
    omega
theorem szL_parts (l : Lf) : l.items.length + l.tombs.length ≤ szL l := by
  have := sum_map_le (fun _ : It => 1) szI (l := l.items) (fun x _ => by unfold szI; omega)
  rw [sum_ones] at this
  unfold szL
  omega
theorem allQ_of {b : Nat} : ∀ {n : Nat} {T : List Nd}, MayT n T → szT n T ≤ 1500 → AllQ QLf n T
  | 0, _, _, _ => trivial
  | n + 1, T, hM, hs => fun x hx => by
    have h1 := le_sum (fun x : Nd => 1 + x.name.size + szT n x.kids + (x.ls.map fun v => szL v.l).sum) hx
    have h2 : (T.map fun x : Nd => 1 + x.name.size + szT n x.kids + (x.ls.map fun v => szL v.l).sum).sum ≤ 1500 := hs
    have hm := hM.2 x hx
    refine ⟨fun v hv => ⟨hm.2.2.2.1 v hv, ?_⟩, allQ_of (b := b) hm.2.2.1 (by omega)⟩
    have h3 := le_sum (fun v : Lv => szL v.l) hv
    have h4 := szL_parts v.l
    omega
theorem allQ_look {Q : Lv → Prop} : ∀ {n : Nat} {T : List Nd} {p : List ByteArray} {k : Int} {v : Lv}, MayT n T → AllQ Q n T → lookP T p k = some v → Q v
  | 0, T, p, k, v, hM, _, h => by rw [show T = [] from hM, lookP_nil] at h; cases h
  | n + 1, T, [], k, v, hM, hQ, h => by cases h
  | n + 1, T, s :: p, k, v, hM, hQ, h => by
    rw [lookP_cons] at h
    cases e : findN T s with
    | none => rw [e] at h; cases h
    | some x =>
      rw [e, Option.bind_some] at h
      have hx := (findN_mem e).1
      cases p with
      | nil => exact (hQ x hx).1 v (findL_mem h).1
      | cons u p => exact allQ_look (hM.2 x hx).2.2.1 (hQ x hx).2 h
/-- the leaves ahead, as the plain law asks -/
theorem oldF_of {w : World} {m : Nat} {a : Option Addr} {c : Nat} {T : List Nd} {t0 : Int} (hT : TrRd w m a c T) (hM : MayT 3 T) (h1 : 1 ≤ t0) (hp : ∀ p k v, lookP T p k = some v → Past t0 v) (ho : ∀ p k v, lookP T p k = some v → oldDots (dts v)) : OldF t0 (FT T) := by
  refine ⟨fun p k g hg => ?_, h1⟩
  unfold FT at hg
  cases e : lookP T p k with
  | none => rw [e] at hg; cases hg
  | some v =>
    rw [e] at hg
    injection hg with hg
    subst hg
    obtain ⟨g1, g2⟩ := look_may hM e
    have g3 := look_rd hT e
    have g4 := hp p k v e
    have g5 := ho p k v e
    exact ⟨g1, g2, g3.2, g4.1, g4.2, fun d hd => g5 d (List.mem_append.2 (.inr hd)), fun d hd => g5 d (List.mem_append.2 (.inl hd))⟩
/-! names below a path -/
/-- each node has a leaf at it or below it -/
theorem has_leaf : ∀ {n : Nat} {T : List Nd} {x : Nd}, MayT n T → x ∈ T → ∃ p k, (lookP T (x.name :: p) k).isSome = true
  | 0, T, x, hM, hx => by rw [show T = [] from hM] at hx; cases hx
  | n + 1, T, x, hM, hx => by
    have hf := findN_of hM.1 hx
    have hm := hM.2 x hx
    cases e : x.ls with
    | cons v ls =>
      refine ⟨[], v.l.k, ?_⟩
      rw [lookP_cons, hf, Option.bind_some]
      show (findL x.ls v.l.k).isSome = true
      rw [findL_of hm.2.2.2.2 (by rw [e]; exact .head _)]; rfl
    | nil =>
      have hk : x.kids ≠ [] := hm.2.1.resolve_left (fun h => h e)
      obtain ⟨y, hy⟩ := List.exists_mem_of_ne_nil _ hk
      obtain ⟨p, k, h⟩ := has_leaf hm.2.2.1 hy
      refine ⟨y.name :: p, k, ?_⟩
      rw [lookP_cons, hf, Option.bind_some]
      exact h
theorem below_may : ∀ {n : Nat} {T : List Nd} (p : List ByteArray), MayT n T → ∃ m, MayT m (belowP T p)
  | n, T, [], hM => ⟨n, hM⟩
  | n, T, s :: p, hM => by
    rw [belowP_cons]
    cases e : findN T s with
    | none => exact ⟨0, by show belowP [] p = []; exact belowP_nil p⟩
    | some x =>
      cases n with
      | zero => rw [show T = [] from hM] at e; cases e
      | succ n => exact below_may p (hM.2 x (findN_mem e).1).2.2.1
/-- a leaf below a path -/
theorem look_below : ∀ {T : List Nd} (p : List ByteArray) (s : ByteArray) (q : List ByteArray) (k : Int), lookP T (p ++ s :: q) k = lookP (belowP T p) (s :: q) k
  | T, [], s, q, k => rfl
  | T, u :: p, s, q, k => by
    rw [belowP_cons, List.cons_append, lookP_cons]
    cases e : findN T u with
    | none => dsimp only [Option.bind_none]; rw [belowP_nil, lookP_nil]
    | some x =>
      rw [Option.bind_some]
      have := look_below (T := x.kids) p s q k
      cases p with
      | nil => exact this
      | cons a p => exact this
theorem mem_names {n : Nat} {T : List Nd} (hM : MayT n T) (s : ByteArray) : s ∈ T.map Nd.name ↔ ∃ p k, (lookP T (s :: p) k).isSome = true := by
  constructor
  · intro h
    obtain ⟨x, hx, rfl⟩ := List.mem_map.1 h
    exact has_leaf hM hx
  · rintro ⟨p, k, h⟩
    rw [lookP_cons] at h
    cases e : findN T s with
    | none => rw [e] at h; cases h
    | some x => exact List.mem_map.2 ⟨x, findN_mem e⟩
theorem names_rise {n : Nat} {T : List Nd} (hM : MayT n T) : risesS (T.map Nd.name) := by
  unfold risesS
  rw [List.pairwise_map]
  cases n with
  | zero => rw [show T = [] from hM]; exact List.Pairwise.nil
  | succ n => exact hM.1
/-- names below a path hang on which leaves there are -/
theorem names_eq {n m : Nat} {T U : List Nd} (hT : MayT n T) (hU : MayT m U) (h : ∀ p k, (lookP T p k).isSome = (lookP U p k).isSome) (p : List ByteArray) : (belowP T p).map Nd.name = (belowP U p).map Nd.name := by
  obtain ⟨a, ha⟩ := below_may p hT
  obtain ⟨b, hb⟩ := below_may p hU
  refine rises_uniq (names_rise ha) (names_rise hb) fun s => ?_
  rw [mem_names ha, mem_names hb]
  simp only [← look_below, h]
/-- ALL ANSWERS ARE THE SAME -/
theorem ask_same {t0 : Int} {T U V : List Nd} {L M : List Opn} (hF : OldF t0 (FT T)) (hs : SumEq L M) (hL : ∀ o ∈ L, oldDots o.ds) (hM : ∀ o ∈ M, oldDots o.ds) (hU : DoneI t0 T L L.length U) (hV : DoneI t0 T M M.length V) (k : Int) (p : List ByteArray) : askT U k p = askT V k p := by
  have eU : ∀ p k, FT U p k = runF t0 (FT T) L p k := fun p k => by have := hU.look p k; rwa [List.take_length] at this
  have eV : ∀ p k, FT V p k = runF t0 (FT T) M p k := fun p k => by have := hV.look p k; rwa [List.take_length] at this
  have hI : ∀ p k, (lookP U p k).isSome = (lookP V p k).isSome := fun p k => by
    have h1 : (FT U p k).isSome = (lookP U p k).isSome := by unfold FT; simp
    have h2 : (FT V p k).isSome = (lookP V p k).isSome := by unfold FT; simp
    rw [← h1, ← h2, eU, eV, Bool.eq_iff_iff, run_has, run_has, hs.has]
  unfold askT
  by_cases hq : MayQ k p
  · rw [if_pos hq, if_pos hq]
    by_cases h5 : k = 5
    · rw [if_pos h5, if_pos h5]
      have hn := names_eq hU.may hV.may hI p
      have hl : (belowP U p).length = (belowP V p).length := by have := congrArg List.length hn; simpa using this
      rw [hn, hl]
    · rw [if_neg h5, if_neg h5]
      have h1 := hq.1
      have h2 := hq.2.1
      have e := few_ans hF hs hL hM p (k := k) (by omega)
      rw [← eU, ← eV] at e
      unfold FT at e
      rw [e]
  · rw [if_neg hq, if_neg hq]
end Go.Proofs.YtmabjghjkgicgaaGreat
