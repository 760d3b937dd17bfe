/- fuse.set, fuse.log: contracts. -/
import Derived.Test.YtmabjghjkgicgaaFuseH
namespace Go.Proofs.Ytmabjghjkgicgaa
open Go.RowKit
set_option linter.unusedVariables false
set_option linter.unusedSimpArgs false

theorem nodup_len {α : Type} [DecidableEq α] : ∀ {l m : List α}, l.Nodup → (∀ x ∈ l, x ∈ m) → l.length ≤ m.length
  | [], m, _, _ => by simp
  | a :: l, m, hn, hs => by
    have h1 := List.nodup_cons.1 hn
    have h2 := nodup_len (l := l) (m := m.erase a) h1.2 (fun x hx => (List.mem_erase_of_ne (fun e => h1.1 (by rw [← e]; exact hx))).2 (hs x (.tail _ hx)))
    have h3 := List.length_erase_of_mem (hs a (.head _))
    have h4 := List.length_pos_of_mem (hs a (.head _))
    simp only [List.length_cons]
    omega
/-- a leaf that a call told: it can be read; what it has lies in memory of the call's own -/
structure MemL (w w' : World) (m : Lf) (ia : Option Addr) (ic : Nat) (ta : Option Addr) (tc : Nat) : Prop where
  rd : LfAt w' m ia ic ta tc
  oi : m.items ≠ [] → OwnI w' w.heap.size ia ic m.items
  ot : m.tombs ≠ [] → OwnD w' w.heap.size ta tc m.tombs
  bel : Below w.heap.size w w'
def SetTo (w : World) (a b : Lf) (e : Ending) (w' : World) : Prop :=
  ∃ ia ic ta tc m ts is, e = .returned (lval m ia ic ta tc) ∧ TombsOf a.tombs b.tombs ts ∧ ItemsOf a.items b.items ts is ∧ m = { bare 3 with items := is, tombs := ts } ∧ MemL w w' m ia ic ta tc
def LogTo (w : World) (a b : Lf) (e : Ending) (w' : World) : Prop :=
  ∃ ia ic m is, e = .returned (lval m ia ic none 0) ∧ ItemsOf a.items b.items [] is ∧ m = { bare 4 with items := is } ∧ MemL w w' m ia ic none 0
theorem tombs_sorted {a b l v : List Dt} (hp : l.Perm (a ++ b)) (hu : v.Pairwise ltD) (hm : ∀ d, d ∈ v ↔ d ∈ l) : TombsOf a b v := ⟨hu, fun d => by rw [hm d, hp.mem_iff, List.mem_append]⟩
theorem ltD_nodup {v : List Dt} (h : v.Pairwise ltD) : v.Nodup := List.Pairwise.imp (S := fun x y => x ≠ y) (fun {x y} (hxy : ltD x y) (e : x = y) => ltD_irrefl x (by rw [← e] at hxy; exact hxy)) h
theorem owns9 {w : World} {s : Nat} {base : Nat} {e : TypeId} {size : Nat} {a : Option Addr} {n c m : Nat} {xs : List Value} (h : w.ownsRow base e size (.slice a n c) m xs) (hs : s < base) (x0 x1 x2 x3 x4 x5 x6 x7 x8 : Value) :
    (((((((((w.setCell ⟨s, 0, none⟩ x0).setCell ⟨s, 1, none⟩ x1).setCell ⟨s, 2, none⟩ x2).setCell ⟨s, 3, none⟩ x3).setCell ⟨s, 4, none⟩ x4).setCell ⟨s, 5, none⟩ x5).setCell ⟨s, 6, none⟩ x6).setCell ⟨s, 7, none⟩ x7).setCell ⟨s, 8, none⟩ x8).ownsRow base e size (.slice a n c) m xs := by
  have st : ∀ {W : World} (j : Nat) (x : Value), W.ownsRow base e size (.slice a n c) m xs → (W.setCell ⟨s, j, none⟩ x).ownsRow base e size (.slice a n c) m xs := fun {W} j x h =>
    owns_chg h (Chg.setCell W ⟨s, j, none⟩ x) (fun k hk => by have := (owns_lt h k hk).1; simp; omega)
  exact st _ _ (st _ _ (st _ _ (st _ _ (st _ _ (st _ _ (st _ _ (st _ _ (st _ _ h))))))))
set_option maxRecDepth 100000 in
set_option maxHeartbeats 4000000 in
theorem log_any (l a b : Lf) (la lt ia ta ja ua : Option Addr) (lc ld ic tc jc uc : Nat) (w : World) (ha : LfAt w a ia ic ta tc) (hb : LfAt w b ja jc ua uc) (hna : (dotsOf a.items).Nodup) (hnb : (dotsOf b.items).Nodup) (hoa : okL a) (hob : okL b) (hla : a.items.length ≤ 400000) (hlb : b.items.length ≤ 400000) :
    Calls Try.prog 28 #[lval l la lc lt ld, lval a ia ic ta tc, lval b ja jc ua uc] w (LogTo w a b) := by
  have hoa' := hoa.dots
  have hob' := hob.dots
  obtain ⟨k, n, t, ⟨⟨r, i⟩, s⟩, x, is, ts⟩ := a
  obtain ⟨k', n', t', ⟨⟨r', i'⟩, s'⟩, x', is', ts'⟩ := b
  obtain ⟨k'', n'', t'', ⟨⟨r'', i''⟩, s''⟩, x'', is'', ts''⟩ := l
  dsimp only at hna hnb hla hlb hoa' hob'
  have Ha := Lib.hid ha
  have Hb := Lib.hid hb
  clear ha hb hoa hob
  simp only [lval]
  go_enter Try.func28, Try.ntmps28
  go_wp2_with fail
  refine (both_any ia ja none ic jc 0 is is' [] _ (Ha.out.its.below ?h1) (Hb.out.its.below ?h2) (Sl.nil _ 3) hna hnb hoa' hob' (by omega) (by omega) (by simp)).mono ?_
  case h1 => exact ((((Below.refl _ _).alloc (Nat.le_refl _) _).alloc (by simp) _).alloc (by simp <;> omega) _).alloc (by simp <;> omega) _
  case h2 => exact ((((Below.refl _ _).alloc (Nat.le_refl _) _).alloc (by simp) _).alloc (by simp <;> omega) _).alloc (by simp <;> omega) _
  rintro e w1 ⟨va, vc, v, rfl, hit, hov, hbv, hlv⟩
  obtain ⟨f0, f1, f2, f3, hz, hB⟩ := four_at w _ _ _ _ hbv
  have d3 := cells_at f3
  have g3 := free_at f3
  have HB := Lib.hid hB
  have Hov := Lib.hid (hov.base (base' := w.heap.size + 4) (by simp))
  have Hit := Lib.hid hit
  clear hbv f0 f1 f2 f3 hB hov hit
  go_wp2_with fail
  refine bodyPost_ret (v := lval { bare 4 with items := v } va vc none 0) (by simp [results, Try.results28, go_sem, lval, d3, bare, noDot]; rfl) rfl ⟨va, vc, _, v, rfl, Hit.out, rfl, ⟨⟨?_, Sl.nil _ 3, by show v.length ≤ 1000000; omega, by simp [bare]⟩, fun _ => ?_, fun h => absurd rfl h, below_nine HB.out _ _ _ _ _ _ _ _ _⟩⟩
  · exact OwnI.its (base := w.heap.size + 4) (owns9 Hov.out (by omega) _ _ _ _ _ _ _ _ _)
  · exact OwnI.base (base := w.heap.size + 4) (owns9 Hov.out (by omega) _ _ _ _ _ _ _ _ _) (by omega)
set_option maxRecDepth 100000 in
set_option maxHeartbeats 4000000 in
theorem set_any (l a b : Lf) (la lt ia ta ja ua : Option Addr) (lc ld ic tc jc uc : Nat) (w : World) (ha : LfAt w a ia ic ta tc) (hb : LfAt w b ja jc ua uc) (hna : (dotsOf a.items).Nodup) (hnb : (dotsOf b.items).Nodup) (hoa : okL a) (hob : okL b) (hla : a.items.length ≤ 400000) (hlb : b.items.length ≤ 400000) (hta : a.tombs.length ≤ 400000) (htb : b.tombs.length ≤ 400000) :
    Calls Try.prog 27 #[lval l la lc lt ld, lval a ia ic ta tc, lval b ja jc ua uc] w (SetTo w a b) := by
  have hoa' := hoa.dots
  have hob' := hob.dots
  obtain ⟨k, n, t, ⟨⟨r, i⟩, s⟩, x, is, ts⟩ := a
  obtain ⟨k', n', t', ⟨⟨r', i'⟩, s'⟩, x', is', ts'⟩ := b
  obtain ⟨k'', n'', t'', ⟨⟨r'', i''⟩, s''⟩, x'', is'', ts''⟩ := l
  dsimp only at hna hnb hla hlb hoa' hob' hta htb
  have Ha := Lib.hid ha
  have Hb := Lib.hid hb
  clear ha hb hoa hob
  simp only [lval]
  go_enter Try.func27, Try.ntmps27
  go_wp2_with fail
  refine (concatD_any ta ua tc uc (w.heap.size + 1 + 1 + 1 + 1) ts ts' _ (Ha.out.tms.below ?h1) (Hb.out.tms.below ?h2) (heap_eq _ _ _ (by simp)) (by omega) (by omega)).mono ?_
  case h1 => exact (((((Below.refl _ _).alloc (Nat.le_refl _) _).alloc (by simp) _).alloc (by simp <;> omega) _).alloc (by simp <;> omega) _).alloc (by simp <;> omega) _
  case h2 => exact (((((Below.refl _ _).alloc (Nat.le_refl _) _).alloc (by simp) _).alloc (by simp <;> omega) _).alloc (by simp <;> omega) _).alloc (by simp <;> omega) _
  rintro e w1 ⟨ca, cc, all, rfl, hall, hoK, hbK⟩
  obtain ⟨f0, f1, f2, f3, hz5, hbel⟩ := five w _ _ _ _ _ hbK
  have hlen : all.length ≤ 800000 := by rw [hall]; simp; omega
  have Hok := Lib.hid (hoK.base (base' := w.heap.size + 5) (by simp))
  have Hall := Lib.hid hall
  have HB := Lib.hid hbel
  have F1 := Lib.hid f1
  have F2 := Lib.hid f2
  have F3 := Lib.hid f3
  clear hall hoK hbK f0 f1 f2 f3 hbel
  go_wp2_with fail
  refine (sortD_any ca cc (w.heap.size + 5) all _ Hok.out (by omega)).mono ?_
  rintro e w2 ⟨rfl, l2, hl2, hp2, hs2, ho2, hC2⟩
  have hnot : ∀ q, q < w.heap.size + 5 → q ∉ ob ca := fun q hq hm => by have := (owns_lt Hok.out q hm).1; omega
  have Hnot := Lib.hid hnot
  have f1 := heap_chg F1.out hC2 (hnot _ (by omega))
  have f2 := heap_chg F2.out hC2 (hnot _ (by omega))
  have f3 := heap_chg F3.out hC2 (hnot _ (by omega))
  have HB2 : Hid (Below w.heap.size w w2) := Lib.hid (HB.out.trans (hC2.below (by omega) (fun q hq => by have := (owns_lt Hok.out q hq).1; omega)))
  have Hp2 := Lib.hid (show l2.Perm (ts ++ ts') from by rw [← Hall.out]; exact hp2)
  have Hs2 := Lib.hid (show upS l2 from hs2)
  have Ho2 := Lib.hid ho2
  have hlen2 : l2.length ≤ 800000 := by omega
  rw [← hl2]
  have hzz : w.heap.size + 5 ≤ w2.heap.size := by have := hC2.size; omega
  clear F1 F2 F3 hp2 hs2 ho2 hC2 hnot HB hl2
  have F1 := Lib.hid f1
  have F2 := Lib.hid f2
  have F3 := Lib.hid f3
  clear f1 f2 f3
  go_wp2_with fail
  refine (compact_any ca cc (w.heap.size + 5) l2 _ Ho2.out Hs2.out (by omega)).mono ?_
  rintro e w3 ⟨v3, rfl, hup3, hmem3, ho3, hC3⟩
  have f1 := heap_chg F1.out hC3 (Hnot.out _ (by omega))
  have f2 := heap_chg F2.out hC3 (Hnot.out _ (by omega))
  have f3 := heap_chg F3.out hC3 (Hnot.out _ (by omega))
  have HB3 : Hid (Below w.heap.size w w3) := Lib.hid (HB2.out.trans (hC3.below (by omega) (fun q hq => Nat.le_of_not_lt fun hq' => Hnot.out q (by omega) hq)))
  have HT := Lib.hid (tombs_sorted Hp2.out hup3 hmem3)
  have hlen3 : v3.length ≤ 800000 := Nat.le_trans (nodup_len (ltD_nodup hup3) fun x hx => (hmem3 x).1 hx) hlen2
  have Ho3 := Lib.hid ho3
  have hz3 : w.heap.size + 5 ≤ w3.heap.size := by have := hC3.size; omega
  have d1 := cells_at f1
  have d2 := cells_at f2
  clear F1 F2 F3 hup3 hmem3 ho3 hC3 HB2
  have F3 := Lib.hid f3
  clear f1 f2 f3
  go_wp2_with fail
  refine (both_any ia ja ca ic jc cc is is' v3 _ (Ha.out.its.below HB3.out) (Hb.out.its.below HB3.out) Ho3.out.vec hna hnb hoa' hob' (by omega) (by omega) (by omega)).mono ?_
  rintro e w4 ⟨va, vc, v, rfl, hit, hov, hbv, hlv⟩
  have f3 := (hbv.block _ (heap_lt F3.out)).trans F3.out
  have d3 := cells_at f3
  have g3 := free_at f3
  have HB4 := Lib.hid (below2 HB3.out hbv HB3.out.size)
  have Hov := Lib.hid (hov.base (base' := w.heap.size + 5) hz3)
  have Ho4 := Lib.hid (Ho3.out.below hbv)
  have Hit := Lib.hid hit
  clear hbv f3 hov hit d1 d2
  go_wp2_with fail
  refine bodyPost_ret (v := lval { bare 3 with items := v, tombs := v3 } va vc ca cc) (by simp [results, Try.results27, go_sem, lval, d3, bare, noDot]; rfl) rfl ⟨va, vc, ca, cc, _, v3, v, rfl, HT.out, Hit.out, rfl, ⟨⟨?_, ?_, by show v.length ≤ 1000000; omega, by show v3.length ≤ 1000000; omega⟩, fun _ => ?_, fun _ => ?_, below_nine HB4.out _ _ _ _ _ _ _ _ _⟩⟩
  · exact OwnI.its (base := w.heap.size + 5) (owns9 Hov.out (by omega) _ _ _ _ _ _ _ _ _)
  · exact OwnD.vec (base := w.heap.size + 5) (owns9 Ho4.out (by omega) _ _ _ _ _ _ _ _ _)
  · exact OwnI.base (base := w.heap.size + 5) (owns9 Hov.out (by omega) _ _ _ _ _ _ _ _ _) (by omega)
  · exact OwnD.base (base := w.heap.size + 5) (owns9 Ho4.out (by omega) _ _ _ _ _ _ _ _ _) (by omega)
end Go.Proofs.Ytmabjghjkgicgaa
