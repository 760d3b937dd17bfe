/- fuse.both, whole: contract. -/
import Derived.Test.YtmabjghjkgicgaaFuseF
import Derived.Test.YtmabjghjkgicgaaFuseE
namespace Go.Proofs.Ytmabjghjkgicgaa
open Go.RowKit
set_option linter.unusedVariables false
set_option linter.unusedSimpArgs false

def keptStep (ts : List Dt) (p : List Dt × List It) (x : It) : List Dt × List It := (p.1 ++ [x.d], if x.d ∉ p.1 ∧ x.d ∉ ts then p.2 ++ [x] else p.2)
def keptP (ts : List Dt) (all : List It) : List It := (all.foldl (keptStep ts) ([], [])).2
theorem kept_fst (ts : List Dt) (all : List It) : (all.foldl (keptStep ts) ([], [])).1 = dotsOf all := by
  induction all using snoc_rec with
  | h0 => rfl
  | h1 l a ih => rw [List.foldl_append, List.foldl_cons, List.foldl_nil, keptStep, ih, dotsOf_snoc]
theorem keptP_snoc (ts : List Dt) (all : List It) (x : It) : keptP ts (all ++ [x]) = if x.d ∉ dotsOf all ∧ x.d ∉ ts then keptP ts all ++ [x] else keptP ts all := by
  rw [keptP, List.foldl_append, List.foldl_cons, List.foldl_nil, keptStep, kept_fst]
  rfl
theorem keptP_sub {ts : List Dt} {all : List It} {x : It} (h : x ∈ keptP ts all) : x ∈ all := by
  induction all using snoc_rec with
  | h0 => simp [keptP] at h
  | h1 l a ih =>
    rw [keptP_snoc] at h
    split at h
    · rcases List.mem_append.1 h with h | h
      · exact List.mem_append.2 (.inl (ih h))
      · exact List.mem_append.2 (.inr h)
    · exact List.mem_append.2 (.inl (ih h))
theorem keptP_len (ts : List Dt) (all : List It) : (keptP ts all).length ≤ all.length := by
  induction all using snoc_rec with
  | h0 => simp [keptP]
  | h1 l a ih =>
    rw [keptP_snoc]
    split <;> simp <;> omega
theorem keptP_nodup (ts : List Dt) (all : List It) : (dotsOf (keptP ts all)).Nodup := by
  induction all using snoc_rec with
  | h0 => simp [keptP, dotsOf]
  | h1 l a ih =>
    rw [keptP_snoc]
    split
    · rename_i h
      rw [dotsOf_snoc, List.nodup_append]
      refine ⟨ih, by simp, fun x hx y hy e => ?_⟩
      simp at hy
      obtain ⟨z, hz, he⟩ := mem_dotsOf.1 hx
      exact h.1 (mem_dotsOf.2 ⟨z, keptP_sub hz, by rw [he, e, hy]⟩)
    · exact ih
theorem keptP_mem {ts : List Dt} {l m : List It} (hl : ∀ x, x ∈ keptP ts l ↔ x ∈ l ∧ x.d ∉ ts) (hm : (dotsOf m).Nodup) (x : It) : x ∈ keptP ts (l ++ m) ↔ (x ∈ l ∨ (x ∈ m ∧ x.d ∉ dotsOf l)) ∧ x.d ∉ ts := by
  induction m using snoc_rec with
  | h0 => rw [List.append_nil, hl x]; simp
  | h1 m a ih =>
    rw [dotsOf_snoc, List.nodup_append] at hm
    have ih := ih hm.1
    have ha : a.d ∉ dotsOf m := fun h => hm.2.2 a.d h a.d (by simp) rfl
    rw [← List.append_assoc, keptP_snoc]
    have e1 : dotsOf (l ++ m) = dotsOf l ++ dotsOf m := by simp [dotsOf]
    split
    · rename_i h
      rw [List.mem_append, ih, List.mem_append, List.mem_singleton]
      rw [e1, List.mem_append, not_or] at h
      constructor
      · rintro (⟨h1 | ⟨h1, h2⟩, h3⟩ | rfl)
        · exact ⟨.inl h1, h3⟩
        · exact ⟨.inr ⟨.inl h1, h2⟩, h3⟩
        · exact ⟨.inr ⟨.inr rfl, h.1.1⟩, h.2⟩
      · rintro ⟨h1 | ⟨h1 | rfl, h2⟩, h3⟩
        · exact .inl ⟨.inl h1, h3⟩
        · exact .inl ⟨.inr ⟨h1, h2⟩, h3⟩
        · exact .inr rfl
    · rename_i h
      rw [ih, List.mem_append, List.mem_singleton]
      constructor
      · rintro ⟨h1 | ⟨h1, h2⟩, h3⟩
        · exact ⟨.inl h1, h3⟩
        · exact ⟨.inr ⟨.inl h1, h2⟩, h3⟩
      · rintro ⟨h1 | ⟨h1 | rfl, h2⟩, h3⟩
        · exact ⟨.inl h1, h3⟩
        · exact ⟨.inr ⟨h1, h2⟩, h3⟩
        · exact absurd ⟨by rw [e1, List.mem_append, not_or]; exact ⟨h2, ha⟩, h3⟩ h
theorem keptP_both {ts : List Dt} {l m : List It} (hl : (dotsOf l).Nodup) (hm : (dotsOf m).Nodup) (x : It) : x ∈ keptP ts (l ++ m) ↔ (x ∈ l ∨ (x ∈ m ∧ x.d ∉ dotsOf l)) ∧ x.d ∉ ts :=
  keptP_mem (fun x => by
    have := keptP_mem (ts := ts) (l := []) (m := l) (fun x => by simp [keptP]) hl x
    rw [List.nil_append] at this
    rw [this]; simp [dotsOf]) hm x
theorem sorted_items {ts : List Dt} {l m k : List It} (hl : (dotsOf l).Nodup) (hm : (dotsOf m).Nodup) (hp : k.Perm (keptP ts (l ++ m))) (hs : k.Pairwise fun x y => aheadT y.t y.d x.t x.d = false) : ItemsOf l m ts k := by
  refine ⟨?_, fun x => hp.mem_iff.trans (keptP_both hl hm x)⟩
  have hn : (dotsOf k).Nodup := (hp.map (·.d)).nodup_iff.2 (keptP_nodup ts (l ++ m))
  rw [dotsOf, List.Nodup, List.pairwise_map] at hn
  refine (hs.and hn).imp fun {x y} ⟨h1, h2⟩ => ?_
  rcases aheadT_total (t := x.t) (u := y.t) h2 with h | h
  · exact h
  · rw [h] at h1; cases h1
theorem kept_take {ts : List Dt} {all : List It} {k : Nat} {x : It} (hx : all[k]? = some x) : (if x.d ∉ dotsOf (all.take k) ∧ x.d ∉ ts then keptP ts (all.take k) ++ [x] else keptP ts (all.take k)) = keptP ts (all.take (k + 1)) ∧ dotsOf (all.take k) ++ [x.d] = dotsOf (all.take (k + 1)) := by
  rw [take_snoc' hx, keptP_snoc, dotsOf_snoc]
  exact ⟨rfl, rfl⟩
/-- a call returns the items of both in memory of its own -/
def BothTo (w : World) (l m : List It) (ts : List Dt) (e : Ending) (w' : World) : Prop :=
  ∃ a c v, e = .returned (.slice a v.length c) ∧ ItemsOf l m ts v ∧ OwnI w' w.heap.size a c v ∧ Below w.heap.size w w' ∧ v.length ≤ l.length + m.length
theorem heap_eq (w : World) (o : Obj) (k : Nat) (h : k = w.heap.size) : (w.alloc o).heap[k]? = some o := by subst h; exact heap_new w o
theorem five (w : World) (o0 o1 o2 o3 o4 : Obj) {w1 : World} (hb : Below (((((w.alloc o0).alloc o1).alloc o2).alloc o3).alloc o4).heap.size (((((w.alloc o0).alloc o1).alloc o2).alloc o3).alloc o4) w1) :
    w1.heap[w.heap.size]? = some o0 ∧ w1.heap[w.heap.size + 1]? = some o1 ∧ w1.heap[w.heap.size + 2]? = some o2 ∧ w1.heap[w.heap.size + 3]? = some o3 ∧ w.heap.size + 5 ≤ w1.heap.size ∧ Below w.heap.size w w1 := by
  have hs := hb.size
  simp at hs
  refine ⟨?_, ?_, ?_, ?_, by omega, ?_⟩
  · rw [hb.block _ (by simp <;> omega)]
    rw [heap_old _ _ (by simp <;> omega), heap_old _ _ (by simp <;> omega), heap_old _ _ (by simp <;> omega), heap_old _ _ (by simp)]
    exact heap_new w o0
  · rw [hb.block _ (by simp <;> omega)]
    rw [heap_old _ _ (by simp <;> omega), heap_old _ _ (by simp <;> omega), heap_old _ _ (by simp)]
    have := heap_new (w.alloc o0) o1
    simpa using this
  · rw [hb.block _ (by simp <;> omega)]
    rw [heap_old _ _ (by simp <;> omega), heap_old _ _ (by simp)]
    have := heap_new ((w.alloc o0).alloc o1) o2
    simpa using this
  · rw [hb.block _ (by simp <;> omega)]
    rw [heap_old _ _ (by simp)]
    have := heap_new (((w.alloc o0).alloc o1).alloc o2) o3
    simpa using this
  · exact (((((Below.refl w.heap.size w).alloc (Nat.le_refl _) _).alloc (by simp) _).alloc (by simp <;> omega) _).alloc (by simp <;> omega) _).alloc (by simp <;> omega) _ |>.trans (hb.mono (by simp <;> omega))
theorem map_seen {w w1 : World} {b : Nat} (h : w1.heap[b]? = some (.map #[] 0)) : SeenAt w1 b [] :=
  ⟨#[], 0, h, MapKept.stamped_empty 0, rfl, by simp [distinct], fun d _ => by simp [cntI]⟩
set_option maxRecDepth 100000 in
set_option maxHeartbeats 4000000 in
theorem both_any (a b ta : Option Addr) (c d tc : Nat) (l m : List It) (ts : List Dt) (w : World) (hv : Its w a c l) (hu : Its w b d m) (ht : Vec w ta tc ts) (hl : (dotsOf l).Nodup) (hm : (dotsOf m).Nodup) (hol : okV (dotsOf l)) (hom : okV (dotsOf m)) (hn : l.length ≤ 1000000) (hn2 : m.length ≤ 1000000) (hn3 : ts.length ≤ 3000000) :
    Calls Try.prog 60 #[.slice a l.length c, .slice b m.length d, .slice ta ts.length tc] w (BothTo w l m ts) := by
  have hmm := @run_makeMap Try.prog
  have Hv := Lib.hid hv
  have Hu := Lib.hid hu
  have Ht := Lib.hid ht
  have he := enters_of Try.func90 (by kernel_rfl) rfl
  clear hv hu ht
  go_enter Try.func60, Try.ntmps60
  go_wp2_with fail
  refine (concatI_any a b c d (w.heap.size + 1 + 1 + 1 + 1) l m _ (Hv.out.below ?h1) (Hu.out.below ?h2) ?h3 hn hn2).mono ?_
  case h1 => exact ((((Below.refl w.heap.size w).alloc (Nat.le_refl _) _).alloc (by simp) _).alloc (by simp; omega) _).alloc (by simp; omega) _ |>.alloc (by simp; omega) _
  case h2 => exact ((((Below.refl w.heap.size w).alloc (Nat.le_refl _) _).alloc (by simp) _).alloc (by simp; omega) _).alloc (by simp; omega) _ |>.alloc (by simp; omega) _
  case h3 => exact heap_eq _ _ _ (by simp)
  rintro e wK ⟨ca, cc, all, rfl, hall, hoK, hbK⟩
  obtain ⟨f0, f1, f2, f3, hz5, hbel⟩ := five w _ _ _ _ _ hbK
  have hlen : all.length ≤ 2000000 := by rw [hall]; simp; omega
  have hal : all.length = l.length + m.length := by rw [hall]; simp
  have Hal := Lib.hid hal
  have HoK := Lib.hid (hoK.base (base' := w.heap.size + 5) (by simp))
  have E : Hid (BothE w wK wK ta tc ts [] []) := Lib.hid ⟨f0, ⟨none, 0, f1, OwnI.nil _ _⟩, f3, map_seen (w := w) f2, hbel, Chg.refl _ _, by omega⟩
  have Hall := Lib.hid hall
  have Hokall := Lib.hid (show okV (dotsOf all) from fun x hx => by
    obtain ⟨y, hy, rfl⟩ := mem_dotsOf.1 hx
    rw [hall] at hy
    rcases List.mem_append.1 hy with hy | hy
    · exact hol _ (mem_dotsOf.2 ⟨y, hy, rfl⟩)
    · exact hom _ (mem_dotsOf.2 ⟨y, hy, rfl⟩))
  clear hall hoK hbK f0 f1 f2 f3 hbel hmm hal
  go_wp2_with fail
  go_loopw [18] (fun j wr => ∃ k : Nat, k ≤ all.length ∧ j = .int .i64 k ∧ Hid (BothE w wK wr ta tc ts (dotsOf (all.take k)) (keptP ts (all.take k)))) (fun j _ => all.length - (intOf j).toNat)
  case atStart => exact ⟨0, Nat.zero_le _, rfl, E⟩
  case round =>
    obtain ⟨k, hk, rfl, hE⟩ := hrel
    have Ek := Lib.hid hE.out
    clear E hE
    have hs1 := Ek.out.bel.size
    by_cases hlt : k < all.length
    · obtain ⟨x, hx⟩ : ∃ x, all[k]? = some x := ⟨all[k], by simp [hlt]⟩
      have hits : Its wr ca cc all := Sl.chg HoK.out.its Ek.out.chg (fun q hq hm => by have := (owns_lt HoK.out q hq).1; simp at hm; omega)
      obtain ⟨ad, had, ⟨c0, c1, c2, c3, c4⟩, hl0⟩ := hits.at hx
      subst had
      have Hx := Lib.hid hx
      clear hx hits
      go_wp2_with fail
      refine (keep_any w wK _ ta tc ts (dotsOf (all.take k)) (keptP ts (all.take k)) x (Ek.out.step ?hb) Ht.out (Hokall.out _ (mem_dotsOf.2 ⟨x, List.mem_of_getElem? Hx.out, rfl⟩)) ?l1 ?l2 hn3).mono ?_
      case hb => exact (Below.refl _ _).alloc (Nat.le_refl _) _
      case l1 => simp [dotsOf]; omega
      case l2 => exact Nat.le_trans (keptP_len _ _) (by simp; omega)
      rintro e w2 ⟨rfl, v', hv', hE2⟩
      rw [(kept_take Hx.out).1] at hv'
      rw [(kept_take (ts := ts) Hx.out).2, hv'] at hE2
      have E2 := Lib.hid hE2
      clear hE2 hv'
      go_wp2_with fail
      go_roundw
      case rel => exact ⟨k + 1, by omega, by go_num, E2⟩
      case measure => simp [intOf]; omega
    · have Ea : Hid (BothE w wK wr ta tc ts (dotsOf all) (keptP ts all)) := by have := Ek.out; rw [List.take_of_length_le (by omega)] at this; exact Lib.hid this
      clear Ek
      obtain ⟨va, vc, hlb, ho⟩ := Ea.out.bl
      have l0 := cells_at hlb
      have Hlb := Lib.hid hlb
      have Ho := Lib.hid ho
      have hkl := keptP_len ts all
      generalize hkv : keptP ts all = kv at *
      have Hkv := Lib.hid hkv
      clear hlb ho hkv
      go_wp2_with fail
      refine (sortI_any va vc wK.heap.size kv _ Ho.out (by omega)).mono ?_
      rintro e w2 ⟨rfl, v2, hl2, hp2, hs2, ho2, hC2⟩
      have hzK := Ea.out.sz
      have hlb2 := heap_chg Hlb.out hC2 (fun hm => by have := (owns_lt Ho.out _ hm).1; omega)
      have l2 := cells_at hlb2
      have f2 := free_at hlb2
      have Hlb2 := Lib.hid hlb2
      have Hl2 := Lib.hid hl2
      have Hit := Lib.hid (show ItemsOf l m ts v2 from sorted_items hl hm (by rw [← Hall.out, Hkv.out]; exact hp2) hs2)
      have HB2 : Hid (Below w.heap.size w w2) := Lib.hid (Ea.out.bel.trans (hC2.below (by have := Ea.out.chg.size; omega) (fun q hq => by have := (owns_lt Ho.out q hq).1; omega)))
      have Ho2 := Lib.hid ho2
      clear hlb2 hl2 hp2 hs2 ho2 hC2 l0
      go_wp2_with fail
      have hsz2 := Ea.out.bel.size
      refine bodyPost_ret (v := .slice va kv.length vc) (by simp [results, Try.results60, go_sem, l2]) rfl ⟨va, vc, v2, by rw [Hl2.out], Hit.out, ?ho, HB2.out.setCell (by simp) _, ?hv⟩
      case ho => exact OwnI.base (show OwnI (w2.setCell ⟨w.heap.size + 1, 0, none⟩ (.slice va kv.length vc)) wK.heap.size va vc v2 from owns_chg Ho2.out (Chg.setCell w2 ⟨w.heap.size + 1, 0, none⟩ (.slice va kv.length vc)) (fun q hq hm => by have := (owns_lt Ho2.out q hq).1; simp at hm; omega)) (by omega)
      case hv => have := Hl2.out; have := Hal.out; omega
end Go.Proofs.Ytmabjghjkgicgaa
