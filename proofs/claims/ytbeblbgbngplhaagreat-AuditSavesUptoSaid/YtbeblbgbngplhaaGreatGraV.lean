/- graph.Commits: rows of commits, and the contract. | graph.Commits: the contract. | graph.VV, graph.Get: contracts. -/
import Derived.Test.YtbeblbgbngplhaaGreatGraQ
import Derived.Deep.MidRow
/- GraV -/
namespace Go.Proofs.YtbeblbgbngplhaaGreat
open Go.RowKit
set_option linter.unusedVariables false
set_option linter.unusedSimpArgs false

theorem ccs_length (l : List Cw) : (ccs l).length = l.length * 11 := by
  induction l with
  | nil => rfl
  | cons v l ih => simp only [ccs, List.flatMap_cons, List.length_append, List.length_cons] at *; rw [ih, ccel_len]; omega
theorem ccs_at {l : List Cw} {i : Nat} {v : Cw} (h : l[i]? = some v) : ∀ j, j < 11 → (ccs l)[i * 11 + j]? = (ccel v)[j]? := fun j hj => flatMap_at (enc := ccel) (k := 11) ccel_len l i j v h hj
theorem ccs_append (a b : List Cw) : ccs (a ++ b) = ccs a ++ ccs b := by simp [ccs]
theorem ccs_take (l : List Cw) (j : Nat) : (ccs l).take (j * 11) = ccs (l.take j) := by
  induction l generalizing j with
  | nil => simp [ccs]
  | cons v l ih =>
    cases j with
    | zero => simp [ccs]
    | succ j =>
      have hl := ccel_len v
      have := ih j
      simp only [ccs, List.flatMap_cons, List.take_succ_cons] at this ⊢
      rw [List.take_append, hl, show (j + 1) * 11 - 11 = j * 11 by omega, this, List.take_of_length_le (by omega)]
theorem ccs_drop (l : List Cw) (j : Nat) : (ccs l).drop (j * 11) = ccs (l.drop j) := by
  induction l generalizing j with
  | nil => simp [ccs]
  | cons v l ih =>
    cases j with
    | zero => simp [ccs]
    | succ j =>
      have hl := ccel_len v
      have := ih j
      simp only [ccs, List.flatMap_cons, List.drop_succ_cons] at this ⊢
      rw [List.drop_append, hl, show (j + 1) * 11 - 11 = j * 11 by omega, this, List.drop_eq_nil_of_le (by omega), List.nil_append]
theorem ccs_set {l : List Cw} {j : Nat} (u : Cw) (hj : j < l.length) : (ccs l).take (j * 11) ++ ccel u ++ (ccs l).drop (j * 11 + 11) = ccs (l.set j u) := by
  rw [show j * 11 + 11 = (j + 1) * 11 by omega, ccs_take, ccs_drop, List.set_eq_take_append_cons_drop, if_pos hj, ccs_append]
  simp [ccs]
/-- many cells stored in a row of one's own -/
theorem owns_setCells {base : Nat} {e : TypeId} {size n g c : Nat} : ∀ (vs : List Value) (o : Nat) (w : World) (xs : List Value), w.ownsRow base e size (.slice (some ⟨g, 0, none⟩) n c) n xs → o + vs.length ≤ xs.length →
    (w.setCells g o vs).ownsRow base e size (.slice (some ⟨g, 0, none⟩) n c) n (xs.take o ++ vs ++ xs.drop (o + vs.length))
  | [], o, w, xs, h, _ => by simpa [World.setCells] using h
  | v :: vs, o, w, xs, h, ho => by
    simp only [List.length_cons] at ho
    have h1 := owns_setCells vs (o + 1) (w.setCell ⟨g, o, none⟩ v) (xs.set o v) (World.ownsRow.stored h o v).1 (by simp; omega)
    have e : (xs.set o v).take (o + 1) ++ vs ++ (xs.set o v).drop (o + 1 + vs.length) = xs.take o ++ (v :: vs) ++ xs.drop (o + (v :: vs).length) := by
      rw [List.take_set, List.drop_set_of_lt (by omega), List.length_cons, show o + (vs.length + 1) = o + 1 + vs.length by omega]
      have : (xs.take (o + 1)).set o v = xs.take o ++ [v] := by
        rw [List.take_add_one, List.set_append]
        simp [show o < xs.length by omega]
        rw [Nat.min_eq_left (by omega), if_neg (by omega), Nat.sub_self]; rfl
      rw [this]; simp
    rw [e] at h1
    exact h1
theorem chg_setCells (b : Nat) : ∀ (vs : List Value) (o : Nat) (w : World), Chg [b] w (w.setCells b o vs)
  | [], o, w => Chg.refl _ _
  | v :: vs, o, w => (Chg.setCell w ⟨b, o, none⟩ v).trans (chg_setCells b vs (o + 1) _) (by simp)
theorem OwnC.put {w : World} {base g c q : Nat} {M : List Cw} (u : Cw) (h : OwnC w base (some ⟨g, 0, none⟩) c M) (hq : q < M.length) :
    OwnC (w.setCells g (q * 11) (ccel u)) base (some ⟨g, 0, none⟩) c (M.set q u) ∧ Chg [g] w (w.setCells g (q * 11) (ccel u)) := by
  refine ⟨?_, chg_setCells _ _ _ _⟩
  have h1 := owns_setCells (ccel u) (q * 11) w (ccs M) h (by rw [ccel_len, ccs_length]; omega)
  rw [ccel_len, ccs_set u hq] at h1
  unfold OwnC
  rw [List.length_set]
  exact h1
theorem OwnC.range {w : World} {base g c q : Nat} {M : List Cw} {v : Cw} (h : OwnC w base (some ⟨g, 0, none⟩) c M) (hv : M[q]? = some v) : w.rangeAt g (q * 11) (ccel v) := fun j x hx => by
  have hq : q < M.length := (List.getElem?_eq_some_iff.1 hv).1
  have hj : j < 11 := by have := (List.getElem?_eq_some_iff.1 hx).1; rwa [ccel_len] at this
  rw [World.ownsRow.cellAt h (q * 11 + j) (by omega), ccs_at hv j hj, hx]
theorem OwnC.there {w : World} {base g c q : Nat} {M : List Cw} {v : Cw} (h : OwnC w base (some ⟨g, 0, none⟩) c M) (hv : M[q]? = some v) : w.there g (q * 11) 11 := fun j hj =>
  ⟨World.rangeAt.isSome (h.range hv) j (by rw [ccel_len]; exact hj), World.ownsRow.frozenAt h _⟩
theorem OwnC.below {w w' : World} {base : Nat} {a : Option Addr} {c : Nat} {M : List Cw} (h : OwnC w base a c M) (hb : Below w.heap.size w w') : OwnC w' base a c M := owns_chg (F := []) h (Chg.of_below hb) (by simp)

/-- the row while its commits are made one's own -/
structure ComE (w wr : World) (g c : Nat) (S M : List Cw) (q : Nat) : Prop where
  len : M.length = S.length
  same : cms M = cms S
  own : OwnC wr w.heap.size (some ⟨g, 0, none⟩) c M
  done : ∀ v ∈ M.take q, CwOwn wr w.heap.size v
  rest : M.drop q = S.drop q
  bel : Below w.heap.size w wr
theorem ComE.at_ {w wr : World} {g c : Nat} {S M : List Cw} {q : Nat} (h : ComE w wr g c S M q) (hq : q < S.length) : M[q]? = some S[q] := by
  have h1 : (M.drop q)[0]? = (S.drop q)[0]? := by rw [h.rest]
  simpa [List.getElem?_drop, hq] using h1
theorem ComE.step {w wr w2 : World} {g c : Nat} {S M : List Cw} {q : Nat} {u : Cw} (h : ComE w wr g c S M q) (hq : q < S.length) (hb : Below wr.heap.size wr w2) (hu : u.c = S[q].c) (ho : CwOwn w2 w.heap.size u) :
    ComE w (w2.setCells g (q * 11) (ccel u)) g c S (M.set q u) (q + 1) := by
  have hqm : q < M.length := by rw [h.len]; exact hq
  have hgw : w.heap.size ≤ g := (World.ownsRow.lt h.own g rfl).1
  obtain ⟨h1, h2⟩ := (h.own.below hb).put u hqm
  have hn : NoRow w2 [g] := by
    intro k hk C t fr hh
    simp at hk
    subst hk
    obtain ⟨C', fr', hh'⟩ := ob_row (h.own.below hb) k (by simp [ob])
    rw [hh] at hh'
    cases hh'
    exact ⟨by decide, by decide⟩
  refine ⟨by rw [List.length_set]; exact h.len, ?_, h1, fun v hv => ?_, ?_, (below2 h.bel hb h.bel.size).trans (h2.below (Nat.le_trans h.bel.size hb.size) (by simpa using hgw))⟩
  · have e1 : cms (M.set q u) = (cms M).set q u.c := by unfold cms; rw [List.map_set]
    rw [e1, h.same, hu]
    unfold cms
    apply List.ext_getElem?
    intro k
    by_cases e : q = k
    · subst e; simp [hq]
    · simp [List.getElem?_set, e]
  · rw [List.take_set, List.take_add_one, List.set_append] at hv
    have hl : (M.take q).length = q := by rw [List.length_take]; omega
    rw [if_neg (by omega), hl, Nat.sub_self, List.getElem?_eq_getElem hqm] at hv
    simp at hv
    rcases hv with hv | rfl
    · exact ((h.done v hv).below hb).chg h2 hn
    · exact ho.chg h2 hn
  · rw [List.drop_set_of_lt (by omega)]
    have := congrArg (List.drop 1) h.rest
    simpa [List.drop_drop, Nat.add_comm] using this
theorem valsC_any (mb : Nat) (w : World) : Calls Tryz.prog 92 #[.map (some mb)] w fun e w' =>
    e = .returned (.func (.func 146) #[] #[.pointer (some ⟨w.heap.size, 0, none⟩)]) ∧ w' = w.alloc (.cells #[.map (some mb)] 120) := by
  go_enter Tryz.func92, Tryz.ntmps92
  go_wp2_with fail
  go_ret
  exact ⟨rfl, rfl⟩
theorem wpList_load_cw {ops : Array Oper} {rest : List Oper} {op : Oper} {a : Act} {w : World} {Q : Exit → Act → World → Prop} (hgd : op.guard = none) (x : Operand) (ho : op.op = .load 57 x)
    (g o : Nat) (hx : a.eval x = .pointer (some ⟨g, o, none⟩)) (v : Cw) (hc : w.rangeAt g o (ccel v)) (h : wpList Tryz.prog ops Q rest (a.put op.dst (.agg (cwcells v))) w) : wpList Tryz.prog ops Q (op :: rest) a w :=
  wpList_load_mid hgd _ x ho g o hx (ccel v) _ hc Tryz.underlying57 rfl (by rw [ccel_len]; kernel_rfl) (by simpa [ccel] using h)
end Go.Proofs.YtbeblbgbngplhaaGreat

/- GraX -/
namespace Go.Proofs.YtbeblbgbngplhaaGreat
open Go.RowKit
set_option linter.unusedVariables false
set_option linter.unusedSimpArgs false

/-- the commits in their order, in rows of one's own -/
def ComsTo (w : World) (L : List Cm) (e : Ending) (w' : World) : Prop :=
  ∃ a c ss, e = .returned (.slice a (List.length ss) c) ∧ (cms ss).Perm L ∧ SortedC (cms ss) ∧ OwnC w' w.heap.size a c ss ∧ (∀ v ∈ ss, CwOwn w' w.heap.size v) ∧ Below w.heap.size w w'
set_option maxRecDepth 100000 in
set_option maxHeartbeats 8000000 in
theorem commits_G (pg mb : Nat) (w0 : World) (m : Nat) (b : Bw) (L : List Cw) (va : Option Addr) (vc : Nat) (vv : List Dt) (w : World) (h : GrAt w pg mb w0 m b L va vc vv) :
    Calls Tryz.prog 32 #[.pointer (some ⟨pg, 0, none⟩)] w (ComsTo w (cms L)) := by
  have H := Lib.hid h
  have hpg := heap_lt h.blk
  have g0 := cells_at h.blk
  simp only [gcells] at g0
  have hlen := fun ty => h.map.len Tryz.underlying120 ty
  have hmax := h.max
  clear h
  go_enter Tryz.func32, Tryz.ntmps32
  go_wp2_with fail
  refine (none_some pg mb _ H.out.c5).mono ?_
  rintro e w1 ⟨rfl, rfl⟩
  by_cases h0 : L = []
  · subst h0
    have hlen0 : ∀ ty, (Builtin.len_ #[120] ty #[.map (some mb)]).run Tryz.prog w1 = .ok (.int .i64 0) w1 := hlen
    clear hlen
    go_wp2_with fail
    go_ret
    exact ⟨none, 0, [], rfl, .refl _, .nil, World.ownsRow_nil _ _ _ _, by simp, Below.refl _ _⟩
  have hL0 : 0 < L.length := List.length_pos_iff.2 h0
  have e0 : decide ((L.length : Int) = 0) = false := by simp; omega
  have e0' : ((L.length : Int) == 0) = false := by simp; omega
  go_wp2_with fail
  refine (valsC_any mb _).mono ?_
  rintro e w2 ⟨rfl, hw2⟩
  have hB2 : Below w1.heap.size w1 w2 := by rw [hw2]; exact (Below.refl _ _).alloc (Nat.le_refl _) _
  have hm2 : w2.heap[w1.heap.size]? = some (.cells #[.map (some mb)] 120 (0, 0)) := by rw [hw2]; exact heap_new _ _
  have HB2 := Lib.hid hB2
  have HM2 := Lib.hid hm2
  clear hB2 hm2 hw2 hlen
  go_wp2_with fail
  refine (sortedFunc_vals w1.heap.size mb L.length L H.out.nodup (fun v hv => (H.out.each v hv).ok.d) w2 HM2.out (H.out.below HB2.out).map.mapF (by omega) (by omega)).mono ?_
  rintro e w3 ⟨a, c, S, rfl, hp, hs, ho, hb3⟩
  have hS0 : 0 < S.length := by have := hp.length_eq; omega
  have hSm : S.length ≤ 200 := by have := hp.length_eq; omega
  obtain ⟨g, rfl⟩ : ∃ g, a = some ⟨g, 0, none⟩ := by
    rcases ho.2 with ⟨h1, h2⟩ | ⟨g, cap, cur, h1, _⟩
    · simp at h1; omega
    · simp at h1; exact ⟨g, h1.1⟩
  have HP := Lib.hid hp
  have HS := Lib.hid hs
  have hE : ComE w1 w3 g c S S 0 := ⟨rfl, rfl, owns_base ho HB2.out.size, by simp, rfl, below2 HB2.out hb3 HB2.out.size⟩
  have HE := Lib.hid hE
  clear hp hs ho hb3 hE HB2 HM2 e0 e0' hL0 h0
  go_wp2_with fail
  go_loopw [24] (fun j wr => ∃ (q : Nat) (M : List Cw), q ≤ S.length ∧ j = .int .i64 q ∧ ComE w1 wr g c S M q) (fun j _ => S.length - (intOf j).toNat)
  case atStart => exact ⟨0, S, Nat.zero_le _, rfl, HE.out⟩
  case round =>
    obtain ⟨q, M, hq, rfl, hE⟩ := hrel
    have E := Lib.hid hE
    clear hE
    by_cases hlt : q < S.length
    · have hx := E.out.at_ hlt
      have hv : S[q] ∈ L := HP.out.subset (List.getElem_mem hlt)
      have hcw : CwAt wr S[q] := (H.out.each _ hv).at_.below E.out.bel
      have hmay := H.out.may _ hv
      have hrg := E.out.own.range hx
      have hth := E.out.own.there hx
      have h1 : S[q].c.ps.length ≤ 1100000 := by have := hmay.few; omega
      have h2 : S[q].c.vv.length ≤ 1100000 := by have := canon_few hmay.canon; omega
      have h3 : S[q].c.o.p.length ≤ 1100000 := by have := hmay.op.path.2.1; omega
      have h4 : S[q].c.o.ds.length ≤ 1100000 := by have := hmay.op.few; omega
      obtain ⟨V, hV⟩ : ∃ V, V = S[q] := ⟨_, rfl⟩
      rw [← hV] at hcw hrg h1 h2 h3 h4
      have HV := Lib.hid hV
      have HC := Lib.hid hcw
      have HX := Lib.hid hx
      have HG := Lib.hid hrg
      clear hx hv hcw hmay hrg hth hV
      obtain ⟨⟨⟨⟨r, i⟩, s⟩, ps, uu, t, ⟨k, n, x, p, ds⟩⟩, qa, qc, ua, uc, pa, pc, da, dc⟩ := V
      go_wp2_with (refine wpList_load_cw rfl _ rfl g (q * 11) (by first | rfl | simp [Addr.add]) ⟨⟨((r, i), s), ps, uu, t, ⟨k, n, x, p, ds⟩⟩, qa, qc, ua, uc, pa, pc, da, dc⟩ HG.out ?_; simp only [cwcells])
      refine (ownC_any ⟨⟨((r, i), s), ps, uu, t, ⟨k, n, x, p, ds⟩⟩, qa, qc, ua, uc, pa, pc, da, dc⟩ _ (HC.out.below ((Below.refl _ _).alloc (Nat.le_refl _) _)) h1 h2 h3 h4).mono ?_
      rintro e w4 ⟨u, rfl, huc, how, hb⟩
      obtain ⟨hx0, hz1, hB1⟩ := new1 hb
      have HB1 := Lib.hid hB1
      have HU := Lib.hid huc
      have HO := Lib.hid how
      have hxv : M[q]? = some ⟨⟨((r, i), s), ps, uu, t, ⟨k, n, x, p, ds⟩⟩, qa, qc, ua, uc, pa, pc, da, dc⟩ := by rw [HX.out, ← HV.out]
      have E4 := E.out.own.below hB1
      have rg := E4.range hxv
      have c0 : w4.cell? ⟨g, q * 11, none⟩ = some (.int .u8 r) := rg 0 _ rfl
      have c1 : w4.cell? ⟨g, q * 11 + 1, none⟩ = some (.int .u32 i) := rg 1 _ rfl
      have c2 : w4.cell? ⟨g, q * 11 + 2, none⟩ = some (.int .u64 s) := rg 2 _ rfl
      have c3 : w4.cell? ⟨g, q * 11 + 3, none⟩ = some (.slice qa ps.length qc) := rg 3 _ rfl
      have c4 : w4.cell? ⟨g, q * 11 + 4, none⟩ = some (.slice ua uu.length uc) := rg 4 _ rfl
      have c5 : w4.cell? ⟨g, q * 11 + 5, none⟩ = some (.int .u64 t) := rg 5 _ rfl
      have c6 : w4.cell? ⟨g, q * 11 + 6, none⟩ = some (.int .u8 k) := rg 6 _ rfl
      have c7 : w4.cell? ⟨g, q * 11 + 7, none⟩ = some (.slice pa p.length pc) := rg 7 _ rfl
      have c8 : w4.cell? ⟨g, q * 11 + 8, none⟩ = some (.int .i64 n) := rg 8 _ rfl
      have c9 : w4.cell? ⟨g, q * 11 + 9, none⟩ = some (.string x) := rg 9 _ rfl
      have c10 : w4.cell? ⟨g, q * 11 + 10, none⟩ = some (.slice da ds.length dc) := rg 10 _ rfl
      have fz : ∀ o, w4.frozen? ⟨g, o, none⟩ = false := fun o => World.ownsRow.frozenAt E4 o
      have ES := Lib.hid (E.out.step hlt hB1 (u := u) (by rw [huc, ← HV.out]) (how.base (by have := E.out.bel.size; simp; omega)))
      clear hb hx0 hB1 huc how hxv E4 rg
      obtain ⟨⟨⟨⟨r9, i9⟩, s9⟩, ps9, uu9, t9, ⟨k9, n9, x9, p9, ds9⟩⟩, qa9, qc9, ua9, uc9, pa9, pc9, da9, dc9⟩ := u
      simp only [cwcells]
      go_wp2_with fail
      go_roundw
      case rel => exact ⟨q + 1, _, by omega, by go_num, ES.out⟩
      case measure => simp [intOf]; omega
    · have hqe : q = S.length := by omega
      subst hqe
      go_wp2_with fail
      go_ret
      refine ⟨some ⟨g, 0, none⟩, c, M, (by rw [E.out.len]; rfl), ?_, ?_, E.out.own, fun v hv => E.out.done v (by rw [← E.out.len, List.take_length]; exact hv), E.out.bel⟩
      · rw [E.out.same]; exact HP.out.map _
      · rw [E.out.same]; exact HS.out

end Go.Proofs.YtbeblbgbngplhaaGreat

/- GraW -/
namespace Go.Proofs.YtbeblbgbngplhaaGreat
open Go.RowKit
set_option linter.unusedVariables false
set_option linter.unusedSimpArgs false

end Go.Proofs.YtbeblbgbngplhaaGreat
