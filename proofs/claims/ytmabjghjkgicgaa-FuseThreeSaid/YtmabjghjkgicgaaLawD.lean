/- What the law FuseMerges knows behind its merge: memory of the merge's own, written over. -/
import Derived.Test.YtmabjghjkgicgaaLawB
import Derived.Test.YtmabjghjkgicgaaFuseK
import Derived.Test.YtmabjghjkgicgaaRefMP
namespace Go.Proofs.Ytmabjghjkgicgaa
open Go.RowKit
set_option linter.unusedVariables false
set_option linter.unusedSimpArgs false

/-- items, tombs in memory of one's own -/
def OwnL (w : World) (lo : Nat) (v : Lv) : Prop := (v.l.items ≠ [] → OwnI w lo v.ia v.ic v.l.items) ∧ (v.l.tombs ≠ [] → OwnD w lo v.ta v.tc v.l.tombs)
theorem OwnL.below {w w' : World} {lo : Nat} {v : Lv} (h : OwnL w lo v) (hb : Below w.heap.size w w') : OwnL w' lo v := ⟨fun h1 => (h.1 h1).below hb, fun h1 => (h.2 h1).below hb⟩
theorem OwnL.mono {w : World} {lo lo' : Nat} {v : Lv} (h : OwnL w lo v) (hl : lo' ≤ lo) : OwnL w lo' v := ⟨fun h1 => (h.1 h1).base hl, fun h1 => (h.2 h1).base hl⟩
theorem OwnL.nine {w : World} {lo p : Nat} {v : Lv} (h : OwnL w lo v) (hp : p < lo) (X : Lv) : OwnL (nineL w p X) lo v :=
  ⟨fun h1 => owns_chg (h.1 h1) (chg_lv w p X) (fun k hk hm => by have := (owns_lt (h.1 h1) k hk).1; simp at hm; omega),
   fun h1 => owns_chg (h.2 h1) (chg_lv w p X) (fun k hk hm => by have := (owns_lt (h.2 h1) k hk).1; simp at hm; omega)⟩
theorem Sl.empty {w w' : World} {size : Nat} {a : Option Addr} {c : Nat} (h : Sl w size a 0 c []) : Sl w' size a 0 c [] := by
  obtain ⟨g1, g2, g3, g4⟩ := h
  refine ⟨g1, g2, g3, ?_⟩
  rcases g4 with g4 | ⟨ad, ha, _⟩
  · exact .inl g4
  · exact .inr ⟨ad, ha, fun j u hj => by simp at hj⟩
/-- what is of one's own reads as it did, where it is held anew -/
theorem OwnL.at {w w' : World} {lo : Nat} {v : Lv} (ha : LvAt w v) (h : OwnL w' lo v) : LvAt w' v := by
  obtain ⟨⟨k, n, t, d, x, is, ts⟩, ia, ic, ta, tc⟩ := v
  refine ⟨?_, ?_, ha.li, ha.lt⟩
  · by_cases h1 : is = []
    · subst h1; exact Sl.empty ha.its
    · exact (h.1 h1).its
  · by_cases h1 : ts = []
    · subst h1; exact Sl.empty ha.tms
    · exact (h.2 h1).vec
theorem MergeTo.lv {w w' : World} {l a b : Lf} {e : Ending} (h : MergeTo w l a b e w') : ∃ (M : Lv) (code : Int), e = .returned (.tuple #[.agg #[.int .u8 M.l.k, .int .i64 M.l.n, .int .u64 M.l.t, .int .u8 M.l.d.1.1, .int .u32 M.l.d.1.2, .int .u64 M.l.d.2, .string M.l.x, .slice M.ia M.l.items.length M.ic, .slice M.ta M.l.tombs.length M.tc], .int .i64 code]) ∧ MergeR l a b code M.l ∧ LvAt w' M ∧ OwnL w' w.heap.size M ∧ Below w.heap.size w w' := by
  obtain ⟨ia, ic, ta, tc, m, code, h1, h2, h3⟩ := h
  exact ⟨⟨m, ia, ic, ta, tc⟩, code, h1, h2, h3.rd, ⟨h3.oi, h3.ot⟩, h3.bel⟩
theorem PurgeTo.lv {w w' : World} {l : Lf} {e : Ending} (h : PurgeTo w l e w') : ∃ (M : Lv) (code : Int), e = .returned (.tuple #[.agg #[.int .u8 M.l.k, .int .i64 M.l.n, .int .u64 M.l.t, .int .u8 M.l.d.1.1, .int .u32 M.l.d.1.2, .int .u64 M.l.d.2, .string M.l.x, .slice M.ia M.l.items.length M.ic, .slice M.ta M.l.tombs.length M.tc], .int .i64 code]) ∧ PurgeR l code M.l ∧ LvAt w' M ∧ OwnL w' w.heap.size M ∧ Below w.heap.size w w' := by
  obtain ⟨ia, ic, ta, tc, m, code, h1, h2, h3⟩ := h
  exact ⟨⟨m, ia, ic, ta, tc⟩, code, h1, h2, h3.rd, ⟨h3.oi, h3.ot⟩, h3.bel⟩
theorem RMergeTo.lv {w w' : World} {l a b : Lf} {e : Ending} (h : RMergeTo w l a b e w') : ∃ (M : Lv) (code : Int), e = .returned (.tuple #[.agg #[.int .u8 M.l.k, .int .i64 M.l.n, .int .u64 M.l.t, .int .u8 M.l.d.1.1, .int .u32 M.l.d.1.2, .int .u64 M.l.d.2, .string M.l.x, .slice M.ia M.l.items.length M.ic, .slice M.ta M.l.tombs.length M.tc], .int .i64 code]) ∧ MergeR l a b code M.l ∧ LvAt w' M ∧ Below w.heap.size w w' := by
  obtain ⟨ia, ic, ta, tc, m, code, h1, h2, h3, h4⟩ := h
  exact ⟨⟨m, ia, ic, ta, tc⟩, code, h1, h2, h3, h4⟩
theorem RPurgeTo.lv {w w' : World} {l : Lf} {e : Ending} (h : RPurgeTo w l e w') : ∃ (M : Lv) (code : Int), e = .returned (.tuple #[.agg #[.int .u8 M.l.k, .int .i64 M.l.n, .int .u64 M.l.t, .int .u8 M.l.d.1.1, .int .u32 M.l.d.1.2, .int .u64 M.l.d.2, .string M.l.x, .slice M.ia M.l.items.length M.ic, .slice M.ta M.l.tombs.length M.tc], .int .i64 code]) ∧ PurgeR l code M.l ∧ LvAt w' M ∧ Below w.heap.size w w' := by
  obtain ⟨ia, ic, ta, tc, m, code, h1, h2, h3, h4⟩ := h
  exact ⟨⟨m, ia, ic, ta, tc⟩, code, h1, h2, h3, h4⟩
/-- and m -/
structure E2 (w W0 W : World) (L A B X Y : Lv) (px py : Nat) (M : Lv) (pm : Nat) : Prop where
  e : E1 w W0 L A B X Y px py
  bel : Below W0.heap.size W0 W
  bm : LvBlk W pm M
  rd : LvAt W M
  own : OwnL W W0.heap.size M
theorem E2.step {w W0 W W' : World} {L A B X Y M : Lv} {px py pm : Nat} (h : E2 w W0 W L A B X Y px py M pm) (hb : Below W.heap.size W W') : E2 w W0 W' L A B X Y px py M pm :=
  ⟨h.e, below2 h.bel hb h.bel.size, h.bm.below hb, h.rd.below hb, h.own.below hb⟩
theorem E2.e1 {w W0 W : World} {L A B X Y M : Lv} {px py pm : Nat} (h : E2 w W0 W L A B X Y px py M pm) : E1 w W L A B X Y px py := h.e.step h.bel
def MTo (w W0 W : World) (L A B X Y : Lv) (px py : Nat) (vm ve : Value) : Prop := ∃ M pm code, vm = .pointer (some ⟨pm, 0, none⟩) ∧ ve = .int .i64 code ∧ MergeR L.l A.l B.l code M.l ∧ E2 w W0 W L A B X Y px py M pm
theorem m_new {w W0 wA W : World} {L A B X Y M : Lv} {px py : Nat} {code : Int} (hE : E1 w W0 L A B X Y px py) (h0 : Below W0.heap.size W0 wA) (hr : MergeR L.l A.l B.l code M.l) (rd : LvAt W M) (ow : OwnL W wA.heap.size M) (hb : Below wA.heap.size wA W) :
    MTo w W0 (aL W M) L A B X Y px py (.pointer (some ⟨W.heap.size, 0, none⟩)) (.int .i64 code) :=
  have hn : Below W.heap.size W (aL W M) := (Below.refl _ W).alloc (Nat.le_refl _) _
  have h1 := below2 h0 hb h0.size
  ⟨M, _, code, rfl, rfl, hr, hE, below2 h1 hn h1.size, heap_new _ _, rd.below hn, (ow.below hn).mono h0.size⟩
theorem m_old {w W0 wA W : World} {L A B X Y M : Lv} {px py pm : Nat} {code : Int} (hE : E1 w W0 L A B X Y px py) (h0 : Below W0.heap.size W0 wA) (hr : MergeR L.l A.l B.l code M.l) (rd : LvAt W M) (ow : OwnL W wA.heap.size M) (hb : Below wA.heap.size wA W)
    (hz : Zc W pm) (hp : W0.heap.size ≤ pm) (hp' : pm < wA.heap.size) :
    MTo w W0 (nineL W pm M) L A B X Y px py (.pointer (some ⟨pm, 0, none⟩)) (.int .i64 code) :=
  have h1 := below2 h0 hb h0.size
  have h2 := ow.nine hp' M
  ⟨M, _, code, rfl, rfl, hr, hE, below_lv h1 hp M, put_lv hz M, OwnL.at rd h2, h2.mono h0.size⟩

/-- the document's merge, the purge, the document's purge -/
structure T3 (w W0 W1 W : World) (L A B X Y : Lv) (px py : Nat) (M : Lv) (pm : Nat) (N : Lv) (pn : Nat) (P : Lv) (pp : Nat) (R : Lv) (pr : Nat) : Prop where
  e : E2 w W0 W1 L A B X Y px py M pm
  b1 : Below W1.heap.size W1 W
  bn : LvBlk W pn N
  an : LvAt W N
  bp : LvBlk W pp P
  ap : LvAt W P
  op : OwnL W W1.heap.size P
  br : LvBlk W pr R
  ar : LvAt W R
theorem T3.step {w W0 W1 W W' : World} {L A B X Y M N P R : Lv} {px py pm pn pp pr : Nat} (h : T3 w W0 W1 W L A B X Y px py M pm N pn P pp R pr) (hb : Below W.heap.size W W') : T3 w W0 W1 W' L A B X Y px py M pm N pn P pp R pr :=
  ⟨h.e, below2 h.b1 hb h.b1.size, h.bn.below hb, h.an.below hb, h.bp.below hb, h.ap.below hb, h.op.below hb, h.br.below hb, h.ar.below hb⟩
theorem T3.e2 {w W0 W1 W : World} {L A B X Y M N P R : Lv} {px py pm pn pp pr : Nat} (h : T3 w W0 W1 W L A B X Y px py M pm N pn P pp R pr) : E2 w W0 W L A B X Y px py M pm := h.e.step h.b1
/-- from the three calls -/
theorem T3.of {w W0 w5 w6 w7 : World} {L A B X Y M N P R : Lv} {px py pm : Nat} (h : E2 w W0 w5 L A B X Y px py M pm) (an : LvAt w5 N) (ap : LvAt w6 P) (op : OwnL w6 (aL w5 N).heap.size P) (h6 : Below (aL w5 N).heap.size (aL w5 N) w6) (ar : LvAt w7 R) (h7 : Below (aL w6 P).heap.size (aL w6 P) w7) :
    T3 w W0 (aL w5 N) (aL w7 R) L A B X Y px py M pm N w5.heap.size P w6.heap.size R w7.heap.size :=
  have n5 : Below w5.heap.size w5 (aL w5 N) := (Below.refl _ _).alloc (Nat.le_refl _) _
  have n6 : Below w6.heap.size w6 (aL w6 P) := (Below.refl _ _).alloc (Nat.le_refl _) _
  have n7 : Below w7.heap.size w7 (aL w7 R) := (Below.refl _ _).alloc (Nat.le_refl _) _
  have k6 := below2 (below2 n6 h7 n6.size) n7 (Nat.le_trans n6.size h7.size)
  have b5 : LvBlk (aL w5 N) w5.heap.size N := heap_new _ _
  have b6 : LvBlk (aL w6 P) w6.heap.size P := heap_new _ _
  ⟨h.step n5, below2 h6 k6 h6.size, (b5.below h6).below k6, ((an.below n5).below h6).below k6, (b6.below h7).below n7, ap.below k6, op.below k6, heap_new _ _, ar.below n7⟩
theorem T3.lp {w W0 W1 W : World} {L A B X Y M N P R : Lv} {px py pm pn pp pr : Nat} (h : T3 w W0 W1 W L A B X Y px py M pm N pn P pp R pr) : E2 w W0 W1 L A B X Y px py M pm ∧ Below W1.heap.size W1 W ∧ LvBlk W pp P ∧ OwnL W W1.heap.size P := ⟨h.e, h.b1, h.bp, h.op⟩

/-! written over -/
theorem icells_text (v : List It) (k : Nat) (y : ByteArray) (x : It) (hx : v[k]? = some x) : (icells v).set (k * 5 + 4) (.string y) = icells (v.set k { x with x := y }) := by
  induction v generalizing k with
  | nil => simp at hx
  | cons a v ih =>
    cases k with
    | zero =>
      simp at hx
      subst hx
      simp [icells, icell]
    | succ k =>
      have := ih k (by simpa using hx)
      simp only [icells, List.flatMap_cons, List.set_cons_succ] at this ⊢
      rw [← this]
      simp only [icell, List.cons_append, List.nil_append, show (k + 1) * 5 + 4 = k * 5 + 4 + 1 + 1 + 1 + 1 + 1 by omega, List.set_cons_succ]
theorem dcells_seq (v : List Dt) (k : Nat) (y : Int) (x : Dt) (hx : v[k]? = some x) : (dcells v).set (k * 3 + 2) (.int .u64 y) = dcells (v.set k (x.1, y)) := by
  induction v generalizing k with
  | nil => simp at hx
  | cons a v ih =>
    cases k with
    | zero =>
      simp at hx
      subst hx
      simp [dcells, dcell]
    | succ k =>
      have := ih k (by simpa using hx)
      simp only [dcells, List.flatMap_cons, List.set_cons_succ] at this ⊢
      rw [← this]
      simp only [dcell, List.cons_append, List.nil_append, show (k + 1) * 3 + 2 = k * 3 + 2 + 1 + 1 + 1 by omega, List.set_cons_succ]
/-- n items, dots of one's own, whatever they are -/
def AnyI (w : World) (lo : Nat) (a : Option Addr) (n c : Nat) : Prop := n ≠ 0 → ∃ u : List It, u.length = n ∧ OwnI w lo a c u
def AnyD (w : World) (lo : Nat) (a : Option Addr) (n c : Nat) : Prop := n ≠ 0 → ∃ u : List Dt, u.length = n ∧ OwnD w lo a c u
theorem AnyI.chg {w w' : World} {F : List Nat} {lo n c : Nat} {a : Option Addr} (h : AnyI w lo a n c) (hc : Chg F w w') (hF : n ≠ 0 → ∀ k ∈ ob a, k ∉ F) : AnyI w' lo a n c := fun hn => by
  obtain ⟨u, hu, ho⟩ := h hn
  exact ⟨u, hu, owns_chg ho hc (hF hn)⟩
theorem AnyD.chg {w w' : World} {F : List Nat} {lo n c : Nat} {a : Option Addr} (h : AnyD w lo a n c) (hc : Chg F w w') (hF : n ≠ 0 → ∀ k ∈ ob a, k ∉ F) : AnyD w' lo a n c := fun hn => by
  obtain ⟨u, hu, ho⟩ := h hn
  exact ⟨u, hu, owns_chg ho hc (hF hn)⟩
theorem AnyI.blk {w : World} {lo n c : Nat} {a : Option Addr} (h : AnyI w lo a n c) (hn : n ≠ 0) : ∃ g C, a = some ⟨g, 0, none⟩ ∧ lo ≤ g ∧ g < w.heap.size ∧ w.heap[g]? = some (.cells C 58 (0, 0)) := by
  obtain ⟨u, hu, h1, h2⟩ := h hn
  rcases h2 with ⟨h2, _⟩ | ⟨g, cap, cur, h2, hb, hg, _⟩
  · simp at h2; omega
  · simp at h2; exact ⟨g, _, h2.1, hb, heap_lt hg, hg⟩
theorem AnyD.blk {w : World} {lo n c : Nat} {a : Option Addr} (h : AnyD w lo a n c) (hn : n ≠ 0) : ∃ g C, a = some ⟨g, 0, none⟩ ∧ lo ≤ g ∧ g < w.heap.size ∧ w.heap[g]? = some (.cells C 31 (0, 0)) := by
  obtain ⟨u, hu, h1, h2⟩ := h hn
  rcases h2 with ⟨h2, _⟩ | ⟨g, cap, cur, h2, hb, hg, _⟩
  · simp at h2; omega
  · simp at h2; exact ⟨g, _, h2.1, hb, heap_lt hg, hg⟩
theorem AnyI.put {w : World} {lo n c g k : Nat} (h : AnyI w lo (some ⟨g, 0, none⟩) n c) (hk : k < n) (y : ByteArray) :
    w.frozen? ⟨g, k * 5 + 4, none⟩ = false ∧ (∃ x, w.cell? ⟨g, k * 5 + 4, none⟩ = some (.string x)) ∧ AnyI (w.setCell ⟨g, k * 5 + 4, none⟩ (.string y)) lo (some ⟨g, 0, none⟩) n c := by
  obtain ⟨u, hu, ho⟩ := h (by omega)
  obtain ⟨x, hx⟩ : ∃ x, u[k]? = some x := ⟨u[k], by simp [hu, hk]⟩
  refine ⟨World.ownsRow.frozenAt ho _, ?_, fun _ => ⟨u.set k { x with x := y }, by simp [hu], ?_⟩⟩
  · have h4 := World.ownsRow.cellAt (g := g) ho (k * 5 + 4) (by omega)
    have e4 := flatMap_at icell_len u k 4 x hx (by omega)
    exact ⟨x.x, h4.trans e4⟩
  · have h1 := (World.ownsRow.stored ho (k * 5 + 4) (.string y)).1
    rw [icells_text u k y x hx] at h1
    unfold OwnI
    rw [List.length_set]
    exact h1
theorem AnyD.put {w : World} {lo n c g k : Nat} (h : AnyD w lo (some ⟨g, 0, none⟩) n c) (hk : k < n) :
    w.frozen? ⟨g, k * 3 + 2, none⟩ = false ∧ (∃ x, w.cell? ⟨g, k * 3 + 2, none⟩ = some (.int .u64 x)) ∧ ∀ y, AnyD (w.setCell ⟨g, k * 3 + 2, none⟩ (.int .u64 y)) lo (some ⟨g, 0, none⟩) n c := by
  obtain ⟨u, hu, ho⟩ := h (by omega)
  obtain ⟨x, hx⟩ : ∃ x, u[k]? = some x := ⟨u[k], by simp [hu, hk]⟩
  refine ⟨World.ownsRow.frozenAt ho _, ?_, fun y _ => ⟨u.set k (x.1, y), by simp [hu], ?_⟩⟩
  · have h4 := World.ownsRow.cellAt (g := g) ho (k * 3 + 2) (by omega)
    have e4 := dcells_at hx 2 (by omega)
    exact ⟨x.2, h4.trans e4⟩
  · have h1 := (World.ownsRow.stored ho (k * 3 + 2) (.int .u64 y)).1
    rw [dcells_seq u k y x hx] at h1
    unfold OwnD
    rw [List.length_set]
    exact h1
/-- what the loops hold -/
structure Lp (w W0 W : World) (L A B X Y : Lv) (px py : Nat) (M : Lv) (pm : Nat) (P : Lv) (pp lo : Nat) : Prop where
  e : E1 w W0 L A B X Y px py
  bel : Below W0.heap.size W0 W
  bm : LvBlk W pm M
  bp : LvBlk W pp P
  mi : AnyI W W0.heap.size M.ia M.l.items.length M.ic
  mt : AnyD W W0.heap.size M.ta M.l.tombs.length M.tc
  pi : AnyI W lo P.ia P.l.items.length P.ic
  lo0 : W0.heap.size ≤ lo
  low : M.l.items.length ≠ 0 → ∀ k ∈ ob M.ia, k < lo
theorem Lp.e1 {w W0 W : World} {L A B X Y M P : Lv} {px py pm pp lo : Nat} (h : Lp w W0 W L A B X Y px py M pm P pp lo) : E1 w W L A B X Y px py := h.e.step h.bel
theorem blk_ne {w : World} {p q : Nat} {v : Lv} {C : Array Value} {t : TypeId} (h : LvBlk w p v) (hq : w.heap[q]? = some (.cells C t (0, 0))) (ht : t ≠ 40) : p ≠ q := by
  rintro rfl
  rw [h] at hq
  injection hq with hq
  injection hq with _ hq
  exact ht hq.symm
/-- m.Items[k].Text -/
theorem Lp.putM {w W0 W : World} {L A B X Y M P : Lv} {px py pm pp lo : Nat} (h : Lp w W0 W L A B X Y px py M pm P pp lo) {k : Nat} (hk : k < M.l.items.length) :
    ∃ g, M.ia = some ⟨g, 0, none⟩ ∧ W.frozen? ⟨g, k * 5 + 4, none⟩ = false ∧ (∃ x, W.cell? ⟨g, k * 5 + 4, none⟩ = some (.string x)) ∧ ∀ y, Lp w W0 (W.setCell ⟨g, k * 5 + 4, none⟩ (.string y)) L A B X Y px py M pm P pp lo := by
  obtain ⟨g, C, ha, hlo, hlt, hg⟩ := h.mi.blk (by omega)
  have hm := h.mi
  rw [ha] at hm
  have hlow : g < lo := h.low (by omega) g (by rw [ha]; simp [ob])
  refine ⟨g, ha, (hm.put hk ⟨#[]⟩).1, (hm.put hk ⟨#[]⟩).2.1, fun y => ?_⟩
  have hC := Chg.setCell W ⟨g, k * 5 + 4, none⟩ (.string y)
  refine ⟨h.e, h.bel.setCell hlo _, heap_chg h.bm hC (by have := blk_ne h.bm hg (by decide); simpa using this), heap_chg h.bp hC (by have := blk_ne h.bp hg (by decide); simpa using this), by rw [ha]; exact (hm.put hk y).2.2, h.mt.chg hC fun hn q hq => ?_, h.pi.chg hC fun hn q hq => ?_, h.lo0, h.low⟩
  · obtain ⟨g2, C2, ha2, _, _, hg2⟩ := h.mt.blk hn
    rw [ha2] at hq
    simp [ob] at hq
    subst hq
    simp
    rintro rfl
    rw [hg2] at hg
    injection hg with hg
    injection hg with _ hg
    exact absurd hg (by decide)
  · obtain ⟨g2, C2, ha2, hlo2, _, hg2⟩ := h.pi.blk hn
    rw [ha2] at hq
    simp [ob] at hq
    subst hq
    simp
    omega
/-- m.Tombs[k].Seq -/
theorem Lp.putT {w W0 W : World} {L A B X Y M P : Lv} {px py pm pp lo : Nat} (h : Lp w W0 W L A B X Y px py M pm P pp lo) {k : Nat} (hk : k < M.l.tombs.length) :
    ∃ g, M.ta = some ⟨g, 0, none⟩ ∧ W.frozen? ⟨g, k * 3 + 2, none⟩ = false ∧ (∃ x, W.cell? ⟨g, k * 3 + 2, none⟩ = some (.int .u64 x)) ∧ ∀ y, Lp w W0 (W.setCell ⟨g, k * 3 + 2, none⟩ (.int .u64 y)) L A B X Y px py M pm P pp lo := by
  obtain ⟨g, C, ha, hlo, hlt, hg⟩ := h.mt.blk (by omega)
  have hm := h.mt
  rw [ha] at hm
  refine ⟨g, ha, (hm.put hk).1, (hm.put hk).2.1, fun y => ?_⟩
  have hC := Chg.setCell W ⟨g, k * 3 + 2, none⟩ (.int .u64 y)
  refine ⟨h.e, h.bel.setCell hlo _, heap_chg h.bm hC (by have := blk_ne h.bm hg (by decide); simpa using this), heap_chg h.bp hC (by have := blk_ne h.bp hg (by decide); simpa using this), h.mi.chg hC fun hn q hq => ?_, by rw [ha]; exact (hm.put hk).2.2 y, h.pi.chg hC fun hn q hq => ?_, h.lo0, h.low⟩
  · obtain ⟨g2, C2, ha2, _, _, hg2⟩ := h.mi.blk hn
    rw [ha2] at hq
    simp [ob] at hq
    subst hq
    simp
    rintro rfl
    rw [hg2] at hg
    injection hg with hg
    injection hg with _ hg
    exact absurd hg (by decide)
  · obtain ⟨g2, C2, ha2, _, _, hg2⟩ := h.pi.blk hn
    rw [ha2] at hq
    simp [ob] at hq
    subst hq
    simp
    rintro rfl
    rw [hg2] at hg
    injection hg with hg
    injection hg with _ hg
    exact absurd hg (by decide)
/-- p.Items[k].Text -/
theorem Lp.putP {w W0 W : World} {L A B X Y M P : Lv} {px py pm pp lo : Nat} (h : Lp w W0 W L A B X Y px py M pm P pp lo) {k : Nat} (hk : k < P.l.items.length) :
    ∃ g, P.ia = some ⟨g, 0, none⟩ ∧ W.frozen? ⟨g, k * 5 + 4, none⟩ = false ∧ (∃ x, W.cell? ⟨g, k * 5 + 4, none⟩ = some (.string x)) ∧ ∀ y, Lp w W0 (W.setCell ⟨g, k * 5 + 4, none⟩ (.string y)) L A B X Y px py M pm P pp lo := by
  obtain ⟨g, C, ha, hlo, hlt, hg⟩ := h.pi.blk (by omega)
  have hm := h.pi
  rw [ha] at hm
  have h0 := h.lo0
  refine ⟨g, ha, (hm.put hk ⟨#[]⟩).1, (hm.put hk ⟨#[]⟩).2.1, fun y => ?_⟩
  have hC := Chg.setCell W ⟨g, k * 5 + 4, none⟩ (.string y)
  refine ⟨h.e, h.bel.setCell (by show _ ≤ g; omega) _, heap_chg h.bm hC (by have := blk_ne h.bm hg (by decide); simpa using this), heap_chg h.bp hC (by have := blk_ne h.bp hg (by decide); simpa using this), h.mi.chg hC fun hn q hq => ?_, h.mt.chg hC fun hn q hq => ?_, by rw [ha]; exact (hm.put hk y).2.2, h.lo0, h.low⟩
  · have := h.low hn q hq
    simp
    omega
  · obtain ⟨g2, C2, ha2, _, _, hg2⟩ := h.mt.blk hn
    rw [ha2] at hq
    simp [ob] at hq
    subst hq
    simp
    rintro rfl
    rw [hg2] at hg
    injection hg with hg
    injection hg with _ hg
    exact absurd hg (by decide)
/-- from the merge and the purge -/
theorem Lp.of {w W0 W1 W : World} {L A B X Y M P : Lv} {px py pm pp : Nat} (h : E2 w W0 W1 L A B X Y px py M pm) (hb : Below W1.heap.size W1 W) (hp : LvBlk W pp P) (ho : OwnL W W1.heap.size P) : Lp w W0 W L A B X Y px py M pm P pp W1.heap.size where
  e := h.e
  bel := below2 h.bel hb h.bel.size
  bm := h.bm.below hb
  bp := hp
  mi := fun hn => ⟨_, rfl, (h.own.1 (fun e => hn (by rw [e]; rfl))).below hb⟩
  mt := fun hn => ⟨_, rfl, (h.own.2 (fun e => hn (by rw [e]; rfl))).below hb⟩
  pi := fun hn => ⟨_, rfl, ho.1 (fun e => hn (by rw [e]; rfl))⟩
  lo0 := h.bel.size
  low := fun hn k hk => (owns_lt (h.own.1 (fun e => hn (by rw [e]; rfl))) k hk).2
end Go.Proofs.Ytmabjghjkgicgaa
