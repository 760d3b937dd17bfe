/- What batch.Few tells may be written over. | batch.Undone; both answers of Few in one form. | The page's example holds (varvelaw39.known). -/
import Derived.Test.YtmabjghjkgicgaaGreatROpE
/- BatU -/
namespace Go.Proofs.YtmabjghjkgicgaaGreat
open Go.RowKit
set_option linter.unusedVariables false
set_option linter.unusedSimpArgs false

/-- n strings of one's own, whatever they are -/
def AnyS (w : World) (lo : Nat) (a : Option Addr) (n c : Nat) : Prop := n ≠ 0 → ∃ u : List ByteArray, u.length = n ∧ OwnS w lo a c u
theorem owns_form {w : World} {base : Nat} {e : TypeId} {size : Nat} {a : Option Addr} {n c m : Nat} {xs : List Value} (h : w.ownsRow base e size (.slice a n c) m xs) (hm : m ≠ 0) : ∃ g, a = some ⟨g, 0, none⟩ ∧ base ≤ g ∧ g < w.heap.size := by
  rcases h.2 with ⟨h2, h3⟩ | ⟨g, cap, cur, h2, hb, hg, _⟩
  · simp at h2; omega
  · simp at h2; exact ⟨g, h2.1, hb, heap_lt hg⟩
theorem dcells_seq39 (v : List Dt) (k : Nat) (y : Int) (x : Dt) (hx : v[k]? = some x) : (dcells v).set (k * 3 + 2) (.int .u64 y) = dcells (v.set k (x.1, y)) := by
  induction v generalizing k with
  | nil => simp at hx
  | cons a v ih =>
    cases k with
    | zero =>
      simp at hx
      subst hx
      simp [dcells, dcell]
    | succ k =>
      have := ih k (by simpa using hx)
      simp only [dcells, List.flatMap_cons, List.set_cons_succ] at this ⊢
      rw [← this]
      simp only [dcell, List.cons_append, List.nil_append, show (k + 1) * 3 + 2 = k * 3 + 2 + 1 + 1 + 1 by omega, List.set_cons_succ]
/-- n dots of one's own, whatever they are -/
def AnyT (w : World) (lo : Nat) (a : Option Addr) (n c : Nat) : Prop := n ≠ 0 → ∃ u : List Dt, u.length = n ∧ OwnD w lo a c u
theorem AnyT.chg {w w' : World} {F : List Nat} {lo n c : Nat} {a : Option Addr} (h : AnyT w lo a n c) (hc : Chg F w w') (hF : n ≠ 0 → ∀ k ∈ ob a, k ∉ F) : AnyT w' lo a n c := fun hn => by
  obtain ⟨u, hu, ho⟩ := h hn
  exact ⟨u, hu, owns_chg ho hc (hF hn)⟩
theorem AnyT.put {w : World} {lo n c g k : Nat} (h : AnyT w lo (some ⟨g, 0, none⟩) n c) (hk : k < n) :
    w.frozen? ⟨g, k * 3 + 2, none⟩ = false ∧ (∃ x, w.cell? ⟨g, k * 3 + 2, none⟩ = some (.int .u64 x)) ∧ ∀ y, AnyT (w.setCell ⟨g, k * 3 + 2, none⟩ (.int .u64 y)) lo (some ⟨g, 0, none⟩) n c := by
  obtain ⟨u, hu, ho⟩ := h (by omega)
  obtain ⟨x, hx⟩ : ∃ x, u[k]? = some x := ⟨u[k], by simp [hu, hk]⟩
  refine ⟨World.ownsRow.frozenAt ho _, ?_, fun y _ => ⟨u.set k (x.1, y), by simp [hu], ?_⟩⟩
  · have h4 := World.ownsRow.cellAt (g := g) ho (k * 3 + 2) (by omega)
    have e4 := dcells_at hx 2 (by omega)
    exact ⟨x.2, h4.trans e4⟩
  · have h1 := (World.ownsRow.stored ho (k * 3 + 2) (.int .u64 y)).1
    rw [dcells_seq39 u k y x hx] at h1
    unfold OwnD
    rw [List.length_set]
    exact h1
theorem AnyS.form {w : World} {lo n c : Nat} {a : Option Addr} (h : AnyS w lo a n c) (hn : n ≠ 0) : ∃ g, a = some ⟨g, 0, none⟩ ∧ lo ≤ g ∧ g < w.heap.size := by
  obtain ⟨u, hu, ho⟩ := h hn
  exact owns_form ho (by omega)
theorem AnyT.form {w : World} {lo n c : Nat} {a : Option Addr} (h : AnyT w lo a n c) (hn : n ≠ 0) : ∃ g, a = some ⟨g, 0, none⟩ ∧ lo ≤ g ∧ g < w.heap.size := by
  obtain ⟨u, hu, ho⟩ := h hn
  exact owns_form ho (by omega)
theorem AnyS.chg {w w' : World} {F : List Nat} {lo n c : Nat} {a : Option Addr} (h : AnyS w lo a n c) (hc : Chg F w w') (hF : n ≠ 0 → ∀ k ∈ ob a, k ∉ F) : AnyS w' lo a n c := fun hn => by
  obtain ⟨u, hu, ho⟩ := h hn
  exact ⟨u, hu, owns_chg ho hc (hF hn)⟩
theorem scells_set (u : List ByteArray) (k : Nat) (y : ByteArray) : (scells u).set k (.string y) = scells (u.set k y) := by
  simp [scells, List.map_set]
theorem AnyS.set {w : World} {lo n c : Nat} {a : Option Addr} (h : AnyS w lo a n c) (g k : Nat) (y : ByteArray) : AnyS (w.setCell ⟨g, k, none⟩ (.string y)) lo a n c := fun hn => by
  obtain ⟨u, hu, ho⟩ := h hn
  obtain ⟨g', rfl, _, _⟩ := owns_form ho (by omega)
  by_cases e : g' = g
  · subst e
    have h1 := (World.ownsRow.stored ho k (.string y)).1
    rw [scells_set] at h1
    exact ⟨u.set k y, by simpa using hu, by unfold OwnS; rw [List.length_set]; exact h1⟩
  · exact ⟨u, hu, owns_chg (F := [g]) ho (Chg.setCell w ⟨g, k, none⟩ _) (fun q hq hm => by simp [ob] at hq hm; omega)⟩
theorem AnyT.set {w : World} {lo n c : Nat} {a : Option Addr} (h : AnyT w lo a n c) (g k : Nat) (y : Int) : AnyT (w.setCell ⟨g, k * 3 + 2, none⟩ (.int .u64 y)) lo a n c := fun hn => by
  obtain ⟨u, hu, ho⟩ := h hn
  obtain ⟨g', rfl, _, _⟩ := owns_form ho (by omega)
  by_cases e : g' = g
  · subst e
    by_cases hk : k < n
    · exact (h.put hk).2.2 y hn
    · have h1 := (World.ownsRow.stored ho (k * 3 + 2) (.int .u64 y)).1
      rw [List.set_eq_of_length_le (by rw [dcells_length]; omega)] at h1
      exact ⟨u, hu, h1⟩
  · exact ⟨u, hu, owns_chg (F := [g]) ho (Chg.setCell w ⟨g, k * 3 + 2, none⟩ _) (fun q hq hm => by simp [ob] at hq hm; omega)⟩
/-- what the law's loops hold -/
structure WO (B hi : Nat) (w3 wr : World) (xa : Option Addr) (xc : Nat) (X : List Ow) : Prop where
  own : OwnO wr B xa xc X
  ps : ∀ v ∈ X, AnyS wr B v.pa v.o.p.length v.pc
  ds : ∀ v ∈ X, AnyT wr B v.da v.o.ds.length v.dc
  lp : ∀ v ∈ X, v.o.p.length ≠ 0 → ∀ k ∈ ob v.pa, B ≤ k ∧ k < hi
  ld : ∀ v ∈ X, v.o.ds.length ≠ 0 → ∀ k ∈ ob v.da, B ≤ k ∧ k < hi
  chg : ∃ F, Chg F w3 wr ∧ ∀ k ∈ F, B ≤ k ∧ k < hi
theorem WO.start {B : Nat} {w1 w3 : World} {xa : Option Addr} {xc : Nat} {X : List Ow} (ho : OwnO w1 B xa xc X) (he : ∀ v ∈ X, QV w1 B v) (hb : Below w1.heap.size w1 w3) : WO B w1.heap.size w3 w3 xa xc X :=
  ⟨ho.below hb, fun v hv _ => ⟨_, rfl, ((he v hv).below hb).pt⟩, fun v hv _ => ⟨_, rfl, ((he v hv).below hb).ds⟩, fun v hv _ => owns_lt (he v hv).pt, fun v hv _ => owns_lt (he v hv).ds, ⟨[], Chg.refl _ _, fun k hk => (by cases hk)⟩⟩
theorem WO.at {B hi : Nat} {w3 wr : World} {g xc : Nat} {X : List Ow} (h : WO B hi w3 wr (some ⟨g, 0, none⟩) xc X) {k : Nat} {v : Ow} (hv : X[k]? = some v) :
    wr.cell? ⟨g, k * 5 + 1, none⟩ = some (.slice v.pa v.o.p.length v.pc) ∧ wr.cell? ⟨g, k * 5 + 4, none⟩ = some (.slice v.da v.o.ds.length v.dc) := by
  have hk := (List.getElem?_eq_some_iff.1 hv).1
  have h1 := World.ownsRow.cellAt (g := g) h.own (k * 5 + 1) (by omega)
  have h4 := World.ownsRow.cellAt (g := g) h.own (k * 5 + 4) (by omega)
  exact ⟨h1.trans (opcells_at hv 1 (by omega)), h4.trans (opcells_at hv 4 (by omega))⟩
theorem WO.path {B hi : Nat} {w3 wr : World} {xa : Option Addr} {xc : Nat} {X : List Ow} (h : WO B hi w3 wr xa xc X) {v : Ow} (hv : v ∈ X) (hn : v.o.p.length ≠ 0) (y : ByteArray) :
    ∃ g, v.pa = some ⟨g, 0, none⟩ ∧ wr.frozen? ⟨g, 0, none⟩ = false ∧ (∃ x, wr.cell? ⟨g, 0, none⟩ = some (.string x)) ∧ g < wr.heap.size ∧ WO B hi w3 (wr.setCell ⟨g, 0, none⟩ (.string y)) xa xc X := by
  obtain ⟨g, hg, hlo, hlt⟩ := (h.ps v hv).form hn
  obtain ⟨u, hu, ho⟩ := h.ps v hv hn
  rw [hg] at ho
  have hC : Chg [g] wr (wr.setCell ⟨g, 0, none⟩ (.string y)) := Chg.setCell wr ⟨g, 0, none⟩ _
  obtain ⟨F, hF, hF2⟩ := h.chg
  refine ⟨g, hg, World.ownsRow.frozenAt ho _, ?_, hlt, ⟨?_, ?_, ?_, h.lp, h.ld, ⟨g :: F, (hF.mono (G := g :: F) (fun x hx _ => List.mem_cons_of_mem _ hx)).trans (hC.mono (G := g :: F) (fun x hx _ => by simp at hx; simp [hx])) (fun x hx _ => hx), ?_⟩⟩⟩
  · have h4 := World.ownsRow.cellAt (g := g) ho 0 (by omega)
    obtain ⟨x, hx⟩ : ∃ x, u[0]? = some x := ⟨u[0]'(by omega), by simp⟩
    exact ⟨x, h4.trans (by simp [scells, hx])⟩
  · exact owns_chg h.own hC (fun k hk hm => owns_ne h.own ho (by decide) k hk (by simpa [ob] using hm))
  · exact fun q hq => (h.ps q hq).set g 0 y
  · exact fun q hq => (h.ds q hq).chg hC (fun hn' k hk hm => by
      obtain ⟨z, hz, hoz⟩ := h.ds q hq hn'
      exact owns_ne hoz ho (by decide) k hk (by simpa [ob] using hm))
  · intro k hk
    rcases List.mem_cons.1 hk with rfl | hk
    · exact h.lp v hv hn _ (by rw [hg]; simp [ob])
    · exact hF2 k hk
theorem WO.below {B hi : Nat} {w3 wr : World} {xa : Option Addr} {xc : Nat} {X : List Ow} (h : WO B hi w3 wr xa xc X) {lo : Nat} (hl : lo ≤ B) (hw : lo ≤ w3.heap.size) : Below lo w3 wr := by
  obtain ⟨F, hF, hF2⟩ := h.chg
  exact hF.below hw (fun k hk => Nat.le_trans hl (hF2 k hk).1)
end Go.Proofs.YtmabjghjkgicgaaGreat

/- BatV -/
namespace Go.Proofs.YtmabjghjkgicgaaGreat
open Go.RowKit
set_option linter.unusedVariables false
set_option linter.unusedSimpArgs false

theorem FewL.len {L l L' : List Opn} (h : FewL L l L') : L'.length ≤ L.length + l.length := by
  induction l generalizing L with
  | nil => rw [show L' = L from h]; simp
  | cons o l ih =>
    obtain ⟨M, h1, h2⟩ := h
    have := ih h2
    have := h1.len
    simp; omega
/-- what Few answers: an error's number, and operations -/
def FewP (l : List Opn) (c : Int) (L : List Opn) : Prop := (¬ (∀ o ∈ l, MayO o) ∧ c = 2 ∧ L = []) ∨ ((∀ o ∈ l, MayO o) ∧ c = 0 ∧ FewL [] l L)
theorem FewP.uniq {l L M : List Opn} {c d : Int} (h : FewP l c L) (k : FewP l d M) : d = c ∧ M = L := by
  rcases h with ⟨h1, rfl, rfl⟩ | ⟨h1, rfl, h2⟩ <;> rcases k with ⟨k1, rfl, rfl⟩ | ⟨k1, rfl, k2⟩
  · exact ⟨rfl, rfl⟩
  · exact absurd k1 h1
  · exact absurd h1 k1
  · exact ⟨rfl, k2.uniq h2⟩
theorem FewP.len {l L : List Opn} {c : Int} (h : FewP l c L) : L.length ≤ l.length := by
  rcases h with ⟨_, _, rfl⟩ | ⟨_, _, h⟩
  · simp
  · have := h.len; simpa using this
theorem FewP.code {l L : List Opn} {c : Int} (h : FewP l c L) : c = 0 ∨ c = 2 := by
  rcases h with ⟨_, h, _⟩ | ⟨_, h, _⟩
  · exact .inr h
  · exact .inl h
theorem all_map {l : List Ow} : (∀ v ∈ l, MayO v.o) ↔ ∀ o ∈ l.map (·.o), MayO o := by simp
theorem FewTo.form {w w' : World} {l : List Ow} {e : Ending} (h : FewTo w l e w') :
    ∃ a c V k, e = .returned (.tuple #[.slice a (List.length V) c, .int .i64 k]) ∧ FewP (l.map (·.o)) k (V.map (·.o)) ∧ OwnO w' w.heap.size a c V ∧ (∀ v ∈ V, QV w' w.heap.size v) ∧ Below w.heap.size w w' := by
  rcases h with ⟨h1, rfl, hb⟩ | ⟨h1, a, c, V, rfl, hF, ho, hq, hb⟩
  · exact ⟨none, 0, [], 2, rfl, .inl ⟨fun k => h1 (all_map.2 k), rfl, rfl⟩, OwnO.nil _ _, fun v hv => (by cases hv), hb⟩
  · exact ⟨a, c, V, 0, rfl, .inr ⟨all_map.1 h1, rfl, hF⟩, ho, hq, hb⟩
theorem RFewTo.form {w0 w w' : World} {l : List Ow} {e : Ending} (hl : w0.heap.size ≤ w.heap.size) (h : RFewTo w0 w l e w') :
    ∃ a c V k, e = .returned (.tuple #[.slice a (List.length V) c, .int .i64 k]) ∧ FewP (l.map (·.o)) k (V.map (·.o)) ∧ RQ w0 w w' a c V := by
  rcases h with ⟨h1, rfl, hb⟩ | ⟨h1, a, c, V, rfl, hF, hq⟩
  · exact ⟨none, 0, [], 2, rfl, .inl ⟨fun k => h1 (all_map.2 k), rfl, rfl⟩, RQ.none_ hb hl⟩
  · exact ⟨a, c, V, 0, rfl, .inr ⟨all_map.1 h1, rfl, hF⟩, hq⟩
end Go.Proofs.YtmabjghjkgicgaaGreat

/- BatW -/
namespace Go.Proofs.YtmabjghjkgicgaaGreat
open Go.RowKit
set_option linter.unusedVariables false
set_option linter.unusedSimpArgs false

theorem ops_sl {W : World} {a : Option Addr} {c : Nat} {V : List Ow} (h : Sl W 5 a V.length c (opcells V)) (hv : ∀ v ∈ V, OwAt W v) : Ops W a c V := by
  obtain ⟨h1, h2, h3, h4⟩ := h
  refine ⟨rfl, h2, h3, fun e => ?_, fun i y hy => ?_⟩
  · rcases h4 with ⟨_, h5, h6⟩ | ⟨b, hb, _⟩
    · exact ⟨h5, h6⟩
    · rw [e] at hb; cases hb
  · have hi : i < V.length := (List.getElem?_eq_some_iff.1 hy).1
    rcases h4 with ⟨_, h5, _⟩ | ⟨b, rfl, hc⟩
    · omega
    · refine ⟨b, (owcells y).toList, rfl, rfl, fun j hj => ?_, rfl, hv y (List.mem_of_getElem? hy)⟩
      have hj5 : (owcells y).toList[j]? = some ((owcells y).toList[j]'(by simpa [owcells, ocells] using hj)) := by simp
      rw [hj5]
      refine hc _ _ ?_
      rw [opcells_at hy j hj, hj5]
def kp (c : UInt8) : ByteArray := ⟨#[c]⟩
abbrev ko (k n : Int) (x : ByteArray) (c : UInt8) : Opn := ⟨k, n, x, [kp c], []⟩
abbrev kq (k n : Int) (x : ByteArray) (c : UInt8) (b : Nat) : Ow := ⟨ko k n x c, some ⟨b, 0, none⟩, 1, none, 0⟩
theorem nameP_kp (c : UInt8) (h : alN c.toNat) : NameP (kp c) := ⟨Nat.le_refl 1, by show 1 ≤ 12; decide, fun j hj => by
  obtain rfl : j = 0 := by have : j < 1 := hj; omega
  exact h⟩
theorem pathP_kp (c : UInt8) (h : alN c.toNat) : PathP [kp c] := ⟨by simp, by simp, fun s hs => by simp at hs; subst hs; exact nameP_kp c h⟩
theorem mayO_add (n : Int) (c : UInt8) (h : alN c.toNat) (h1 : -1000000 ≤ n) (h2 : n ≤ 1000000) : MayO (ko 1 n ⟨#[]⟩ c) :=
  ⟨by show typeOf 1 ≠ 0; decide, pathP_kp c h, by show 0 ≤ 40; decide, by simp, fun _ => ⟨h1, h2, rfl, rfl⟩, fun h => absurd rfl h⟩
theorem mayO_set (d c : UInt8) (h : alN c.toNat) : MayO (ko 2 0 (kp d) c) :=
  ⟨by show typeOf 2 ≠ 0; decide, pathP_kp c h, by show 1 ≤ 40; decide, by simp, fun h => absurd h (by show ¬ (2 : Int) = 1; decide), fun _ => ⟨rfl, fun _ => rfl, by unfold AllT; simp [upTo]⟩⟩
theorem al97 : alN (97 : UInt8).toNat := by unfold alN; decide
theorem al98 : alN (98 : UInt8).toNat := by unfold alN; decide
def kl : List Opn := [ko 1 2 ⟨#[]⟩ 97, ko 2 0 (kp 117) 98, ko 1 3 ⟨#[]⟩ 97, ko 2 0 (kp 118) 98]
def km : List Opn := [ko 1 5 ⟨#[]⟩ 97, ko 2 0 (kp 118) 98]
theorem kl_may : ∀ o ∈ kl, MayO o := by
  intro o ho
  simp only [kl, List.mem_cons, List.not_mem_nil, or_false] at ho
  rcases ho with rfl | rfl | rfl | rfl
  · exact mayO_add 2 97 al97 (by decide) (by decide)
  · exact mayO_set 117 98 al98
  · exact mayO_add 3 97 al97 (by decide) (by decide)
  · exact mayO_set 118 98 al98
theorem km_may : ∀ o ∈ km, MayO o := by
  intro o ho
  simp only [km, List.mem_cons, List.not_mem_nil, or_false] at ho
  rcases ho with rfl | rfl
  · exact mayO_add 5 97 al97 (by decide) (by decide)
  · exact mayO_set 118 98 al98
theorem kl_few : FewL [] kl km := by
  refine ⟨[ko 1 2 ⟨#[]⟩ 97], .inl ⟨rfl, .inr ⟨by simp, rfl⟩⟩, [ko 1 2 ⟨#[]⟩ 97, ko 2 0 (kp 117) 98], .inr (.inl ⟨rfl, .inr ⟨?_, rfl⟩⟩), [ko 1 5 ⟨#[]⟩ 97, ko 2 0 (kp 117) 98], .inl ⟨rfl, .inl ⟨0, ko 1 2 ⟨#[]⟩ 97, rfl, ⟨rfl, rfl, by decide, by decide⟩, by simp, rfl⟩⟩, km, .inr (.inl ⟨rfl, .inl ⟨1, ko 2 0 (kp 117) 98, rfl, ⟨rfl, rfl⟩, ?_, rfl⟩⟩), rfl⟩
  · intro x hx hm
    simp only [List.mem_cons, List.not_mem_nil, or_false] at hx
    subst hx
    exact absurd hm.1 (by decide)
  · intro x hx hm
    simp only [List.take_succ_cons, List.take_zero, List.mem_cons, List.not_mem_nil, or_false] at hx
    subst hx
    exact absurd hm.1 (by decide)
/-- the two paths -/
structure KE (w W : World) : Prop where
  b0 : W.heap[w.heap.size]? = some (.cells #[.string ⟨#[97]⟩] 9 (0, 0))
  b1 : W.heap[w.heap.size + 1]? = some (.cells #[.string ⟨#[98]⟩] 9 (0, 0))
  bel : Below w.heap.size w W
theorem KE.of {w W : World} (hb : Below ((w.alloc (.cells #[.string ⟨#[97]⟩] 9 (0, 0))).alloc (.cells #[.string ⟨#[98]⟩] 9 (0, 0))).heap.size ((w.alloc (.cells #[.string ⟨#[97]⟩] 9 (0, 0))).alloc (.cells #[.string ⟨#[98]⟩] 9 (0, 0))) W) : KE w W :=
  ⟨(new2 hb).1, (new2 hb).2.1, (new2 hb).2.2.2⟩
theorem KE.step {w W W' : World} (h : KE w W) (hb : Below W.heap.size W W') : KE w W' :=
  ⟨(hb.block _ (heap_lt h.b0)).trans h.b0, (hb.block _ (heap_lt h.b1)).trans h.b1, below2 h.bel hb h.bel.size⟩
theorem KE.at0 {w W : World} (h : KE w W) (k n : Int) (x : ByteArray) : OwAt W (kq k n x 97 w.heap.size) :=
  ⟨Sl.blk (C := #[.string ⟨#[97]⟩]) h.b0 rfl (by show 1 ≤ maxLen; unfold maxLen; omega), Sl.nil _ _, fun d hd => by simp at hd⟩
theorem KE.at1 {w W : World} (h : KE w W) (k n : Int) (x : ByteArray) : OwAt W (kq k n x 98 (w.heap.size + 1)) :=
  ⟨Sl.blk (C := #[.string ⟨#[98]⟩]) h.b1 rfl (by show 1 ≤ maxLen; unfold maxLen; omega), Sl.nil _ _, fun d hd => by simp at hd⟩
def kL (b : Nat) : List Ow := [kq 1 2 ⟨#[]⟩ 97 b, kq 2 0 (kp 117) 98 (b + 1), kq 1 3 ⟨#[]⟩ 97 b, kq 2 0 (kp 118) 98 (b + 1)]
def kM (b : Nat) : List Ow := [kq 1 5 ⟨#[]⟩ 97 b, kq 2 0 (kp 118) 98 (b + 1)]
theorem KE.opsL {w W : World} (h : KE w W) {g : Nat} {C : Array Value} (hg : W.heap[g]? = some (.cells C 59 (0, 0))) (hC : C.toList = opcells (kL w.heap.size)) : Ops W (some ⟨g, 0, none⟩) 4 (kL w.heap.size) := by
  refine ops_sl (V := kL w.heap.size) ?_ ?_
  · have := Sl.blk (n := 4) (size := 5) hg (by rw [← Array.length_toList, hC]; rfl) (by decide)
    rw [hC] at this; exact this
  · intro v hv
    simp only [kL, List.mem_cons, List.not_mem_nil, or_false] at hv
    rcases hv with rfl | rfl | rfl | rfl
    · exact h.at0 _ _ _
    · exact h.at1 _ _ _
    · exact h.at0 _ _ _
    · exact h.at1 _ _ _
theorem KE.opsM {w W : World} (h : KE w W) {g : Nat} {C : Array Value} (hg : W.heap[g]? = some (.cells C 59 (0, 0))) (hC : C.toList = opcells (kM w.heap.size)) : Ops W (some ⟨g, 0, none⟩) 2 (kM w.heap.size) := by
  refine ops_sl (V := kM w.heap.size) ?_ ?_
  · have := Sl.blk (n := 2) (size := 5) hg (by rw [← Array.length_toList, hC]; rfl) (by decide)
    rw [hC] at this; exact this
  · intro v hv
    simp only [kM, List.mem_cons, List.not_mem_nil, or_false] at hv
    rcases hv with rfl | rfl
    · exact h.at0 _ _ _
    · exact h.at1 _ _ _
set_option maxRecDepth 100000 in
set_option maxHeartbeats 400000 in
theorem known39_any (w : World) : Calls Tryz.prog 8 #[] w fun e w' => e = .returned (.bool true) ∧ Below w.heap.size w w' := by
  go_enter Tryz.func8, Tryz.ntmps8
  go_wp2_with fail
  refine (few_any (some ⟨w.heap.size + 1 + 1, 0, none⟩) 4 (kL w.heap.size) _ ?h (by show 4 ≤ 1000000; decide)).mono ?_
  case h =>
    obtain ⟨g0, g1, g2, _, hb⟩ := new3 (Below.refl _ (((w.alloc (.cells #[.string ⟨#[97]⟩] 9)).alloc (.cells #[.string ⟨#[98]⟩] 9)).alloc (.cells #[.int .u8 1, .slice (some ⟨w.heap.size, 0, none⟩) 1 1, .int .i64 2, .string ⟨#[]⟩, .slice none 0 0, .int .u8 2, .slice (some ⟨w.heap.size + 1, 0, none⟩) 1 1, .int .i64 0, .string ⟨#[117]⟩, .slice none 0 0, .int .u8 1, .slice (some ⟨w.heap.size, 0, none⟩) 1 1, .int .i64 3, .string ⟨#[]⟩, .slice none 0 0, .int .u8 2, .slice (some ⟨w.heap.size + 1, 0, none⟩) 1 1, .int .i64 0, .string ⟨#[118]⟩, .slice none 0 0] 59)))
    exact (⟨g0, g1, hb⟩ : KE w _).opsL g2 rfl
  have E : Hid (KE w (((w.alloc (.cells #[.string ⟨#[97]⟩] 9)).alloc (.cells #[.string ⟨#[98]⟩] 9)).alloc (.cells #[.int .u8 1, .slice (some ⟨w.heap.size, 0, none⟩) 1 1, .int .i64 2, .string ⟨#[]⟩, .slice none 0 0, .int .u8 2, .slice (some ⟨w.heap.size + 1, 0, none⟩) 1 1, .int .i64 0, .string ⟨#[117]⟩, .slice none 0 0, .int .u8 1, .slice (some ⟨w.heap.size, 0, none⟩) 1 1, .int .i64 3, .string ⟨#[]⟩, .slice none 0 0, .int .u8 2, .slice (some ⟨w.heap.size + 1, 0, none⟩) 1 1, .int .i64 0, .string ⟨#[118]⟩, .slice none 0 0] 59))) := by
    obtain ⟨g0, g1, g2, _, hb⟩ := new3 (Below.refl _ (((w.alloc (.cells #[.string ⟨#[97]⟩] 9)).alloc (.cells #[.string ⟨#[98]⟩] 9)).alloc (.cells #[.int .u8 1, .slice (some ⟨w.heap.size, 0, none⟩) 1 1, .int .i64 2, .string ⟨#[]⟩, .slice none 0 0, .int .u8 2, .slice (some ⟨w.heap.size + 1, 0, none⟩) 1 1, .int .i64 0, .string ⟨#[117]⟩, .slice none 0 0, .int .u8 1, .slice (some ⟨w.heap.size, 0, none⟩) 1 1, .int .i64 3, .string ⟨#[]⟩, .slice none 0 0, .int .u8 2, .slice (some ⟨w.heap.size + 1, 0, none⟩) 1 1, .int .i64 0, .string ⟨#[118]⟩, .slice none 0 0] 59)))
    exact Lib.hid ⟨g0, g1, hb⟩
  intro e w1 hto
  obtain ⟨xa, xc, X, k, rfl, hF, ho, hq, hb⟩ := hto.form
  have hun := hF.uniq (.inr ⟨kl_may, rfl, kl_few⟩ : FewP kl 0 km)
  obtain ⟨rfl, hX⟩ := hun
  have HX := Lib.hid hX
  have E := Lib.hid (E.out.step hb)
  have Ho := Lib.hid ho
  have Hq := Lib.hid hq
  have hXl : X.length = 2 := by have := congrArg List.length hX; simpa [km] using this.symm
  have hX2 : X.length ≤ 1000000 := by omega
  have HXl := Lib.hid hXl
  clear hto hF ho hq hb hX hXl
  go_wp2_with fail
  have hbN : Below w1.heap.size w1 (w1.alloc (.cells #[.int .u8 1, .slice (some ⟨w.heap.size, 0, none⟩) 1 1, .int .i64 5, .string ⟨#[]⟩, .slice none 0 0, .int .u8 2, .slice (some ⟨w.heap.size + 1, 0, none⟩) 1 1, .int .i64 0, .string ⟨#[118]⟩, .slice none 0 0] 59)) := (Below.refl _ _).alloc (Nat.le_refl _) _
  have HbN := Lib.hid hbN
  clear hbN
  refine (rsameOs_any xa (some ⟨w1.heap.size, 0, none⟩) xc 2 X (kM w.heap.size) _ ?h1 ?h2 hX2 (by show 2 ≤ 1000000; decide) ?h3 ?h4).mono ?_
  case h1 => exact (ops_of (Ho.out.below HbN.out) fun v hv => ((Hq.out v hv).below HbN.out).at_)
  case h2 => exact (E.out.step HbN.out).opsM (heap_new _ _) rfl
  case h3 => exact fun v hv => (Hq.out v hv).may
  case h4 => exact fun v hv => km_may v.o (by
    simp only [kM, List.mem_cons, List.not_mem_nil, or_false] at hv
    rcases hv with rfl | rfl <;> simp [km])
  intro e w2 hto
  obtain ⟨z, rfl, hz, hb⟩ := hto
  obtain rfl : z = true := hz.2 (by rw [← HX.out]; rfl)
  have HB := Lib.hid (below2 (E.out.step HbN.out).bel hb (E.out.step HbN.out).bel.size)
  clear hz hb
  go_wp2_with fail
  go_ret
  exact ⟨rfl, HB.out⟩
end Go.Proofs.YtmabjghjkgicgaaGreat
