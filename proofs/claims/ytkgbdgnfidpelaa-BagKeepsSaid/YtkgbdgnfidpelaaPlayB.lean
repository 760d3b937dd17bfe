/- BagPlays: the letters told may be written over; the calls handed in. -/
import Derived.Test.YtkgbdgnfidpelaaPlayA
namespace Go.Proofs.Ytkgbdgnfidpelaa
open Go.RowKit
set_option linter.unusedVariables false
set_option linter.unusedSimpArgs false

/-- letters told, whatever their bytes are by now -/
structure AllW (w : World) (B : Nat) (N : List Ml) (oa : Option Addr) (oc : Nat) : Prop where
  row : w.ownsRow B 30 2 (.slice oa N.length oc) N.length (acells N)
  bytes : ∀ x ∈ N, ∃ bs, w.ownsRow B 5 1 (.slice x.2.1 x.1.b.length x.2.2) x.1.b.length (u8s bs)
theorem AllAt.weak {w : World} {B : Nat} {N : List Ml} {oa : Option Addr} {oc : Nat} (h : AllAt w B N oa oc) : AllW w B N oa oc := ⟨h.row, fun x hx => ⟨_, h.bytes x hx⟩⟩
theorem AllW.below {w w' : World} {B : Nat} {N : List Ml} {oa : Option Addr} {oc : Nat} (h : AllW w B N oa oc) (hb : Below w.heap.size w w') : AllW w' B N oa oc :=
  ⟨owns_chg h.row (Chg.of_below (F := []) hb) (by simp), fun x hx => by obtain ⟨bs, h1⟩ := h.bytes x hx; exact ⟨bs, owns_chg h1 (Chg.of_below (F := []) hb) (by simp)⟩⟩
theorem u8s_set (bs : List UInt8) (j : Nat) (v : UInt8) : u8s (bs.set j v) = (u8s bs).set j (.int .u8 (v.toNat : Int)) := by simp [u8s, List.map_set]
/-- one byte written over -/
theorem AllW.write {w : World} {B : Nat} {N : List Ml} {oa : Option Addr} {oc g j c : Nat} {x : Ml} (h : AllW w B N oa oc) (hx : x ∈ N) (hg : x.2.1 = some ⟨g, 0, none⟩) (v : UInt8) : AllW (w.setCell ⟨g, j, none⟩ (.int .u8 (v.toNat : Int))) B N oa oc := by
  obtain ⟨b0, h0⟩ := h.bytes x hx
  rw [hg] at h0
  have hgb : ∃ cap cur, w.heap[g]? = some (.cells cur 5 (0, 0)) ∧ x.2.2 = cap := by
    rcases h0.2 with ⟨h', _⟩ | ⟨g', cap', cur', h', _, hg', _⟩
    · simp at h'
    · simp at h'; obtain ⟨rfl, rfl⟩ := h'; exact ⟨_, _, hg', rfl⟩
  obtain ⟨_, cur, hgb, _⟩ := hgb
  refine ⟨owns_chg h.row (Chg.setCell w ⟨g, j, none⟩ _) ?_, fun y hy => ?_⟩
  · intro k hk he
    simp at he
    rcases h.row.2 with ⟨h', _⟩ | ⟨g', cap', cur', h', _, hg', _⟩
    · simp at h'; rw [h'.1] at hk; simp [ob] at hk
    · simp at h'; rw [h'.1] at hk; simp [ob] at hk
      rw [← hk, he, hgb] at hg'; simp at hg'
  · obtain ⟨b1, h1⟩ := h.bytes y hy
    by_cases hyg : g ∈ ob y.2.1
    · have hyg' : ∃ c, (Value.slice y.2.1 y.1.b.length y.2.2) = .slice (some ⟨g, 0, none⟩) y.1.b.length c := by
        rcases h1.2 with ⟨h', _⟩ | ⟨g', cap', cur', h', _, hg', _⟩
        · simp at h'; rw [h'.1] at hyg; simp [ob] at hyg
        · simp at h'; rw [h'.1] at hyg; simp [ob] at hyg
          exact ⟨y.2.2, by rw [h'.1, hyg]⟩
      obtain ⟨c, hyc⟩ := hyg'
      refine ⟨b1.set j v, ?_⟩
      rw [hyc] at h1 ⊢
      rw [u8s_set]
      exact (h1.stored j _).1
    · exact ⟨b1, owns_chg h1 (Chg.setCell w ⟨g, j, none⟩ _) (fun k hk he => by simp at he; subst he; exact hyg hk)⟩

/-- a call handed in -/
structure OpV where
  kind : Int
  i : Int
  at_ : Int
  x : UInt8
  t : Int
  bs : List UInt8
  ba : Option Addr
  bc : Nat
def opcells (o : OpV) : List Value := [.int .i64 o.kind, .int .i64 o.i, .int .i64 o.at_, .int .u8 (o.x.toNat : Int), .int .u8 o.t, .slice o.ba o.bs.length o.bc]
structure OpOk (w : World) (a : Addr) (k : Nat) (o : OpV) : Prop where
  c0 : w.cell? (a.add (k * 6)) = some (.int .i64 o.kind)
  c1 : w.cell? ((a.add (k * 6)).add 1) = some (.int .i64 o.i)
  c2 : w.cell? ((a.add (k * 6)).add 2) = some (.int .i64 o.at_)
  c3 : w.cell? ((a.add (k * 6)).add 3) = some (.int .u8 (o.x.toNat : Int))
  c4 : w.cell? ((a.add (k * 6)).add 4) = some (.int .u8 o.t)
  c5 : w.cell? ((a.add (k * 6)).add 5) = some (.slice o.ba o.bs.length o.bc)
  sl : Sl w 1 o.ba o.bs.length o.bc (u8s o.bs)
  i1 : -9223372036854775808 ≤ o.i
  i2 : o.i ≤ 9223372036854775807
theorem OpOk.below {w w' : World} {a : Addr} {k : Nat} {o : OpV} (h : OpOk w a k o) (hb : Below w.heap.size w w') : OpOk w' a k o := by
  have ha := Agree.of_below hb
  exact ⟨ha.cell h.c0, ha.cell h.c1, ha.cell h.c2, ha.cell h.c3, ha.cell h.c4, ha.cell h.c5, h.sl.below hb, h.i1, h.i2⟩
end Go.Proofs.Ytkgbdgnfidpelaa
