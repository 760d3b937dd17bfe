/- Operations in memory; what batch.Few asks first. | slices.IndexFunc, ContainsFunc of operations that may not be. -/
import Derived.Test.YtmabjghjkgicgaaGreatMayH
/- BatA -/
namespace Go.Proofs.YtmabjghjkgicgaaGreat
open Go.RowKit Go.ChangeShapes Go.WideShapes
set_option linter.unusedVariables false
set_option linter.unusedSimpArgs false

/-- an operation -/
structure Opn where
  k : Int
  n : Int
  x : ByteArray
  p : List ByteArray
  ds : List Dt
/-- an operation, and where its path and its dots lie -/
structure Ow where
  o : Opn
  pa : Option Addr
  pc : Nat
  da : Option Addr
  dc : Nat
abbrev MayO (o : Opn) : Prop := OpP o.k o.n o.x o.p o.ds
abbrev owcells (v : Ow) : Array Value := ocells v.o.k v.o.n v.o.x v.pa v.o.p.length v.pc v.da v.o.ds.length v.dc
structure OwAt (w : World) (v : Ow) : Prop where
  pt : Strs w v.pa v.pc v.o.p
  ds : Vec w v.da v.dc v.o.ds
  ok : okV v.o.ds
theorem OwAt.below {w w' : World} {v : Ow} (h : OwAt w v) (hb : Below w.heap.size w w') : OwAt w' v := ⟨h.pt.below hb, h.ds.below hb, h.ok⟩
section
variable {H : Type} {enc : TypeId × Value → H} {w : World} {base : Nat} {spare : Nat → Bool} {held : Bool}
/-- operations in memory -/
def Ops (w : World) (a : Option Addr) (c : Nat) (ys : List Ow) : Prop := RdL w 5 (fun cs (v : Ow) => cs = (owcells v).toList ∧ OwAt w v) a ys.length c ys
structure OpAt (w : World) (b : Addr) (v : Ow) : Prop where
  c0 : w.cell? b = some (.int .u8 v.o.k)
  c1 : w.cell? ⟨b.block, b.off + 1, none⟩ = some (.slice v.pa v.o.p.length v.pc)
  c2 : w.cell? ⟨b.block, b.off + 2, none⟩ = some (.int .i64 v.o.n)
  c3 : w.cell? ⟨b.block, b.off + 3, none⟩ = some (.string v.o.x)
  c4 : w.cell? ⟨b.block, b.off + 4, none⟩ = some (.slice v.da v.o.ds.length v.dc)
  at_ : OwAt w v
theorem Ops.at {w : World} {a : Option Addr} {c : Nat} {ys : List Ow} (h : Ops w a c ys) {k : Nat} {y : Ow} (hy : ys[k]? = some y) : ∃ ad, a = some ad ∧ OpAt w (ad.add (k * 5)) y ∧ ad.block < w.heap.size := by
  obtain ⟨_, _, _, _, h5⟩ := h
  obtain ⟨ad, cs, rfl, hl, hc, rfl, ok⟩ := h5 k y hy
  have g0 := hc 0 (by omega)
  have g1 := hc 1 (by omega)
  have g2 := hc 2 (by omega)
  have g3 := hc 3 (by omega)
  have g4 := hc 4 (by omega)
  rw [Nat.add_zero] at g0
  rw [← Go.Deep.add_add] at g1 g2 g3 g4
  refine ⟨ad, rfl, ⟨g0, g1, g2, g3, g4, ok⟩, ?_⟩
  have := World.block_lt_of_cell? w _ g0
  have hb : (ad.add (k * 5)).block = ad.block := by unfold Addr.add; split <;> rfl
  rwa [hb] at this
theorem Ops.below {w w' : World} {a : Option Addr} {c : Nat} {ys : List Ow} (h : Ops w a c ys) (hb : Below w.heap.size w w') : Ops w' a c ys := by
  obtain ⟨h1, h2, h3, h4, h5⟩ := h
  refine ⟨h1, h2, h3, h4, fun i y hy => ?_⟩
  obtain ⟨ad, cs, h6, h7, h8, rfl, ok⟩ := h5 i y hy
  refine ⟨ad, _, h6, h7, fun j hj => ?_, rfl, ok.below hb⟩
  have := h8 j hj
  rw [← this]
  refine hb.cell ?_
  have hj4 : (owcells y).toList[j]? = some ((owcells y).toList[j]'(by simpa [owcells, ocells] using hj)) := by simp
  exact World.block_lt_of_cell? w _ (this.trans hj4)
theorem Ops.len {w : World} {a : Option Addr} {c : Nat} {ys : List Ow} (h : Ops w a c ys) : ys.length ≤ maxLen := Nat.le_trans h.2.1 h.2.2.1
end
set_option maxHeartbeats 2000000 in
theorem notMay_any (v : Ow) (w : World) (h : OwAt w v) : Calls Tryz.prog 20 #[.agg #[.int .u8 v.o.k, .slice v.pa v.o.p.length v.pc, .int .i64 v.o.n, .string v.o.x, .slice v.da v.o.ds.length v.dc]] w (IsTo w (¬ MayO v.o)) := by
  have H := Lib.hid h
  clear h
  go_enter Tryz.func20, Tryz.ntmps20
  go_wp2_with fail
  have hb0 : Below w.heap.size w (w.alloc (.cells (owcells v) 59)) := (Below.refl _ _).alloc (Nat.le_refl _) _
  refine (mayOpG_any v.o.k v.o.n v.o.x v.pa v.o.p v.pc v.da v.o.ds v.dc _ (H.out.below hb0).pt (H.out.below hb0).ds).mono ?_
  intro e w1 hto
  obtain ⟨z, rfl, hz, hb⟩ := hto
  have HB := Lib.hid (new1 hb).2.2
  have Hz := Lib.hid hz
  clear hb hz hb0
  cases z with
  | true =>
    go_wp2_with fail
    go_ret
    exact no_name (fun h => h (Hz.out.1 (by simp))) HB.out
  | false =>
    go_wp2_with fail
    go_ret
    exact yes_name (fun h => by have := Hz.out.2 h; cases this) HB.out
end Go.Proofs.YtmabjghjkgicgaaGreat

/- BatB -/
namespace Go.Proofs.YtmabjghjkgicgaaGreat
open Go.RowKit
set_option linter.unusedVariables false
set_option linter.unusedSimpArgs false

def JOp2 (l : List Ow) (w : World) (j : Value) (wr : World) : Prop := ∃ q : Nat, q ≤ l.length ∧ j = .int .i64 q ∧ Below w.heap.size w wr ∧ ∀ v ∈ l.take q, MayO v.o
set_option maxRecDepth 100000 in
set_option maxHeartbeats 4000000 in
theorem badOp_at (a : Option Addr) (c : Nat) (l : List Ow) (w : World) (h : Ops w a c l) (hn : l.length ≤ 1000000) :
    Calls Tryz.prog 35 #[.slice a l.length c, .func (.func 20) #[] #[]] w (AtTo w (¬ ∀ v ∈ l, MayO v.o)) := by
  have H := Lib.hid h
  clear h
  have he := enters_of Tryz.func20 (by kernel_rfl) rfl
  go_enter Tryz.func35, Tryz.ntmps35
  go_wp2_with fail
  go_loopw [8] (fun j wr => JOp2 l w j wr) (fun j _ => l.length - (intOf j).toNat)
  case atStart => exact ⟨0, Nat.zero_le _, rfl, Below.refl _ _, fun s hs => by simp at hs⟩
  case round =>
    obtain ⟨q, hq, rfl, hB, hall⟩ := hrel
    have HB := Lib.hid hB
    have Hall := Lib.hid hall
    clear hB hall
    by_cases hlt : q < l.length
    · obtain ⟨x, hx⟩ : ∃ x, l[q]? = some x := ⟨l[q], by simp [hlt]⟩
      obtain ⟨ad, had, ⟨c0, c1, c2, c3, c4, hat⟩, hl0⟩ := (H.out.below HB.out).at hx
      subst had
      have Hx := Lib.hid hx
      have Hat := Lib.hid hat
      clear hx hat
      go_wp2_with fail
      refine (notMay_any x _ Hat.out).mono ?_
      intro e w1 hto
      obtain ⟨z, rfl, hz, hb⟩ := hto
      have HB1 := Lib.hid (below2 HB.out hb HB.out.size)
      have Hz := Lib.hid hz
      clear hb hz c0 c1 c2 c3 c4 Hat
      cases z with
      | true =>
        have Hy := Lib.hid (show ¬ ∀ v ∈ l, MayO v.o from fun h => (Hz.out.1 (by simp)) (h x (List.mem_of_getElem? Hx.out)))
        go_wp2_with fail
        go_ret
        exact ⟨q, rfl, ⟨fun _ => Hy.out, fun _ => by omega⟩, HB1.out⟩
      | false =>
        have Hnx := Lib.hid (show MayO x.o from Classical.byContradiction fun h => by have := Hz.out.2 h; cases this)
        go_wp2_with fail
        go_roundw
        case rel => exact ⟨q + 1, by omega, by go_num, HB1.out, all_snoc Hx.out Hall.out Hnx.out⟩
        case measure => simp [intOf]; omega
    · have ha := Hall.out
      rw [List.take_of_length_le (by omega)] at ha
      have Ha := Lib.hid ha
      clear ha
      go_wp2_with fail
      go_ret
      exact ⟨-1, rfl, ⟨fun h => by omega, fun h => absurd Ha.out h⟩, HB.out⟩
theorem badOp_any (a : Option Addr) (c : Nat) (l : List Ow) (w : World) (h : Ops w a c l) (hn : l.length ≤ 1000000) :
    Calls Tryz.prog 19 #[.slice a l.length c, .func (.func 20) #[] #[]] w (IsTo w (¬ ∀ v ∈ l, MayO v.o)) := by
  go_enter Tryz.func19, Tryz.ntmps19
  go_wp2_with fail
  refine (badOp_at a c l _ h hn).mono ?_
  intro e w1 hto
  obtain ⟨k, rfl, hk, hb⟩ := hto
  have Hb := Lib.hid hb
  have Hk := Lib.hid hk
  clear hb hk
  go_wp2_with fail
  go_ret
  exact ⟨_, rfl, by rw [decide_eq_true_iff]; exact Hk.out, Hb.out⟩
end Go.Proofs.YtmabjghjkgicgaaGreat
