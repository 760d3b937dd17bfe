/- Ancestors, plainly: by parents, and by vectors. No program in sight. | base.ancestors, plainly. No program in sight. | The plain law of BaseAncestors. No program in sight. | Levels of commits, plainly. No program in sight. | Rows of rows of dots in memory of one's own. | slices.ContainsFunc of commits by any function; base.greatest: contracts. | varvelaw13.reach: the contract. | base.ancestors: the contract. (printed by wip/tools/genanca.py) | base.Of: the contract. (printed by wip/tools/genofa.py) | The page's example of bases, plainly: a fork, and one that shares nothing. No program in sight. | slices.DeleteFunc of commits in a row of their own, by any function: contract. (printed by wip/tools/gendelc.py) | Graph.Base, base.Within: the contracts. -/
import Derived.Test.YthdmoplclllhjaaGreatRgA
import Derived.Test.YthdmoplclllhjaaGreatGraC
import Derived.Test.YthdmoplclllhjaaGreatGraM
import Derived.Test.YthdmoplclllhjaaGreatGraQ
import Derived.Test.YthdmoplclllhjaaGreatWidB
import Derived.Test.YthdmoplclllhjaaGreatBothA
import Derived.Test.YthdmoplclllhjaaGreatGraV
import Derived.Test.YthdmoplclllhjaaGreatBasB
/- DagP -/
/- DagP -/
namespace Go.Proofs.YthdmoplclllhjaaGreat
open Go.RowKit
set_option linter.unusedVariables false
set_option linter.unusedSimpArgs false

end Go.Proofs.YthdmoplclllhjaaGreat

/- AncP -/
namespace Go.Proofs.YthdmoplclllhjaaGreat
open Go.RowKit
set_option linter.unusedVariables false
set_option linter.unusedSimpArgs false

end Go.Proofs.YthdmoplclllhjaaGreat

/- AncQ -/
namespace Go.Proofs.YthdmoplclllhjaaGreat
open Go.RowKit
set_option linter.unusedVariables false
set_option linter.unusedSimpArgs false

end Go.Proofs.YthdmoplclllhjaaGreat

/- GreA -/
/- LevA -/
/- LevP -/
namespace Go.Proofs.YthdmoplclllhjaaGreat
open Go.RowKit
set_option linter.unusedVariables false
set_option linter.unusedSimpArgs false

end Go.Proofs.YthdmoplclllhjaaGreat

/- LevA -/
namespace Go.Proofs.YthdmoplclllhjaaGreat
open Go.RowKit
set_option linter.unusedVariables false
set_option linter.unusedSimpArgs false

section
variable {w : World} {ops : Array Oper} {rest : List Oper} {o : Oper} {a : Act} {Q : Exit → Act → World → Prop}
end
end Go.Proofs.YthdmoplclllhjaaGreat

/- GreA -/
namespace Go.Proofs.YthdmoplclllhjaaGreat
open Go.RowKit
set_option linter.unusedVariables false
set_option linter.unusedSimpArgs false

end Go.Proofs.YthdmoplclllhjaaGreat

/- OfA -/
/- RchA -/
namespace Go.Proofs.YthdmoplclllhjaaGreat
open Go.RowKit
set_option linter.unusedVariables false
set_option linter.unusedSimpArgs false

end Go.Proofs.YthdmoplclllhjaaGreat

/- AncA -/
namespace Go.Proofs.YthdmoplclllhjaaGreat
open Go.RowKit
set_option linter.unusedVariables false
set_option linter.unusedSimpArgs false

end Go.Proofs.YthdmoplclllhjaaGreat

/- OfA -/
namespace Go.Proofs.YthdmoplclllhjaaGreat
open Go.RowKit
set_option linter.unusedVariables false
set_option linter.unusedSimpArgs false

end Go.Proofs.YthdmoplclllhjaaGreat

/- WitA -/
/- KnoP -/
namespace Go.Proofs.YthdmoplclllhjaaGreat
open Go.RowKit
set_option linter.unusedVariables false
set_option linter.unusedSimpArgs false

def kD2 : Dt := ((2, 1), 1)
def kD3 : Dt := ((3, 1), 1)
def kY : Cm := ⟨kD2, [kD], [kD, kD2], 2, kO⟩
def kZ : Cm := ⟨kD3, [], [kD3], 1, kO⟩
def k4 : List Cm := [kC, kL, kY, kZ]
end Go.Proofs.YthdmoplclllhjaaGreat

/- DelC -/
namespace Go.Proofs.YthdmoplclllhjaaGreat
open Go.RowKit
set_option linter.unusedVariables false
set_option linter.unusedSimpArgs false

def keepC' (p : Cw → Bool) (l : List Cw) : List Cw := l.filter fun d => !p d
theorem keepC_none {p : Cw → Bool} {l : List Cw} (h : ∀ d ∈ l, p d = false) : keepC' p l = l := List.filter_eq_self.2 fun d hd => by rw [h d hd]; rfl
theorem keepC_snoc {p : Cw → Bool} {l : List Cw} {q : Nat} {d : Cw} (hd : l[q]? = some d) : keepC' p (l.take (q + 1)) = if p d = true then keepC' p (l.take q) else keepC' p (l.take q) ++ [d] := by
  unfold keepC'
  rw [take_snoc' hd, List.filter_append]
  cases hp : p d <;> simp [hp]
/-- the first jj of l are gone through, kk are kept at the start of cur -/
structure DelJ (p : Cw → Bool) (l cur : List Cw) (kk jj : Nat) : Prop where
  len : cur.length = l.length
  lt : kk < jj ∧ jj ≤ l.length
  kept : cur.take kk = keepC' p (l.take jj)
  rest : ∀ i, jj ≤ i → cur[i]? = l[i]?
theorem DelJ.start {p : Cw → Bool} {l : List Cw} {q : Nat} {d : Cw} (hd : l[q]? = some d) (hp : p d = true) (h : ∀ s ∈ l.take q, p s = false) : DelJ p l l q (q + 1) :=
  ⟨rfl, ⟨Nat.lt_succ_self _, (List.getElem?_eq_some_iff.1 hd).1⟩, by rw [keepC_snoc hd, if_pos hp, keepC_none h], fun _ _ => rfl⟩
theorem DelJ.skip {p : Cw → Bool} {l cur : List Cw} {kk jj : Nat} {d : Cw} (h : DelJ p l cur kk jj) (hd : l[jj]? = some d) (hp : p d = true) : DelJ p l cur kk (jj + 1) :=
  ⟨h.len, ⟨by have := h.lt; omega, (List.getElem?_eq_some_iff.1 hd).1⟩, by rw [keepC_snoc hd, if_pos hp, h.kept], fun i hi => h.rest i (by omega)⟩
theorem DelJ.keep {p : Cw → Bool} {l cur : List Cw} {kk jj : Nat} {d : Cw} (h : DelJ p l cur kk jj) (hd : l[jj]? = some d) (hp : p d = false) : DelJ p l (cur.set kk d) (kk + 1) (jj + 1) := by
  have hjl := (List.getElem?_eq_some_iff.1 hd).1
  have hkl : kk < cur.length := by have := h.lt; have := h.len; omega
  refine ⟨by rw [List.length_set, h.len], ⟨by have := h.lt; omega, hjl⟩, ?_, fun i hi => ?_⟩
  · rw [keepC_snoc hd, if_neg (by rw [hp]; simp), ← h.kept]
    have hs : (cur.set kk d)[kk]? = some d := by rw [List.getElem?_set_self hkl]
    rw [take_snoc' hs, List.take_set_of_le (Nat.le_refl _)]
  · rw [List.getElem?_set_ne (by have := h.lt; omega)]
    exact h.rest i (by omega)
theorem DelJ.done {p : Cw → Bool} {l cur : List Cw} {kk : Nat} (h : DelJ p l cur kk l.length) : cur.take kk = keepC' p l := by have := h.kept; rwa [List.take_length] at this
theorem OwnC.capC {w : World} {base c : Nat} {a : Option Addr} {v : List Cw} (h : OwnC w base a c v) : v.length ≤ c := h.cms.2.1
theorem OwnC.free {w : World} {base g c : Nat} {v : List Cw} (h : OwnC w base (some ⟨g, 0, none⟩) c v) (j : Nat) : w.frozen? ⟨g, j, none⟩ = false := World.ownsRow.frozenAt h j
set_option maxRecDepth 100000 in
/-- 'clear' of the end of a row: what stands ahead stays -/
theorem run_clearC {w : World} {base g n c : Nat} {v : List Cw} (h : OwnC w base (some ⟨g, 0, none⟩) c v) (ty : TypeId) (k : Nat) (hk : k < v.length) :
    ∃ w', (Builtin.clear_ #[29] ty #[.slice (some ⟨g, k * 11, none⟩) (v.length - k) (c - k)]).run Tryz.prog w = .ok (.tuple #[]) w' ∧ OwnC w' base (some ⟨g, 0, none⟩) c (v.take k) ∧ Chg [g] w w' := by
  have hh := h
  rcases h.2 with ⟨h3, h4⟩ | ⟨g', cap, cur, h3, hb, hg, hnc, hcm, hcs, ht⟩
  · simp at h3
  simp only [Value.slice.injEq, Option.some.injEq, Addr.mk.injEq, and_true, true_and] at h3
  obtain ⟨rfl, rfl⟩ := h3
  obtain ⟨m, hm⟩ : ∃ m, v.length - k = m + 1 := ⟨v.length - k - 1, by omega⟩
  have hzl : ((Builtin.zeroCells #[.int .u8 0, .int .u32 0, .int .u64 0, .slice none 0 0, .slice none 0 0, .int .u64 0, .int .u8 0, .slice none 0 0, .int .i64 0, .string ⟨#[]⟩, .slice none 0 0] (m + 1)).toList).length = (m + 1) * 11 := by simp [size_zeroCells]
  have hst := run_storeCells_cells (P := Tryz.prog) g (k * 11) (Builtin.zeroCells #[.int .u8 0, .int .u32 0, .int .u64 0, .slice none 0 0, .slice none 0 0, .int .u64 0, .int .u8 0, .slice none 0 0, .int .i64 0, .string ⟨#[]⟩, .slice none 0 0] (m + 1)).toList 0 w
    (fun j hj => by
      rw [hzl] at hj
      rw [hh.cellAt (g := g) (k * 11 + 0 + j) (by omega), List.getElem?_eq_getElem (by rw [ccs_length]; omega)]
      rfl)
    (fun j hj => hh.frozenAt (g := g) _) (fun u hu => by
      have := zeroCells_mem (by decide) hu
      simp at this
      rcases this with rfl | rfl | rfl | rfl | rfl | rfl | rfl | rfl | rfl | rfl | rfl <;> rfl)
  obtain ⟨cur', q1, q2, q3⟩ := setCells_block g 46 (Builtin.zeroCells #[.int .u8 0, .int .u32 0, .int .u64 0, .slice none 0 0, .slice none 0 0, .int .u64 0, .int .u8 0, .slice none 0 0, .int .i64 0, .string ⟨#[]⟩, .slice none 0 0] (m + 1)).toList (k * 11) w cur hg (by rw [hzl, hcs]; omega)
  refine ⟨w.setCells g (k * 11) (Builtin.zeroCells #[.int .u8 0, .int .u32 0, .int .u64 0, .slice none 0 0, .slice none 0 0, .int .u64 0, .int .u8 0, .slice none 0 0, .int .i64 0, .string ⟨#[]⟩, .slice none 0 0] (m + 1)).toList, ?_, ?_, Chg.setCells _ _ _ _⟩
  · rw [hm]
    simp only [Nat.add_zero] at hst
    simp [Builtin.clear_, run_underlying Tryz.underlying29, zeroCommit, Value.cells, hst]
  · unfold OwnC
    have hl : (v.take k).length = k := by rw [List.length_take]; omega
    rw [hl]
    refine ⟨by rw [ccs_length, hl], .inr ⟨g, c, cur', rfl, hb, q1, by omega, hcm, by rw [q2, hcs], ?_⟩⟩
    rw [q3]
    have e1 : cur.toList.take (k * 11) = (ccs v).take (k * 11) := by rw [← ht, List.take_take, Nat.min_eq_left (by omega)]
    rw [e1]
    exact ccs_take v k
def IxFst2 (w : World) (l : List Cw) (p : Cw → Bool) (e : Ending) (w' : World) : Prop :=
  ∃ k : Int, e = .returned (.int .i64 k) ∧ ((k = -1 ∧ ∀ d ∈ l, p d = false) ∨ ∃ (q : Nat) (d : Cw), k = q ∧ l[q]? = some d ∧ p d = true ∧ ∀ s ∈ l.take q, p s = false) ∧ Below w.heap.size w w'
set_option maxRecDepth 100000 in
set_option maxHeartbeats 4000000 in
theorem indexC2_fn (fn : FuncId) (cap : Array Value) (p : Cw → Bool) (a : Option Addr) (c : Nat) (l : List Cw) (w : World) (h : Cms w a c l) (hn : l.length ≤ 1100000)
    (he : ∀ args w, (callFunc fn args).run Tryz.prog w = .ok (.enter fn args) w)
    (hp : ∀ x ∈ l, ∀ W, Below w.heap.size w W → Calls Tryz.prog fn (#[.agg (cwcells x)] ++ cap) W (fun e W' => e = .returned (.bool (p x)) ∧ Below W.heap.size W W')) :
    Calls Tryz.prog 164 #[.slice a l.length c, .func (.func fn) #[] cap] w (IxFst2 w l p) := by
  have H := Lib.hid h
  have HP := Lib.hid hp
  clear h hp
  go_enter Tryz.func164, Tryz.ntmps164
  go_wp2_with fail
  go_loopw [8] (fun j wr => ∃ q : Nat, q ≤ l.length ∧ j = .int .i64 q ∧ Hid (Below w.heap.size w wr) ∧ Hid (∀ s ∈ l.take q, p s = false)) (fun j _ => l.length - (intOf j).toNat)
  case atStart => exact ⟨0, Nat.zero_le _, rfl, Lib.hid (Below.refl _ _), Lib.hid (fun s hs => by simp at hs)⟩
  case round =>
    obtain ⟨q, hq, rfl, HB, Hall⟩ := hrel
    by_cases hlt : q < l.length
    · obtain ⟨v, hv⟩ : ∃ x, l[q]? = some x := ⟨l[q], by simp [hlt]⟩
      obtain ⟨ad, had, ⟨c0, c1, c2, c3, c4, c5, c6, c7, c8, c9, c10⟩, hlb⟩ := (H.out.below HB.out).at_ hv
      subst had
      have Hx := Lib.hid hv
      have HPx := Lib.hid (HP.out v (List.mem_of_getElem? hv))
      clear hv
      obtain ⟨⟨⟨⟨r, i⟩, s⟩, ps, uu, t1, ⟨k, n, x, p1, ds⟩⟩, qa, qc, ua, uc, pa, pc, da, dc⟩ := v
      dsimp only at c0 c1 c2 c3 c4 c5 c6 c7 c8 c9 c10
      go_wp2_with fail
      refine (HPx.out _ HB.out).mono ?_
      rintro e w1 ⟨rfl, hb⟩
      have HB1 := Lib.hid (below2 HB.out hb HB.out.size)
      clear hb c0 c1 c2 c3 c4 c5 c6 c7 c8 c9 c10 hlb HPx
      cases hz : p ⟨⟨((r, i), s), ps, uu, t1, ⟨k, n, x, p1, ds⟩⟩, qa, qc, ua, uc, pa, pc, da, dc⟩ with
      | true =>
        have Hy := Lib.hid hz
        go_wp2_with fail
        go_ret
        exact ⟨q, rfl, .inr ⟨q, _, rfl, Hx.out, Hy.out, Hall.out⟩, HB1.out⟩
      | false =>
        have Hz := Lib.hid hz
        clear hz
        go_wp2_with fail
        go_roundw
        case rel => exact ⟨q + 1, by omega, by go_num, HB1, Lib.hid (all_snoc (p := fun s : Cw => p s = false) Hx.out Hall.out Hz.out)⟩
        case measure => simp [intOf]; omega
    · have ha := Hall.out
      rw [List.take_of_length_le (by omega)] at ha
      have Ha := Lib.hid ha
      clear ha
      go_wp2_with fail
      go_ret
      exact ⟨-1, rfl, .inl ⟨rfl, Ha.out⟩, HB.out⟩
set_option maxRecDepth 100000 in
set_option maxHeartbeats 16000000 in
theorem deleteC_fn (fn : FuncId) (cap : Array Value) (p : Cw → Bool) (a : Option Addr) (c base : Nat) (l : List Cw) (w : World) (h : OwnC w base a c l) (hat : ∀ v ∈ l, CwAt w v) (hn : l.length ≤ 1100000)
    (he : ∀ args w, (callFunc fn args).run Tryz.prog w = .ok (.enter fn args) w)
    (hp : ∀ v ∈ l, ∀ W, Chg (ob a) w W → Calls Tryz.prog fn (#[.agg (cwcells v)] ++ cap) W (fun e W' => e = .returned (.bool (p v)) ∧ Below W.heap.size W W')) :
    Calls Tryz.prog 113 #[.slice a l.length c, .func (.func fn) #[] cap] w fun e w' => ∃ v', e = .returned (.slice a (List.length v') c) ∧ v' = keepC' p l ∧ OwnC w' base a c v' ∧ Chg (ob a) w w' := by
  have H := Lib.hid h
  have HP := Lib.hid hp
  have HAt := Lib.hid hat
  clear h hp hat
  go_enter Tryz.func113, Tryz.ntmps113
  go_wp2_with fail
  refine (indexC2_fn fn cap p a c l _ ⟨H.out.cms, HAt.out⟩ hn he (fun v hv W hW => HP.out v hv W (Chg.of_below hW))).mono ?_
  intro e w1 hto
  obtain ⟨k, rfl, hk, hb⟩ := hto
  have HB := Lib.hid hb
  clear hb
  obtain ⟨rfl, hnone⟩ | ⟨q, d, rfl, hqd, hpd, hall⟩ := hk
  · have Hn := Lib.hid hnone
    clear hnone
    go_wp2_with fail
    go_ret
    exact ⟨l, rfl, (keepC_none Hn.out).symm, H.out.below HB.out, Chg.of_below HB.out⟩
  · obtain ⟨g, rfl⟩ : ∃ g, a = some ⟨g, 0, none⟩ := by
      have h0 := (List.getElem?_eq_some_iff.1 hqd).1
      rcases H.out.2 with ⟨h1, h2⟩ | ⟨g, cap, cur, h1, _⟩
      · omega
      · simp at h1; exact ⟨g, h1.1⟩
    have hcap := H.out.capC
    have Hst := Lib.hid (DelJ.start hqd hpd hall)
    have hql : q < l.length := (List.getElem?_eq_some_iff.1 hqd).1
    clear hqd hpd hall
    have e1 : ((q : Int) == -1) = false := by rw [beq_eq_false_iff_ne]; omega
    go_wp2_with fail
    go_loopw [5, 6] (fun kv jv wx => ∃ (kk jj : Nat) (cur : List Cw), kv = .int .i64 kk ∧ jv = .int .i64 jj ∧ Hid (DelJ p l cur kk jj) ∧ Hid (OwnC wx base (some ⟨g, 0, none⟩) c cur) ∧ Hid (Chg [g] w wx)) (fun _ jv _ => l.length - (intOf jv).toNat)
    case atStart => exact ⟨q, q + 1, l, rfl, by go_num, Hst, Lib.hid (H.out.below HB.out), Lib.hid (Chg.of_below HB.out)⟩
    case round =>
      rename_i wx _
      clear e1
      obtain ⟨kk, jj, cur, rfl, rfl, hD, hO, hC⟩ := hrel
      have hcap2 := hO.out.capC
      have Hcl := Lib.hid hD.out.len
      have hkj : kk < jj := hD.out.lt.1
      have hjl : jj ≤ l.length := hD.out.lt.2
      by_cases hlt : jj < l.length
      · obtain ⟨v, hx⟩ : ∃ x, l[jj]? = some x := ⟨l[jj], by simp [hlt]⟩
        have hx' := (hD.out.rest jj (Nat.le_refl _)).trans hx
        have R0 := hO.out.range hx'
        have Hx := Lib.hid hx
        have HPx := Lib.hid (HP.out v (List.mem_of_getElem? hx))
        clear hx hx'
        obtain ⟨⟨⟨⟨r, i⟩, s⟩, ps, uu, t1, ⟨k, n, x, p1, ds⟩⟩, qa, qc, ua, uc, pa, pc, da, dc⟩ := v
        have c0 := R0 0 _ rfl
        have c1 := R0 1 _ rfl
        have c2 := R0 2 _ rfl
        have c3 := R0 3 _ rfl
        have c4 := R0 4 _ rfl
        have c5 := R0 5 _ rfl
        have c6 := R0 6 _ rfl
        have c7 := R0 7 _ rfl
        have c8 := R0 8 _ rfl
        have c9 := R0 9 _ rfl
        have c10 := R0 10 _ rfl
        simp only [Nat.add_zero] at c0
        clear R0
        have HA := Lib.hid (show Below wr.heap.size wr (wr.alloc (.cells (ccells r i s qa ps.length qc ua uu.length uc t1 k pa p1.length pc n x da ds.length dc) 46)) from (Below.refl _ _).alloc (Nat.le_refl _) _)
        go_wp2_with fail
        refine (HPx.out _ ((hC.out.trans (Chg.of_below (F := []) HA.out) (by simp)))).mono ?_
        rintro e w3 ⟨rfl, hb3⟩
        have X3 := Lib.hid (new1 hb3).1
        have O3 := Lib.hid ((hO.out.below HA.out).below hb3)
        have C3 := Lib.hid ((hC.out.trans (Chg.of_below (F := []) HA.out) (by simp)).trans (Chg.of_below (F := []) hb3) (by simp))
        have x3 := cells_at X3.out
        clear hb3 c0 c1 c2 c3 c4 c5 c6 c7 c8 c9 c10
        cases hz : p ⟨⟨((r, i), s), ps, uu, t1, ⟨k, n, x, p1, ds⟩⟩, qa, qc, ua, uc, pa, pc, da, dc⟩ with
        | true =>
          have Hz := Lib.hid hz
          go_wp2_with fail
          go_roundw
          case rel => exact ⟨kk, jj + 1, cur, rfl, by go_num, Lib.hid (hD.out.skip Hx.out Hz.out), O3, C3⟩
          case measure => simp [intOf]; omega
        | false =>
          have Hz := Lib.hid hz
          have hkl : kk < cur.length := by have := Hcl.out; omega
          obtain ⟨v2, hv⟩ : ∃ x, cur[kk]? = some x := ⟨cur[kk], by simp [hkl]⟩
          obtain ⟨⟨⟨⟨r2, i2⟩, s2⟩, ps2, uu2, t2, ⟨k2, n2, x2, p2, ds2⟩⟩, qa2, qc2, ua2, uc2, pa2, pc2, da2, dc2⟩ := v2
          have R3 := O3.out.range hv
          have y0 : w3.cell? ⟨g, kk * 11, none⟩ = some (.int .u8 r2) := R3 0 _ rfl
          have y1 : w3.cell? ⟨g, kk * 11 + 1, none⟩ = some (.int .u32 i2) := R3 1 _ rfl
          have y2 : w3.cell? ⟨g, kk * 11 + 2, none⟩ = some (.int .u64 s2) := R3 2 _ rfl
          have y3 : w3.cell? ⟨g, kk * 11 + 3, none⟩ = some (.slice qa2 ps2.length qc2) := R3 3 _ rfl
          have y4 : w3.cell? ⟨g, kk * 11 + 4, none⟩ = some (.slice ua2 uu2.length uc2) := R3 4 _ rfl
          have y5 : w3.cell? ⟨g, kk * 11 + 5, none⟩ = some (.int .u64 t2) := R3 5 _ rfl
          have y6 : w3.cell? ⟨g, kk * 11 + 6, none⟩ = some (.int .u8 k2) := R3 6 _ rfl
          have y7 : w3.cell? ⟨g, kk * 11 + 7, none⟩ = some (.slice pa2 p2.length pc2) := R3 7 _ rfl
          have y8 : w3.cell? ⟨g, kk * 11 + 8, none⟩ = some (.int .i64 n2) := R3 8 _ rfl
          have y9 : w3.cell? ⟨g, kk * 11 + 9, none⟩ = some (.string x2) := R3 9 _ rfl
          have y10 : w3.cell? ⟨g, kk * 11 + 10, none⟩ = some (.slice da2 ds2.length dc2) := R3 10 _ rfl
          have fz : ∀ o, w3.frozen? ⟨g, o, none⟩ = false := fun o => World.ownsRow.frozenAt O3.out o
          have q1 := O3.out.put ⟨⟨((r, i), s), ps, uu, t1, ⟨k, n, x, p1, ds⟩⟩, qa, qc, ua, uc, pa, pc, da, dc⟩ hkl
          have e11 : w3.setCells g (kk * 11) (ccel ⟨⟨((r, i), s), ps, uu, t1, ⟨k, n, x, p1, ds⟩⟩, qa, qc, ua, uc, pa, pc, da, dc⟩) = (((((((((((w3.setCell ⟨g, kk * 11, none⟩ (.int .u8 r)).setCell ⟨g, kk * 11 + 1, none⟩ (.int .u32 i)).setCell ⟨g, kk * 11 + 2, none⟩ (.int .u64 s)).setCell ⟨g, kk * 11 + 3, none⟩ (.slice qa ps.length qc)).setCell ⟨g, kk * 11 + 4, none⟩ (.slice ua uu.length uc)).setCell ⟨g, kk * 11 + 5, none⟩ (.int .u64 t1)).setCell ⟨g, kk * 11 + 6, none⟩ (.int .u8 k)).setCell ⟨g, kk * 11 + 7, none⟩ (.slice pa p1.length pc)).setCell ⟨g, kk * 11 + 8, none⟩ (.int .i64 n)).setCell ⟨g, kk * 11 + 9, none⟩ (.string x)).setCell ⟨g, kk * 11 + 10, none⟩ (.slice da ds.length dc)) := rfl
          rw [e11] at q1
          have Q1 := Lib.hid q1
          simp only [ccells] at x3
          clear hv R3 q1 e11
          go_wp2_with fail
          exact ⟨⟨kk + 1, jj + 1, cur.set kk ⟨⟨((r, i), s), ps, uu, t1, ⟨k, n, x, p1, ds⟩⟩, qa, qc, ua, uc, pa, pc, da, dc⟩, by go_num, by go_num, Lib.hid (hD.out.keep Hx.out Hz.out), Lib.hid Q1.out.1, Lib.hid (C3.out.trans Q1.out.2 (fun x hx _ => hx))⟩, by simp [intOf]; omega⟩
      · have hjj : jj = l.length := by omega
        have Hd := Lib.hid (show cur.take kk = keepC' p l from by have := hD.out; rw [hjj] at this; exact this.done)
        have hkl : kk < cur.length := by have := Hcl.out; omega
        have hck : c ≠ kk := by have := Hcl.out; omega
        have hadd : (⟨g, 0, none⟩ : Addr).add (kk * 11) = ⟨g, kk * 11, none⟩ := by unfold Addr.add; split <;> simp_all
        have hs3 := fun W => sl_loC (some ⟨g, 0, none⟩) cur.length c kk (Nat.le_of_lt hkl) hcap2 W
        have hs4 := fun W => sl_hiC (some ⟨g, 0, none⟩) cur.length c kk (by omega) W
        obtain ⟨w5, hr5, ho5, hC5⟩ := run_clearC (n := 0) hO.out 0 kk hkl
        rw [if_neg hck] at hs3
        simp only [Option.map_some, hadd] at hs3
        rw [Hcl.out] at hs3 hs4 hr5
        have Ho5 := Lib.hid ho5
        have HC5 := Lib.hid (hC.out.trans hC5 (by simp))
        have hl5 : (cur.take kk).length = kk := by rw [List.length_take]; omega
        have Hl5 := Lib.hid hl5
        clear ho5 hC5 hl5 hadd hjj
        go_wp2_with (at_builtin; go_must (refine wpList_clear_run rfl _ _ rfl _ hr5 ?_))
        go_wp2_with fail
        go_ret
        exact ⟨cur.take kk, by rw [Hl5.out]; rfl, Hd.out, Ho5.out, HC5.out⟩
end Go.Proofs.YthdmoplclllhjaaGreat

/- WitA -/
namespace Go.Proofs.YthdmoplclllhjaaGreat
open Go.RowKit
set_option linter.unusedVariables false
set_option linter.unusedSimpArgs false

@[go_sem] theorem field_bf (a b c d e : Value) (w : World) : (Instr.field 28 (.agg #[a, b, c, d, e]) 1).run Tryz.prog w = .ok b w := by kernel_rfl
end Go.Proofs.YthdmoplclllhjaaGreat
