/- Maps of commits by dots; graphs in memory. | graph.none, Has, Time: contracts. | graph.knows: contract. | slices.ContainsFunc of dots by any function; graph.follows: contracts. | graph.Insert's missing; graph.follows: contracts. (printed by wip/tools/genfollows.py) | graph.own: a commit in memory of its own: contract. | graph.Insert: contract. -/
import Derived.Test.YtaandcblndldmaaGreatGraA
import Derived.Test.YtaandcblndldmaaGreatGraP
import Derived.Test.YtaandcblndldmaaGreatBatC
import Derived.Maps.OwnSet
/- GraC -/
namespace Go.Proofs.YtaandcblndldmaaGreat
open Go.RowKit
set_option linter.unusedVariables false
set_option linter.unusedSimpArgs false

set_option maxRecDepth 100000 in
theorem keyD_form (v : Value) (l : Lit) (h : keyOf Tryz.prog 49 v = some l) : ∃ d, v = mkD d ∧ okD d := by
  obtain ⟨xs, L, rfl, hL, _⟩ := keyOf_top (by rw [Tryz.underlying49]) h
  have hc : Tryz.prog.cellsOf 49 = 3 := by kernel_rfl
  have hlen : xs.toList.length = 3 := by
    have h' := hL
    unfold Program.keyLits at h'
    rw [Tryz.underlying49] at h'
    simp only [hc] at h'
    split at h'
    · rename_i hc; exact hc.1
    · cases h'
  obtain ⟨n, hn⟩ : ∃ n, Tryz.prog.types.size = n + 2 := ⟨Tryz.prog.types.size - 2, by have : 2 ≤ Tryz.prog.types.size := of_decide_eq_true (by kernel_rfl); omega⟩
  rw [hn] at hL
  obtain ⟨l⟩ := xs
  match l, hlen with
  | [x, y, z], _ =>
    have h0 : Tryz.prog.keyLits (n + 3) 49 [x, y, z] = some L := hL
    have h4 := keyLits_three (d := n + 2) Tryz.underlying49 (by decide) (by decide) rfl rfl (by kernel_rfl) (by kernel_rfl) (by kernel_rfl) x y z
    have h2 := keyLits_two (d := n) Tryz.underlying24 (by decide) (by decide) rfl rfl (by kernel_rfl) (by kernel_rfl) (by kernel_rfl) Tryz.underlying5 Tryz.underlying22 x y
    have h3 : Tryz.prog.keyLits (n + 2) 26 [z] = litOf .u64 z := keyLits_one (d := n + 1) Tryz.underlying26 z
    rw [h4, h2, h3] at h0
    cases e0 : litOf .u8 x with
    | none => rw [e0] at h0; cases h0
    | some A =>
      rw [e0] at h0
      cases e1 : litOf .u32 y with
      | none => rw [e1] at h0; cases h0
      | some B =>
        rw [e1] at h0
        cases e2 : litOf .u64 z with
        | none => rw [e2] at h0; cases h0
        | some C =>
          obtain ⟨a, rfl, ha⟩ := litOf_some e0
          obtain ⟨b, rfl, hb⟩ := litOf_some e1
          obtain ⟨c, rfl, hc⟩ := litOf_some e2
          exact ⟨((a, b), c), rfl, ⟨(wf8 a).1 ha, (wf32 b).1 hb⟩, (wf64 c).1 hc⟩
theorem keyD_inv {d : Dt} {l : Lit} (h : keyOf Tryz.prog 49 (mkD d) = some l) : okD d := by
  obtain ⟨b, hb, hok⟩ := keyD_form _ _ h
  rw [mkD_inj hb]; exact hok
theorem keysD : KeyAs Tryz.prog 49 mkD := ⟨keyedD, fun v l h => by obtain ⟨a, ha, _⟩ := keyD_form v l h; exact ⟨a, ha⟩, fun a b h => mkD_inj h⟩

/-- block b is a map of exactly n dots that holds f -/
def MapN (w : World) (b n : Nat) (f : Dt → Option Value) : Prop := ∃ D : DataW Value, w.ownsMap Tryz.prog 49 heldE b n D ∧ HoldsF Tryz.prog 49 mkD D f ∧ Maps.size D = n
theorem MapN.made (w : World) : MapN (w.alloc (.map #[] 0)) w.heap.size 0 (fun _ => none) := ⟨.map [], World.ownsMap_made w _ _ heldE, ⟨⟨[], rfl⟩, fun a l _ => ⟨rfl, fun v h => by cases h⟩⟩, rfl⟩
theorem MapN.mapF {w : World} {b n : Nat} {f : Dt → Option Value} (h : MapN w b n f) : MapF w Tryz.prog 49 mkD b n f := by obtain ⟨D, h1, h2, _⟩ := h; exact ⟨D, h1, h2⟩
theorem MapN.lt {w : World} {b n : Nat} {f : Dt → Option Value} (h : MapN w b n f) : b < w.heap.size := h.mapF.lt
theorem MapN.chg {F : List Nat} {w w' : World} {b n : Nat} {f : Dt → Option Value} (h : MapN w b n f) (hc : Chg F w w') (hb : b ∉ F) : MapN w' b n f := by
  obtain ⟨D, ⟨es, clock, h1, h2⟩, h3⟩ := h
  exact ⟨D, ⟨es, clock, heap_chg h1 hc hb, h2⟩, h3⟩
theorem MapN.below {w w' : World} {b n : Nat} {f : Dt → Option Value} (h : MapN w b n f) (hb : Below w.heap.size w w') : MapN w' b n f := h.chg (F := []) (Chg.of_below hb) (by simp)
theorem MapN.congr {w : World} {b n : Nat} {f g : Dt → Option Value} (h : MapN w b n f) (hg : ∀ d, okD d → f d = g d) : MapN w b n g := by
  obtain ⟨D, h1, ⟨h2, h3⟩, h4⟩ := h
  exact ⟨D, h1, ⟨h2, fun a l hl => by rw [← hg a (keyD_inv hl)]; exact h3 a l hl⟩, h4⟩
theorem MapN.block {w : World} {b n : Nat} {f : Dt → Option Value} (h : MapN w b n f) : ∃ es clock, w.heap[b]? = some (.map es clock) := by
  obtain ⟨D, ⟨es, clock, h1, h2⟩, h3⟩ := h
  exact ⟨es, clock, h1⟩
theorem MapN.len {w : World} {b n : Nat} {f : Dt → Option Value} (h : MapN w b n f) {t e : TypeId} (ht : Tryz.prog.underlying t = some (.map 49 e)) (ty : TypeId) : (Builtin.len_ #[t] ty #[.map (some b)]).run Tryz.prog w = .ok (.int .i64 n) w := by
  obtain ⟨D, h1, h2, h3⟩ := h
  rw [h1.len ht, h3]
set_option maxRecDepth 100000 in
theorem MapN.look {w : World} {b n : Nat} {f : Dt → Option Value} (h : MapN w b n f) {t e : TypeId} (ht : Tryz.prog.underlying t = some (.map 49 e)) {z : Value} (hz : ∀ w, (zeroValue e).run Tryz.prog w = .ok z w) {r i s : Int} (hd : okD ((r, i), s)) :
    (Instr.lookup t (.map (some b)) (.agg #[.int .u8 r, .int .u32 i, .int .u64 s]) false).run Tryz.prog w = .ok ((f ((r, i), s)).getD z) w := by
  obtain ⟨l, hl⟩ := keyD_ok hd
  exact h.mapF.look keysD ht (hz w) hl
set_option maxRecDepth 100000 in
theorem MapN.look2 {w : World} {b n : Nat} {f : Dt → Option Value} (h : MapN w b n f) {t e : TypeId} (ht : Tryz.prog.underlying t = some (.map 49 e)) {z : Value} (hz : ∀ w, (zeroValue e).run Tryz.prog w = .ok z w) {r i s : Int} (hd : okD ((r, i), s)) :
    (Instr.lookup t (.map (some b)) (.agg #[.int .u8 r, .int .u32 i, .int .u64 s]) true).run Tryz.prog w = .ok (.tuple #[(f ((r, i), s)).getD z, .bool (f ((r, i), s)).isSome]) w := by
  obtain ⟨l, hl⟩ := keyD_ok hd
  obtain ⟨D, h1, ⟨h2, h3⟩, h4⟩ := h
  obtain ⟨v, ps, hr, hv⟩ := h1.look_ok keyedD ht (hz w) (zd := .held z) (zp := []) rfl hl
  obtain ⟨g1, g2⟩ := h3 ((r, i), s) l hl
  have hv' : D.atKey l (.held z) = .held v := by simp [heldE] at hv; exact hv.1.symm
  show (Instr.lookup t (.map (some b)) (mkD ((r, i), s)) true).run Tryz.prog w = _
  rw [hr, g1]
  cases hf : f ((r, i), s) with
  | none =>
    rw [hf] at g1
    rw [Maps.atKey_of_not_has g1] at hv'
    injection hv' with e
    subst e; rfl
  | some u =>
    rw [g2 u hf] at hv'
    injection hv' with e
    subst e; rfl
set_option maxRecDepth 100000 in
theorem MapN.update {w : World} {b n : Nat} {f : Dt → Option Value} (h : MapN w b n f) {t e : TypeId} (ht : Tryz.prog.underlying t = some (.map 49 e)) (hn : n < maxLen) {r i s : Int} (hd : okD ((r, i), s)) (hf : f ((r, i), s) = none) (val : Value) :
    ∃ w', (Instr.mapUpdate t (.map (some b)) (.agg #[.int .u8 r, .int .u32 i, .int .u64 s]) val).run Tryz.prog w = .ok () w' ∧ MapN w' b (n + 1) (fun x => if x = ((r, i), s) then some val else f x) ∧ Chg [b] w w' := by
  obtain ⟨l, hl⟩ := keyD_ok hd
  obtain ⟨D, h1, h2, h3⟩ := h
  obtain ⟨w', hr, ho, hg⟩ := h1.update keyedD ht hn hl (d := .held val) (ps := []) rfl
  have hnot : Maps.has D l = false := by rw [(h2.2 _ l hl).1, hf]; rfl
  refine ⟨w', hr, ⟨D.put l (.held val), ho, ⟨h2.1.put _ _, fun x lx hx => ?_⟩, ?_⟩, (Chg.grown hg).mono (by simp)⟩
  · dsimp only
    by_cases e : x = ((r, i), s)
    · subst e
      rw [hl] at hx
      cases hx
      rw [if_pos rfl]
      exact ⟨Maps.has_put_same h2.1 (keyedD.key hl) _, fun v hv z => by cases hv; exact Maps.atKey_put_same h2.1 (keyedD.key hl) _ _⟩
    · rw [if_neg e]
      have hne : lx ≠ l := fun e' => e (keysD.inj _ _ (keyedD.inj hx (e' ▸ hl)))
      obtain ⟨h4, h5⟩ := h2.2 x lx hx
      exact ⟨(Maps.has_put_other hne _).trans h4, fun v hv z => (Maps.atKey_put_other hne _ _).trans (h5 v hv z)⟩
  · rw [Maps.size_put (h1.tidy keyedD), hnot, h3]; rfl

/-- a commit in rows of its own -/
structure CwOwn (w : World) (base : Nat) (v : Cw) : Prop where
  ps : OwnD w base v.qa v.qc v.c.ps
  vv : OwnD w base v.va v.vc v.c.vv
  pt : OwnS w base v.pa v.pc v.c.o.p
  ds : OwnD w base v.da v.dc v.c.o.ds
  ok : okC v.c
theorem CwOwn.at_ {w : World} {base : Nat} {v : Cw} (h : CwOwn w base v) : CwAt w v := ⟨h.ps.vec, h.vv.vec, h.pt.strs, h.ds.vec, h.ok⟩
theorem CwOwn.base {w : World} {base base' : Nat} {v : Cw} (h : CwOwn w base v) (hb : base' ≤ base) : CwOwn w base' v := ⟨h.ps.base hb, h.vv.base hb, h.pt.base hb, h.ds.base hb, h.ok⟩
theorem CwOwn.below {w w' : World} {base : Nat} {v : Cw} (h : CwOwn w base v) (hb : Below w.heap.size w w') : CwOwn w' base v := ⟨h.ps.below hb, h.vv.below hb, h.pt.below hb, h.ds.below hb, h.ok⟩
/-- blocks that hold no dots and no names -/
def NoRow (w : World) (F : List Nat) : Prop := ∀ k ∈ F, ∀ C t fr, w.heap[k]? = some (.cells C t fr) → t ≠ 49 ∧ t ≠ 9
theorem ob_row {w : World} {base : Nat} {e : TypeId} {size n c m : Nat} {a : Option Addr} {xs : List Value} (h : w.ownsRow base e size (.slice a n c) m xs) : ∀ k ∈ ob a, ∃ C fr, w.heap[k]? = some (.cells C e fr) := by
  intro k hk
  rcases h.2 with ⟨h2, _⟩ | ⟨g, cap, cur, h2, _, hg, _⟩
  · injection h2 with h2
    subst h2
    simp [ob] at hk
  · injection h2 with h2
    subst h2
    simp [ob] at hk
    subst hk
    exact ⟨_, _, hg⟩
theorem OwnD.far {w : World} {base : Nat} {a : Option Addr} {c : Nat} {v : List Dt} {F : List Nat} (h : OwnD w base a c v) (hF : NoRow w F) : ∀ k ∈ ob a, k ∉ F := fun k hk hm => by
  obtain ⟨C, fr, hh⟩ := ob_row h k hk
  exact (hF k hm _ _ _ hh).1 rfl
theorem OwnS.far {w : World} {base : Nat} {a : Option Addr} {c : Nat} {v : List ByteArray} {F : List Nat} (h : OwnS w base a c v) (hF : NoRow w F) : ∀ k ∈ ob a, k ∉ F := fun k hk hm => by
  obtain ⟨C, fr, hh⟩ := ob_row h k hk
  exact (hF k hm _ _ _ hh).2 rfl
theorem OwnD.chg {w w' : World} {base : Nat} {a : Option Addr} {c : Nat} {v : List Dt} {F : List Nat} (h : OwnD w base a c v) (hc : Chg F w w') (hF : NoRow w F) : OwnD w' base a c v := owns_chg h hc (h.far hF)
theorem OwnS.chg {w w' : World} {base : Nat} {a : Option Addr} {c : Nat} {v : List ByteArray} {F : List Nat} (h : OwnS w base a c v) (hc : Chg F w w') (hF : NoRow w F) : OwnS w' base a c v := owns_chg h hc (h.far hF)
theorem CwOwn.chg {w w' : World} {base : Nat} {v : Cw} {F : List Nat} (h : CwOwn w base v) (hc : Chg F w w') (hF : NoRow w F) : CwOwn w' base v := ⟨h.ps.chg hc hF, h.vv.chg hc hF, h.pt.chg hc hF, h.ds.chg hc hF, h.ok⟩

/-- a baseline, and where it lies -/
structure Bw where
  b : Bs
  fa : Option Addr
  fc : Nat
  ta : Option Addr
  tc : Nat
  ra : Option Addr
  rc : Nat
structure BwAt (w : World) (m : Nat) (v : Bw) : Prop where
  f : Vec w v.fa v.fc v.b.f
  tips : Vec w v.ta v.tc v.b.tips
  tr : TrRd w m v.ra v.rc v.b.tr
  okf : okV v.b.f
  okt : okV v.b.tips
  num : 0 ≤ v.b.num ∧ v.b.num ≤ 18446744073709551615
  t : 0 ≤ v.b.t ∧ v.b.t ≤ 18446744073709551615
theorem BwAt.below {w w' : World} {m : Nat} {v : Bw} (h : BwAt w m v) (hb : Below w.heap.size w w') : BwAt w' m v := ⟨h.f.below hb, h.tips.below hb, h.tr.below hb, h.okf, h.okt, h.num, h.t⟩
/-- a commit as a map's element -/
def cwv (v : Cw) : Value := .agg (cwcells v)
def fdW (L : List Cw) : Dt → Option Cw := fun d => L.find? fun v => decide (v.c.d = d)
def fvW (L : List Cw) : Dt → Option Value := fun d => (fdW L d).map cwv
def cms (L : List Cw) : List Cm := L.map (·.c)
theorem fdW_c (L : List Cw) (d : Dt) : (fdW L d).map (·.c) = findC (cms L) d := by
  unfold fdW findC cms
  rw [List.find?_map]
  rfl
theorem fdW_some {L : List Cw} {d : Dt} {v : Cw} (h : fdW L d = some v) : v ∈ L ∧ v.c.d = d := ⟨List.mem_of_find?_eq_some h, by have := List.find?_some h; simpa using this⟩
abbrev gcells (num : Int) (fa : Option Addr) (fn fc : Nat) (ta : Option Addr) (tn tc : Nat) (t : Int) (ra : Option Addr) (rn rc mb : Nat) (va : Option Addr) (vn vc : Nat) : Array Value :=
  #[.int .u64 num, .slice fa fn fc, .slice ta tn tc, .int .u64 t, .slice ra rn rc, .map (some mb), .slice va vn vc]
/-- a graph at block pg, its map at block mb, its baseline known in an older world -/
structure GrAt (w : World) (pg mb : Nat) (w0 : World) (m : Nat) (b : Bw) (L : List Cw) (va : Option Addr) (vc : Nat) (vv : List Dt) : Prop where
  blk : w.heap[pg]? = some (.cells (gcells b.b.num b.fa b.b.f.length b.fc b.ta b.b.tips.length b.tc b.b.t b.ra b.b.tr.length b.rc mb va vv.length vc) 118 (0, 0))
  map : MapN w mb L.length (fvW L)
  old : w0.heap.size ≤ pg ∧ w0.heap.size ≤ mb
  bel : Below w0.heap.size w0 w
  base : BwAt w0 m b
  each : ∀ v ∈ L, CwOwn w 0 v
  own : OwnD w 0 va vc vv
  okv : okV vv
  nodup : ((cms L).map (·.d)).Nodup
  may : ∀ v ∈ L, CmP v.c
  max : L.length ≤ 200
  fmax : b.b.f.length ≤ 100000
  tmax : b.b.tips.length ≤ 100000
  vmax : vv.length ≤ 100000
  bp : BaseP b.b
  out : ∀ v ∈ L, hasV b.b.f v.c.d = false
theorem GrAt.ne {w : World} {pg mb : Nat} {w0 : World} {m : Nat} {b : Bw} {L : List Cw} {va : Option Addr} {vc : Nat} {vv : List Dt} (h : GrAt w pg mb w0 m b L va vc vv) : pg ≠ mb := fun e => by
  obtain ⟨es, clock, hh⟩ := h.map.block
  rw [← e, h.blk] at hh
  cases hh
theorem GrAt.chg {F : List Nat} {w w' : World} {pg mb : Nat} {w0 : World} {m : Nat} {b : Bw} {L : List Cw} {va : Option Addr} {vc : Nat} {vv : List Dt} (h : GrAt w pg mb w0 m b L va vc vv) (hc : Chg F w w') (hp : pg ∉ F) (hm : mb ∉ F) (hF : NoRow w F) (h0 : ∀ k ∈ F, w0.heap.size ≤ k) : GrAt w' pg mb w0 m b L va vc vv :=
  ⟨heap_chg h.blk hc hp, h.map.chg hc hm, h.old, h.bel.trans (hc.below h.bel.size h0), h.base, fun v hv => (h.each v hv).chg hc hF, h.own.chg hc hF, h.okv, h.nodup, h.may, h.max, h.fmax, h.tmax, h.vmax, h.bp, h.out⟩
theorem GrAt.below {w w' : World} {pg mb : Nat} {w0 : World} {m : Nat} {b : Bw} {L : List Cw} {va : Option Addr} {vc : Nat} {vv : List Dt} (h : GrAt w pg mb w0 m b L va vc vv) (hb : Below w.heap.size w w') : GrAt w' pg mb w0 m b L va vc vv :=
  h.chg (F := []) (Chg.of_below hb) (by simp) (by simp) (fun k hk => by cases hk) (fun k hk => by cases hk)
theorem GrAt.fvec {w : World} {pg mb : Nat} {w0 : World} {m : Nat} {b : Bw} {L : List Cw} {va : Option Addr} {vc : Nat} {vv : List Dt} (h : GrAt w pg mb w0 m b L va vc vv) : Vec w b.fa b.fc b.b.f := h.base.f.below h.bel
end Go.Proofs.YtaandcblndldmaaGreat

/- GraD -/
namespace Go.Proofs.YtaandcblndldmaaGreat
open Go.RowKit
set_option linter.unusedVariables false
set_option linter.unusedSimpArgs false

@[go_sem] theorem eql_map_none (w : World) : (binOp .eql 116 (.map none) (.map none)).run Tryz.prog w = .ok (.bool true) w := by kernel_rfl
@[go_sem] theorem eql_map_some (mb : Nat) (w : World) : (binOp .eql 116 (.map (some mb)) (.map none)).run Tryz.prog w = .ok (.bool false) w := by kernel_rfl
theorem none_nil (w : World) : Calls Tryz.prog 69 #[.pointer none] w fun e w' => e = .returned (.bool true) ∧ w' = w := by
  go_enter Tryz.func69, Tryz.ntmps69
  go_wp2_with fail
  go_ret
  exact ⟨rfl, rfl⟩
set_option maxRecDepth 100000 in
theorem none_some (pg mb : Nat) (w : World) (h : w.cell? ⟨pg, 5, none⟩ = some (.map (some mb))) : Calls Tryz.prog 69 #[.pointer (some ⟨pg, 0, none⟩)] w fun e w' => e = .returned (.bool false) ∧ w' = w := by
  go_enter Tryz.func69, Tryz.ntmps69
  go_wp2_with fail
  go_ret
  exact ⟨rfl, rfl⟩
/-- a commit that is none -/
def zeroCw : Cw := ⟨zeroC, none, 0, none, 0, none, 0, none, 0⟩
theorem zeroCommit (w : World) : (zeroValue 54).run Tryz.prog w = .ok (.agg #[.int .u8 0, .int .u32 0, .int .u64 0, .slice none 0 0, .slice none 0 0, .int .u64 0, .int .u8 0, .slice none 0 0, .int .i64 0, .string ⟨#[]⟩, .slice none 0 0]) w := by kernel_rfl
theorem GrAt.look2 {w W : World} {pg mb : Nat} {w0 : World} {m : Nat} {b : Bw} {L : List Cw} {va : Option Addr} {vc : Nat} {vv : List Dt} (h : GrAt w pg mb w0 m b L va vc vv) (hb : Below w.heap.size w W) {r i s : Int} (hd : okD ((r, i), s)) :
    (Instr.lookup 116 (.map (some mb)) (.agg #[.int .u8 r, .int .u32 i, .int .u64 s]) true).run Tryz.prog W = .ok (.tuple #[(fvW L ((r, i), s)).getD (cwv zeroCw), .bool (fvW L ((r, i), s)).isSome]) W :=
  (h.below hb).map.look2 Tryz.underlying116 zeroCommit hd
theorem GrAt.no2 {w W : World} {pg mb : Nat} {w0 : World} {m : Nat} {b : Bw} {L : List Cw} {va : Option Addr} {vc : Nat} {vv : List Dt} (h : GrAt w pg mb w0 m b L va vc vv) (hb : Below w.heap.size w W) {r i s : Int} (hd : okD ((r, i), s)) (hf : fdW L ((r, i), s) = none) :
    (Instr.lookup 116 (.map (some mb)) (.agg #[.int .u8 r, .int .u32 i, .int .u64 s]) true).run Tryz.prog W = .ok (.tuple #[.agg (ccells 0 0 0 none 0 0 none 0 0 0 0 none 0 0 0 ⟨#[]⟩ none 0 0), .bool false]) W := by
  rw [h.look2 hb hd, fvW, hf]; rfl
theorem GrAt.yes2 {w W : World} {pg mb : Nat} {w0 : World} {m : Nat} {b : Bw} {L : List Cw} {va : Option Addr} {vc : Nat} {vv : List Dt} (h : GrAt w pg mb w0 m b L va vc vv) (hb : Below w.heap.size w W) {r i s : Int} (hd : okD ((r, i), s)) {v : Cw} (hf : fdW L ((r, i), s) = some v) :
    (Instr.lookup 116 (.map (some mb)) (.agg #[.int .u8 r, .int .u32 i, .int .u64 s]) true).run Tryz.prog W = .ok (.tuple #[.agg (cwcells v), .bool true]) W := by
  rw [h.look2 hb hd, fvW, hf]; rfl
theorem GrAt.c5 {w : World} {pg mb : Nat} {w0 : World} {m : Nat} {b : Bw} {L : List Cw} {va : Option Addr} {vc : Nat} {vv : List Dt} (h : GrAt w pg mb w0 m b L va vc vv) : w.cell? ⟨pg, 5, none⟩ = some (.map (some mb)) := by rw [cells_at h.blk]; rfl
theorem hasG_some {F : List Dt} {L : List Cw} {d : Dt} {v : Cw} (h : fdW L d = some v) : hasG F (findC (cms L)) d = true := by
  unfold hasG
  rw [← fdW_c, h]; rfl
theorem hasG_none {F : List Dt} {L : List Cw} {d : Dt} (h : fdW L d = none) : hasG F (findC (cms L)) d = hasV F d := by
  unfold hasG
  rw [← fdW_c, h]; simp
set_option maxRecDepth 100000 in
set_option maxHeartbeats 4000000 in
theorem has_G (pg mb : Nat) (w0 : World) (m : Nat) (b : Bw) (L : List Cw) (va : Option Addr) (vc : Nat) (vv : List Dt) (r i s : Int) (w : World) (h : GrAt w pg mb w0 m b L va vc vv) (hd : okD ((r, i), s)) :
    Calls Tryz.prog 77 #[.pointer (some ⟨pg, 0, none⟩), .agg #[.int .u8 r, .int .u32 i, .int .u64 s]] w fun e w' => e = .returned (.bool (hasG b.b.f (findC (cms L)) ((r, i), s))) ∧ Below w.heap.size w w' := by
  have H := Lib.hid h
  have g0 := cells_at h.blk
  simp only [gcells] at g0
  have hpg := heap_lt h.blk
  clear h
  have hB1 : Below w.heap.size w (w.alloc (.cells #[.int .u8 r, .int .u32 i, .int .u64 s] 49)).drew := ((Below.refl _ _).alloc (Nat.le_refl _) _).drew
  have HB1 := Lib.hid hB1
  have hB0 : Below w.heap.size w (w.alloc (.cells #[.int .u8 r, .int .u32 i, .int .u64 s] 49)) := (Below.refl _ _).alloc (Nat.le_refl _) _
  have HB0 := Lib.hid hB0
  go_enter Tryz.func77, Tryz.ntmps77
  go_wp2_with fail
  refine (none_some pg mb _ (H.out.below ((Below.refl _ _).alloc (Nat.le_refl _) _)).c5).mono ?_
  rintro e w1 ⟨rfl, rfl⟩
  cases hf : fdW L ((r, i), s) with
  | none =>
    have l1 := H.out.no2 hB1 hd hf
    have l2 := H.out.no2 (hB0.alloc (by simp) (.cells (ccells 0 0 0 none 0 0 none 0 0 0 0 none 0 0 0 ⟨#[]⟩ none 0 0) 54)).drew hd hf
    have Hf := Lib.hid hf
    simp only [ccells] at l1 l2
    clear hB1 hB0 hf
    go_wp2_with fail
    refine region_tree (.seg [0, 1, 2, 3, 4] false (.fork (.seg [5, 6, 7, 8, 9, 10, 11] false .done) (.seg [9, 5, 6, 7, 8, 10, 11] false .done))) mixed (by kernel_rfl) ?_
    simp only [wpSg, List.map_cons, List.map_nil, List.getD_cons_succ, List.getD_cons_zero]
    go_wp2_with fail
    refine And.intro ?_ ?_
    all_goals
      go_wp2_with fail
      refine And.intro (by kernel_rfl) ?_
      go_wp2_with fail
      refine region_text [([0, 1, 2, 3, 4, 5, 6, 7, 8, 9, 10], false)] mixed (by kernel_rfl) ?_
      simp only [wpSegs, List.map_cons, List.map_nil, List.getD_cons_succ, List.getD_cons_zero]
      go_wp2_with fail
      have hB2 : Below w.heap.size w (((w.alloc (.cells #[.int .u8 r, .int .u32 i, .int .u64 s] 49)).alloc (.cells (ccells 0 0 0 none 0 0 none 0 0 0 0 none 0 0 0 ⟨#[]⟩ none 0 0) 54)).drew.drew) := (HB0.out.alloc (by simp) _).drew.drew
      refine (has_any b.fa b.fc b.b.f r i s _ (H.out.fvec.below hB2) (by have := H.out.fmax; omega) H.out.base.okf hd.1).mono ?_
      rintro e w1 ⟨rfl, hb1⟩
      have HB3 := Lib.hid (below2 hB2 hb1 hB2.size)
      clear hB2 hb1 l1 l2
      go_wp2_with fail
      refine And.intro (by kernel_rfl) ?_
      go_wp2_with fail
      all_goals (go_ret; exact ⟨by rw [hasG_none Hf.out]; rfl, HB3.out⟩)
  | some v =>
    obtain ⟨⟨⟨⟨r0, i0⟩, s0⟩, ps, uu, t, ⟨k, n, x, p, ds⟩⟩, qa, qc, ua, uc, pa, pc, da, dc⟩ := v
    have l1 := H.out.yes2 hB1 hd hf
    have l2 := H.out.yes2 (hB0.alloc (by simp) (.cells (ccells 0 0 0 none 0 0 none 0 0 0 0 none 0 0 0 ⟨#[]⟩ none 0 0) 54)).drew hd hf
    have Hf := Lib.hid hf
    simp only [ccells, cwcells] at l1 l2
    clear hB1 hB0 hf
    go_wp2_with fail
    refine region_tree (.seg [0, 1, 2, 3, 4] false (.fork (.seg [5, 6, 7, 8, 9, 10, 11] false .done) (.seg [9, 5, 6, 7, 8, 10, 11] false .done))) mixed (by kernel_rfl) ?_
    simp only [wpSg, List.map_cons, List.map_nil, List.getD_cons_succ, List.getD_cons_zero]
    go_wp2_with fail
    refine And.intro ?_ ?_
    all_goals
      go_wp2_with fail
      refine And.intro (by kernel_rfl) ?_
      go_wp2_with fail
      refine region_text [([0, 1, 2, 3, 4, 5, 6, 7, 8, 9, 10], false)] mixed (by kernel_rfl) ?_
      simp only [wpSegs, List.map_cons, List.map_nil, List.getD_cons_succ, List.getD_cons_zero]
      go_wp2_with fail
      refine And.intro (by kernel_rfl) ?_
      go_wp2_with fail
      all_goals (go_ret; exact ⟨by rw [hasG_some Hf.out]; rfl, ((HB0.out.alloc (by simp) _).drew).drew⟩)
end Go.Proofs.YtaandcblndldmaaGreat

/- GraE -/
namespace Go.Proofs.YtaandcblndldmaaGreat
open Go.RowKit
set_option linter.unusedVariables false
set_option linter.unusedSimpArgs false

theorem append_two {P : Program} (t u ty e e' : TypeId) (ht : P.underlying t = some (.slice e)) (hu : P.underlying u = some (.slice e')) (i : TypeInfo) (hi : P.info? e = some i) (va : Option Addr) (n c : Nat) (x : Value) (w : World) :
    (Builtin.append_ #[t, u] ty #[.slice va n c, x]).run P w = (Builtin.append_ #[t, t] ty #[.slice va n c, x]).run P w := by
  simp [Builtin.append_, run_underlying ht, run_underlying hu, sizeOf, typeInfo, hi]
section
variable {ops : Array Oper} {rest : List Oper} {o : Oper} {a : Act} {Q : Exit → Act → World → Prop} {w : World}
theorem wpList_appVD (hgd : o.guard = none) (s x : Operand) (ho : o.op = .call { callee := .builtin .append, args := #[s, x], argTypes := #[28, 27] })
    (base : Nat) (va : Option Addr) (vc : Nat) (v : List Dt) (hs : a.eval s = .slice va v.length vc) (hown : OwnD w base va vc v)
    (sa : Option Addr) (c : Nat) (u : List Dt) (hx : a.eval x = .slice sa u.length c) (hsl : Vec w sa c u) (hn : v.length + u.length ≤ 3000000) (hbase : base ≤ w.heap.size)
    (h : ∀ v' a' c' w', v' = v ++ u → OwnD w' base a' c' v' → Below base w w' → Chg (ob va) w w' → wpList Tryz.prog ops Q rest (a.put o.dst (.slice a' (List.length v') c')) w') : wpList Tryz.prog ops Q (o :: rest) a w := by
  obtain ⟨i0, hi0, hz0, hz1, hz2⟩ := info_parts Tryz.info_dot
  obtain ⟨a', c', w', hr, h2, h3, h4⟩ := run_append_sl (P := Tryz.prog) w 28 o.type base 49 i0 (.agg #[.int .u8 0, .int .u32 0, .int .u64 0]) 3 16 Tryz.underlying28 hi0 hz0 hz1 hz2 rfl (by decide) va v.length vc (dcells v) hown sa u.length c (dcells u) hsl (dcells_one u) (by unfold maxLen; omega) (by omega) hbase
  rw [← append_two 28 27 _ _ _ Tryz.underlying28 Tryz.underlying27 i0 hi0] at hr
  refine wpList_plain hgd fun K hK => ?_
  unfold Oper.wp
  simp only [execOp, ho, resolve, invoke, builtin, Sem.run_bind, Sem.run_pure, Result.andThen_ok, List.map_toArray, List.map_cons, List.map_nil, hs, hx, hr]
  have := h (v ++ u) a' c' w' rfl (by unfold OwnD; rw [dcells_append, List.length_append]; exact h2) (h3.below hbase fun k hk => (owns_lt hown k hk).1) h3
  rw [List.length_append] at this
  exact hK _ _ this
end
theorem field_cvv (a b c d e f g h i j k : Value) (w : World) : (Instr.field 54 (.agg #[a, b, c, d, e, f, g, h, i, j, k]) 2).run Tryz.prog w = .ok e w := by kernel_rfl
attribute [go_sem] field_cvv
theorem OwnD.one (w : World) {base : Nat} (h : base ≤ w.heap.size) (r i s : Int) : OwnD (w.alloc (.cells #[.int .u8 r, .int .u32 i, .int .u64 s] 49)) base (some ⟨w.heap.size, 0, none⟩) 1 [((r, i), s)] :=
  ⟨rfl, .inr ⟨w.heap.size, 1, #[.int .u8 r, .int .u32 i, .int .u64 s], rfl, h, heap_new w _, Nat.le_refl _, by decide, rfl, rfl⟩⟩
def KnTo (w : World) (F : List Dt) (fd : Fd) (c : Cm) (e : Ending) (w' : World) : Prop := ∃ K, (∀ x, getN K x = knN F fd c c.ps x) ∧ okV K ∧ K.length ≤ 64 ∧ VecTo w K e w'
def JKn (w : World) (C : Array Value) (F : List Dt) (fd : Fd) (c : Cm) (kv j : Value) (wr : World) : Prop :=
  ∃ (q : Nat) (ka : Option Addr) (kc : Nat) (K : List Dt), q ≤ c.ps.length ∧ j = .int .i64 q ∧ kv = .slice ka (List.length K) kc ∧ OwnD wr w.heap.size ka kc K ∧ okV K ∧ K.length ≤ 64 ∧ (∀ x, getN K x = knN F fd c (c.ps.take q) x) ∧ CmE w wr C
theorem getN_nil' (x : Ac) : getN [] x = 0 := rfl
theorem GrAt.look1 {w W : World} {pg mb : Nat} {w0 : World} {m : Nat} {b : Bw} {L : List Cw} {va : Option Addr} {vc : Nat} {vv : List Dt} (h : GrAt w pg mb w0 m b L va vc vv) (hb : Below w.heap.size w W) {r i s : Int} (hd : okD ((r, i), s)) {o : Option Cw} (hf : fdW L ((r, i), s) = o) :
    (Instr.lookup 116 (.map (some mb)) (.agg #[.int .u8 r, .int .u32 i, .int .u64 s]) false).run Tryz.prog W = .ok (.agg (cwcells (o.getD zeroCw))) W := by
  rw [(h.below hb).map.look Tryz.underlying116 zeroCommit hd, fvW, hf]
  cases o <;> rfl
theorem knN_next (F : List Dt) (fd : Fd) (c : Cm) {q : Nat} {p : Dt} (h : c.ps[q]? = some p) (x : Ac) : knN F fd c (c.ps.take (q + 1)) x = max (knN F fd c (c.ps.take q) x) (getN (vvOf (fd p)) x) := by
  rw [take_snoc' h, knN_snoc]
set_option maxRecDepth 100000 in
set_option maxHeartbeats 8000000 in
theorem knows_G (pg mb : Nat) (w0 : World) (m : Nat) (b : Bw) (L : List Cw) (va : Option Addr) (vc : Nat) (vv : List Dt) (v : Cw) (w : World) (h : GrAt w pg mb w0 m b L va vc vv) (hv : CwAt w v) (hn : v.c.vv.length ≤ 100000) (hm : v.c.ps.length ≤ 100000) :
    Calls Tryz.prog 78 #[.pointer (some ⟨pg, 0, none⟩), .agg (cwcells v)] w (KnTo w b.b.f (findC (cms L)) v.c) := by
  obtain ⟨⟨⟨⟨r, i⟩, s⟩, ps, uu, t, ⟨k, n, x, p, ds⟩⟩, qa, qc, ua, uc, pa, pc, da, dc⟩ := v
  have H := Lib.hid h
  have HV := Lib.hid hv
  have g0 := cells_at h.blk
  simp only [gcells] at g0
  have hpg := heap_lt h.blk
  dsimp only at hn hm
  have hsz : Below w.heap.size w (w.alloc (.cells (ccells r i s qa ps.length qc ua uu.length uc t k pa p.length pc n x da ds.length dc) 54)) := (Below.refl _ _).alloc (Nat.le_refl _) _
  have HS := Lib.hid hsz
  clear h hv hsz
  simp only [cwcells]
  go_enter Tryz.func78, Tryz.ntmps78
  go_wp2_with fail
  refine region_tree (.seg [0, 1, 2, 3, 4, 5, 6, 8, 9, 11, 12] false (.fork (.seg [7] true (.seg [10, 13, 14, 15] false .done)) (.seg [10] false (.seg [7] true (.seg [13, 14, 15] false .done))))) mixed (by kernel_rfl) ?_
  simp only [wpSg, List.map_cons, List.map_nil, List.getD_cons_succ, List.getD_cons_zero]
  go_wp2_with fail
  refine And.intro ?ordA ?ordB
  case' ordA =>
    go_wp2_with fail
    refine (meet_any ua b.fa uc b.fc uu b.b.f _ (HV.out.vv.below HS.out.drew) (H.out.fvec.below HS.out.drew) HV.out.ok.vv H.out.base.okf (by omega) (by have := H.out.fmax; omega)).mono ?_
    rintro e w1 ⟨a1, c1, rfl, hown, hb1⟩
    have Hb1 := Lib.hid hb1
    have E : Hid (CmE w w1 (ccells r i s qa ps.length qc ua uu.length uc t k pa p.length pc n x da ds.length dc)) := Lib.hid (CmE.of (((Below.refl _ _).drew).trans hb1))
    have Hown := Lib.hid hown
    clear hown hb1
    go_wp2_with fail
    refine And.intro (Agree.of_below Hb1.out) ?_
    go_wp2_with (at_builtin; go_must (refine wpList_appVD rfl _ _ rfl w1.heap.size (some ⟨w1.heap.size, 0, none⟩) 1 [((r, i), s)] rfl (OwnD.one w1 (Nat.le_refl _) r i s) qa qc ps rfl ((HV.out.ps.below E.out.bel).below ((Below.refl _ _).alloc (Nat.le_refl _) _)) ?n1 ?b1 ?_))
    case n1 => simp; omega
    case b1 => simp
    intro v' a' c' w2 hv' ho2 hb2 _
    have HB2 := Lib.hid hb2
    have Ho2 := Lib.hid ho2
    have Hv' := Lib.hid hv'
    have hl' : v'.length ≤ 200000 := by rw [hv']; simp; omega
    clear hv' ho2 hb2
    have hok' : okV v' := by
      rw [Hv'.out]; intro y hy
      rcases List.mem_cons.1 hy with rfl | hy
      · exact HV.out.ok.d
      · exact HV.out.ok.ps y hy
    have hW : Below w1.heap.size w1 w2 := ((Below.refl _ _).alloc (Nat.le_refl _) _).trans HB2.out
    have HW := Lib.hid hW
    clear hW
    go_wp2_with fail
    refine (join_any a1 a' c1 c' (meetV uu b.b.f) v' _ ((vec_of Hown.out).below HW.out) Ho2.out.vec (okV_meetV HV.out.ok.vv H.out.base.okf) hok' (by have := vecOf_length (fun x => min (getN uu x) (getN b.b.f x)); unfold meetV; omega) (by omega)).mono ?_
    rintro e w4 ⟨a3, c3, rfl, hown3, hb3⟩
    have E4 : Hid (CmE w w4 (ccells r i s qa ps.length qc ua uu.length uc t k pa p.length pc n x da ds.length dc)) := Lib.hid ((E.out.step HW.out).step hb3)
    obtain ⟨K0, hK0⟩ : ∃ K0, K0 = joinV (meetV uu b.b.f) v' := ⟨_, rfl⟩
    rw [← hK0] at hown3 ⊢
    have Own4 := Lib.hid (show OwnD w4 w.heap.size a3 c3 K0 from owns_base hown3 (by have := E.out.bel.size; have := HW.out.size; omega))
    have HN : Hid (∀ y, getN K0 y = knN b.b.f (findC (cms L)) ⟨((r, i), s), ps, uu, t, ⟨k, n, x, p, ds⟩⟩ (ps.take 0) y) := Lib.hid (fun y => by
      rw [hK0, getN_joinV (okV_meetV HV.out.ok.vv H.out.base.okf) hok', getN_meetV HV.out.ok.vv H.out.base.okf, Hv'.out]; rfl)
    have HK : Hid (okV K0 ∧ K0.length ≤ 64) := Lib.hid ⟨by rw [hK0]; exact okV_joinV (okV_meetV HV.out.ok.vv H.out.base.okf) hok', by rw [hK0]; exact vecOf_length _⟩
    have d0 := cells_at E4.out.blk
    simp only [ccells] at d0
    clear hown3 hb3 hl' hok' Hown Hb1 E HW HB2 Ho2 Hv' hK0
  case' ordB =>
    go_wp2_with fail
    have hW2 : Below w.heap.size w ((w.alloc (.cells (ccells r i s qa ps.length qc ua uu.length uc t k pa p.length pc n x da ds.length dc) 54)).alloc (.cells #[.int .u8 r, .int .u32 i, .int .u64 s] 49)).drew := (HS.out.alloc (by simp) _).drew
    refine (meet_any ua b.fa uc b.fc uu b.b.f _ (HV.out.vv.below hW2) (H.out.fvec.below hW2) HV.out.ok.vv H.out.base.okf (by omega) (by have := H.out.fmax; omega)).mono ?_
    rintro e w1 ⟨a1, c1, rfl, hown, hb1⟩
    have Hb1 := Lib.hid hb1
    have hb0 : Below (w.alloc (.cells (ccells r i s qa ps.length qc ua uu.length uc t k pa p.length pc n x da ds.length dc) 54)).heap.size (w.alloc (.cells (ccells r i s qa ps.length qc ua uu.length uc t k pa p.length pc n x da ds.length dc) 54)) ((w.alloc (.cells (ccells r i s qa ps.length qc ua uu.length uc t k pa p.length pc n x da ds.length dc) 54)).alloc (.cells #[.int .u8 r, .int .u32 i, .int .u64 s] 49)).drew := ((Below.refl _ _).alloc (Nat.le_refl _) _).drew
    have E : Hid (CmE w w1 (ccells r i s qa ps.length qc ua uu.length uc t k pa p.length pc n x da ds.length dc)) := Lib.hid (CmE.of (below2 hb0 hb1 hb0.size))
    have One : Hid (OwnD w1 w.heap.size (some ⟨w.heap.size + 1, 0, none⟩) 1 [((r, i), s)]) := Lib.hid (by
      have h1 := OwnD.one (w.alloc (.cells (ccells r i s qa ps.length qc ua uu.length uc t k pa p.length pc n x da ds.length dc) 54)) (base := w.heap.size) (by simp) r i s
      have h2 := OwnD.below (w' := w1) h1 (((Below.refl _ _).drew).trans hb1)
      simpa using h2)
    have Hown := Lib.hid hown
    clear hown hb1 hb0 hW2
    go_wp2_with fail
    refine And.intro (Agree.of_below Hb1.out) ?_
    go_wp2_with (at_builtin; go_must (refine wpList_appVD rfl _ _ rfl w.heap.size (some ⟨w.heap.size + 1, 0, none⟩) 1 [((r, i), s)] rfl One.out qa qc ps rfl (HV.out.ps.below E.out.bel) ?n1 ?b1 ?_))
    case n1 => simp; omega
    case b1 => exact E.out.bel.size
    intro v' a' c' w2 hv' ho2 hb2 hch
    have E2 : Hid (CmE w w2 (ccells r i s qa ps.length qc ua uu.length uc t k pa p.length pc n x da ds.length dc)) := Lib.hid ⟨heap_chg E.out.blk hch (by simp [ob]), E.out.bel.trans hb2⟩
    have Hown2 := Lib.hid (owns_chg Hown.out hch (fun k hk => by have h5 := (owns_lt Hown.out k hk).1; simp [ob] at h5 ⊢; omega))
    have HB2 := Lib.hid hb2
    have Ho2 := Lib.hid ho2
    have Hv' := Lib.hid hv'
    have hl' : v'.length ≤ 200000 := by rw [hv']; simp; omega
    clear hv' ho2 hb2
    have hok' : okV v' := by
      rw [Hv'.out]; intro y hy
      rcases List.mem_cons.1 hy with rfl | hy
      · exact HV.out.ok.d
      · exact HV.out.ok.ps y hy
    go_wp2_with fail
    refine (join_any a1 a' c1 c' (meetV uu b.b.f) v' _ (vec_of Hown2.out) Ho2.out.vec (okV_meetV HV.out.ok.vv H.out.base.okf) hok' (by have := vecOf_length (fun x => min (getN uu x) (getN b.b.f x)); unfold meetV; omega) (by omega)).mono ?_
    rintro e w4 ⟨a3, c3, rfl, hown3, hb3⟩
    have E4 : Hid (CmE w w4 (ccells r i s qa ps.length qc ua uu.length uc t k pa p.length pc n x da ds.length dc)) := Lib.hid (E2.out.step hb3)
    obtain ⟨K0, hK0⟩ : ∃ K0, K0 = joinV (meetV uu b.b.f) v' := ⟨_, rfl⟩
    rw [← hK0] at hown3 ⊢
    have Own4 := Lib.hid (show OwnD w4 w.heap.size a3 c3 K0 from owns_base hown3 (E2.out.bel.size))
    have HN : Hid (∀ y, getN K0 y = knN b.b.f (findC (cms L)) ⟨((r, i), s), ps, uu, t, ⟨k, n, x, p, ds⟩⟩ (ps.take 0) y) := Lib.hid (fun y => by
      rw [hK0, getN_joinV (okV_meetV HV.out.ok.vv H.out.base.okf) hok', getN_meetV HV.out.ok.vv H.out.base.okf, Hv'.out]; rfl)
    have HK : Hid (okV K0 ∧ K0.length ≤ 64) := Lib.hid ⟨by rw [hK0]; exact okV_joinV (okV_meetV HV.out.ok.vv H.out.base.okf) hok', by rw [hK0]; exact vecOf_length _⟩
    have d0 := cells_at E4.out.blk
    simp only [ccells] at d0
    clear hown3 hb3 hl' hok' Hown Hb1 E E2 One Hown2 HB2 Ho2 Hv' hK0
  all_goals
    go_wp2_with fail
    refine And.intro (by kernel_rfl) ?_
    go_wp2_with fail
    go_loopw [5, 26] (fun kv j wr => JKn w (ccells r i s qa ps.length qc ua uu.length uc t k pa p.length pc n x da ds.length dc) b.b.f (findC (cms L)) ⟨((r, i), s), ps, uu, t, ⟨k, n, x, p, ds⟩⟩ kv j wr) (fun _ j _ => ps.length - (intOf j).toNat)
    case atStart => exact ⟨0, a3, c3, K0, Nat.zero_le _, rfl, rfl, Own4.out, HK.out.1, HK.out.2, HN.out, E4.out⟩
    case round =>
      obtain ⟨q, ka, kc, K, hq, rfl, rfl, hown, hok, hlen, hN, hE⟩ := hrel
      dsimp only at hq
      clear E4 Own4 HN HK d0 g0
      have Own := Lib.hid hown
      have Hok := Lib.hid hok
      have Hlen := Lib.hid hlen
      have HN := Lib.hid hN
      have E := Lib.hid hE
      have HG := H.out.below hE.bel
      have g0 := cells_at HG.blk
      simp only [gcells] at g0
      have hpg1 := heap_lt HG.blk
      have d0 := cells_at hE.blk
      simp only [ccells] at d0
      have z0 := heap_lt hE.blk
      clear hown hok hlen hN hE HG
      by_cases hlt : q < ps.length
      · obtain ⟨⟨⟨r', i'⟩, s'⟩, hx⟩ : ∃ x, ps[q]? = some x := ⟨ps[q], by simp [hlt]⟩
        obtain ⟨ad, had, e0, e1, e2, hl0⟩ := (HV.out.ps.below E.out.bel).at hx
        have hokd : okD ((r', i'), s') := HV.out.ok.ps _ (List.mem_of_getElem? hx)
        dsimp only at had e0 e1 e2
        subst had
        have Hx := Lib.hid hx
        clear hx
        have hW : Below w.heap.size w (wr.alloc (.cells #[.int .u8 r', .int .u32 i', .int .u64 s'] 49)).drew := (E.out.bel.alloc E.out.bel.size _).drew
        have hW1 : Below wr.heap.size wr (wr.alloc (.cells #[.int .u8 r', .int .u32 i', .int .u64 s'] 49)).drew := ((Below.refl _ _).alloc (Nat.le_refl _) _).drew
        have HW1 := Lib.hid hW1
        cases hf : fdW L ((r', i'), s') with
        | none =>
          have l1 := H.out.look1 hW hokd hf
          have HW := Lib.hid hW
          have hfc : findC (cms L) ((r', i'), s') = none := by rw [← fdW_c, hf]; rfl
          have Hf := Lib.hid hfc
          simp only [Option.getD, zeroCw, zeroC, zeroD, zeroO, cwcells] at l1
          clear hf hfc hW hW1 hokd
          go_wp2_with fail
          refine region_text [([0, 1, 2, 3, 4, 5, 6, 7, 8, 9], false)] mixed (by kernel_rfl) ?_
          simp only [wpSegs, List.map_cons, List.map_nil, List.getD_cons_succ, List.getD_cons_zero]
          go_wp2_with fail
          refine (join_any ka none kc 0 K [] _ ((OwnD.vec Own.out).below HW1.out) (Sl.nil _ _) Hok.out (fun d hd => by cases hd) (by have := Hlen.out; omega) (by simp)).mono ?_
          rintro e w5 ⟨a5, c5, rfl, hown, hb⟩
          replace E := Lib.hid ((E.out.step HW1.out).step hb)
          have Own5 := Lib.hid (show OwnD w5 w.heap.size a5 c5 (joinV K []) from owns_base hown HW.out.size)
          clear hown hb l1 d0 g0 z0 hpg1 e0 e1 e2
          have HN5 : Hid (∀ y, getN (joinV K []) y = knN b.b.f (findC (cms L)) ⟨((r, i), s), ps, uu, t, ⟨k, n, x, p, ds⟩⟩ (ps.take (q + 1)) y) := Lib.hid (fun y => by
            have h1 := knN_next b.b.f (findC (cms L)) ⟨((r, i), s), ps, uu, t, ⟨k, n, x, p, ds⟩⟩ Hx.out y
            dsimp only at h1
            rw [h1, getN_joinV Hok.out (fun d hd => by cases hd), HN.out, Hf.out]; rfl)
          have Hok5 : Hid (okV (joinV K []) ∧ (joinV K []).length ≤ 64) := Lib.hid ⟨okV_joinV Hok.out (fun d hd => by cases hd), vecOf_length _⟩
          generalize joinV K [] = K5 at *
          go_wp2_with fail
          refine And.intro (by kernel_rfl) ?_
          go_wp2_with fail
          go_roundw
          case rel => exact ⟨q + 1, a5, c5, K5, by dsimp only; omega, by go_num, rfl, Own5.out, Hok5.out.1, Hok5.out.2, HN5.out, E.out⟩
          case measure => simp [intOf]; omega
        | some v1 =>
          obtain ⟨⟨⟨⟨r1, i1⟩, s1⟩, ps1, uu1, t1, ⟨k1, n1, x1, p1, ds1⟩⟩, qa1, qc1, ua1, uc1, pa1, pc1, da1, dc1⟩ := v1
          have l1 := H.out.look1 hW hokd hf
          have HW := Lib.hid hW
          have hfc : findC (cms L) ((r', i'), s') = some ⟨((r1, i1), s1), ps1, uu1, t1, ⟨k1, n1, x1, p1, ds1⟩⟩ := by rw [← fdW_c, hf]; rfl
          have Hf := Lib.hid hfc
          have hat := (H.out.each _ (fdW_some hf).1)
          have hmay := H.out.may _ (fdW_some hf).1
          have Hat := Lib.hid hat.at_
          have hcl := canon_few hmay.canon
          simp only [Option.getD, cwcells] at l1
          dsimp only at hcl
          clear hf hfc hW hW1 hokd hat hmay
          go_wp2_with fail
          refine region_text [([0, 1, 2, 3, 4, 5, 6, 7, 8, 9], false)] mixed (by kernel_rfl) ?_
          simp only [wpSegs, List.map_cons, List.map_nil, List.getD_cons_succ, List.getD_cons_zero]
          go_wp2_with fail
          refine (join_any ka ua1 kc uc1 K uu1 _ ((OwnD.vec Own.out).below HW1.out) (Hat.out.vv.below HW.out) Hok.out Hat.out.ok.vv (by have := Hlen.out; omega) (by omega)).mono ?_
          rintro e w5 ⟨a5, c5, rfl, hown, hb⟩
          replace E := Lib.hid ((E.out.step HW1.out).step hb)
          have Own5 := Lib.hid (show OwnD w5 w.heap.size a5 c5 (joinV K uu1) from owns_base hown HW.out.size)
          clear hown hb l1 d0 g0 z0 hpg1 e0 e1 e2
          have HN5 : Hid (∀ y, getN (joinV K uu1) y = knN b.b.f (findC (cms L)) ⟨((r, i), s), ps, uu, t, ⟨k, n, x, p, ds⟩⟩ (ps.take (q + 1)) y) := Lib.hid (fun y => by
            have h1 := knN_next b.b.f (findC (cms L)) ⟨((r, i), s), ps, uu, t, ⟨k, n, x, p, ds⟩⟩ Hx.out y
            dsimp only at h1
            rw [h1, getN_joinV Hok.out Hat.out.ok.vv, HN.out, Hf.out]; rfl)
          have Hok5 : Hid (okV (joinV K uu1) ∧ (joinV K uu1).length ≤ 64) := Lib.hid ⟨okV_joinV Hok.out Hat.out.ok.vv, vecOf_length _⟩
          generalize joinV K uu1 = K5 at *
          go_wp2_with fail
          refine And.intro (by kernel_rfl) ?_
          go_wp2_with fail
          go_roundw
          case rel => exact ⟨q + 1, a5, c5, K5, by dsimp only; omega, by go_num, rfl, Own5.out, Hok5.out.1, Hok5.out.2, HN5.out, E.out⟩
          case measure => simp [intOf]; omega
      · have hqq : q = ps.length := by omega
        have HF := Lib.hid (show ∀ y, getN K y = knN b.b.f (findC (cms L)) ⟨((r, i), s), ps, uu, t, ⟨k, n, x, p, ds⟩⟩ ps y from fun y => by have := HN.out y; dsimp only at this; rwa [List.take_of_length_le (by omega)] at this)
        go_wp2_with fail
        go_ret
        exact ⟨K, HF.out, Hok.out, Hlen.out, ka, kc, rfl, Own.out, E.out.bel⟩
end Go.Proofs.YtaandcblndldmaaGreat

/- GraF -/
namespace Go.Proofs.YtaandcblndldmaaGreat
open Go.RowKit
set_option linter.unusedVariables false
set_option linter.unusedSimpArgs false

def JIx (l : List Dt) (p : Dt → Bool) (w : World) (j : Value) (wr : World) : Prop := ∃ q : Nat, q ≤ l.length ∧ j = .int .i64 q ∧ Below w.heap.size w wr ∧ ∀ s ∈ l.take q, p s = false
/-- the first of some dots that p takes, or none -/
def IxFst (w : World) (l : List Dt) (p : Dt → Bool) (e : Ending) (w' : World) : Prop :=
  ∃ k : Int, e = .returned (.int .i64 k) ∧ ((k = -1 ∧ ∀ d ∈ l, p d = false) ∨ ∃ (q : Nat) (d : Dt), k = q ∧ l[q]? = some d ∧ p d = true ∧ ∀ s ∈ l.take q, p s = false) ∧ Below w.heap.size w w'
set_option maxHeartbeats 2000000 in
theorem indexD_fn (fn : FuncId) (cap : Array Value) (p : Dt → Bool) (a : Option Addr) (c : Nat) (l : List Dt) (w : World) (h : Vec w a c l) (hn : l.length ≤ 1100000)
    (he : ∀ args w, (callFunc fn args).run Tryz.prog w = .ok (.enter fn args) w)
    (hp : ∀ r i s, ((r, i), s) ∈ l → ∀ W, Below w.heap.size w W → Calls Tryz.prog fn (#[.agg #[.int .u8 r, .int .u32 i, .int .u64 s]] ++ cap) W (fun e W' => e = .returned (.bool (p ((r, i), s))) ∧ Below W.heap.size W W')) :
    Calls Tryz.prog 130 #[.slice a l.length c, .func (.func fn) #[] cap] w (IxFst w l p) := by
  have H := Lib.hid h
  have HP := Lib.hid hp
  clear h hp
  go_enter Tryz.func130, Tryz.ntmps130
  go_wp2_with fail
  go_loopw [8] (fun j wr => JIx l p w j wr) (fun j _ => l.length - (intOf j).toNat)
  case atStart => exact ⟨0, Nat.zero_le _, rfl, Below.refl _ _, fun s hs => by simp at hs⟩
  case round =>
    obtain ⟨q, hq, rfl, hB, hall⟩ := hrel
    have HB := Lib.hid hB
    have Hall := Lib.hid hall
    clear hB hall
    by_cases hlt : q < l.length
    · obtain ⟨⟨⟨r, i⟩, s⟩, hx⟩ : ∃ x, l[q]? = some x := ⟨l[q], by simp [hlt]⟩
      obtain ⟨ad, had, c0, c1, c2, hl0⟩ := (H.out.below HB.out).at hx
      subst had
      dsimp only at c0 c1 c2
      have Hx := Lib.hid hx
      have HPx := Lib.hid (HP.out r i s (List.mem_of_getElem? hx))
      clear hx
      go_wp2_with fail
      refine (HPx.out _ HB.out).mono ?_
      rintro e w1 ⟨rfl, hb⟩
      have HB1 := Lib.hid (below2 HB.out hb HB.out.size)
      clear hb
      cases hz : p ((r, i), s) with
      | true =>
        have Hy := Lib.hid hz
        go_wp2_with fail
        go_ret
        exact ⟨q, rfl, .inr ⟨q, _, rfl, Hx.out, Hy.out, Hall.out⟩, HB1.out⟩
      | false =>
        have Hz := Lib.hid hz
        go_wp2_with fail
        go_roundw
        case rel => exact ⟨q + 1, by omega, by go_num, HB1.out, all_snoc Hx.out Hall.out Hz.out⟩
        case measure => simp [intOf]; omega
    · have ha := Hall.out
      rw [List.take_of_length_le (by omega)] at ha
      have Ha := Lib.hid ha
      clear ha
      go_wp2_with fail
      go_ret
      exact ⟨-1, rfl, .inl ⟨rfl, Ha.out⟩, HB.out⟩
theorem containsD_fn (fn : FuncId) (cap : Array Value) (p : Dt → Bool) (a : Option Addr) (c : Nat) (l : List Dt) (w : World) (h : Vec w a c l) (hn : l.length ≤ 1100000)
    (he : ∀ args w, (callFunc fn args).run Tryz.prog w = .ok (.enter fn args) w)
    (hp : ∀ r i s, ((r, i), s) ∈ l → ∀ W, Below w.heap.size w W → Calls Tryz.prog fn (#[.agg #[.int .u8 r, .int .u32 i, .int .u64 s]] ++ cap) W (fun e W' => e = .returned (.bool (p ((r, i), s))) ∧ Below W.heap.size W W')) :
    Calls Tryz.prog 80 #[.slice a l.length c, .func (.func fn) #[] cap] w (IsTo w (∃ d ∈ l, p d = true)) := by
  go_enter Tryz.func80, Tryz.ntmps80
  go_wp2_with fail
  refine (indexD_fn fn cap p a c l _ h hn he hp).mono ?_
  intro e w1 hto
  obtain ⟨k, rfl, hk, hb⟩ := hto
  have Hb := Lib.hid hb
  have Hk := Lib.hid (show 0 ≤ k ↔ ∃ d ∈ l, p d = true from by
    rcases hk with ⟨rfl, h⟩ | ⟨q, d, rfl, h1, h2, _⟩
    · exact ⟨fun h => by omega, fun ⟨d, hd, h2⟩ => by rw [h d hd] at h2; cases h2⟩
    · exact ⟨fun _ => ⟨d, List.mem_of_getElem? h1, h2⟩, fun _ => by omega⟩)
  clear hb hk
  go_wp2_with fail
  go_ret
  exact ⟨_, rfl, by rw [decide_eq_true_iff]; exact Hk.out, Hb.out⟩
end Go.Proofs.YtaandcblndldmaaGreat

/- GraG -/
namespace Go.Proofs.YtaandcblndldmaaGreat
open Go.RowKit
set_option linter.unusedVariables false
set_option linter.unusedSimpArgs false

set_option maxRecDepth 100000 in
set_option maxHeartbeats 2000000 in
theorem missing_any (pg mb : Nat) (w0 : World) (m : Nat) (b : Bw) (L : List Cw) (va : Option Addr) (vc : Nat) (vv : List Dt) (gb : Nat) (r i s : Int) (w : World) (h : GrAt w pg mb w0 m b L va vc vv) (hg : w.cell? ⟨gb, 0, none⟩ = some (.pointer (some ⟨pg, 0, none⟩))) (hd : okD ((r, i), s)) :
    Calls Tryz.prog 79 #[.agg #[.int .u8 r, .int .u32 i, .int .u64 s], .pointer (some ⟨gb, 0, none⟩)] w fun e w' => e = .returned (.bool (!hasG b.b.f (findC (cms L)) ((r, i), s))) ∧ Below w.heap.size w w' := by
  have H := Lib.hid h
  clear h
  have z0 : gb < w.heap.size := World.block_lt_of_cell? w _ hg
  have hB : Below w.heap.size w (w.alloc (.cells #[.int .u8 r, .int .u32 i, .int .u64 s] 49)) := (Below.refl _ _).alloc (Nat.le_refl _) _
  have HB := Lib.hid hB
  clear hB
  go_enter Tryz.func79, Tryz.ntmps79
  go_wp2_with fail
  refine (has_G pg mb w0 m b L va vc vv r i s _ (H.out.below HB.out) hd).mono ?_
  rintro e w1 ⟨rfl, hb⟩
  have HB1 := Lib.hid (below2 HB.out hb HB.out.size)
  clear hb
  go_wp2_with fail
  go_ret
  exact ⟨rfl, HB1.out⟩
/-- within another parent's history -/
def twiceB (uu : List Dt) (p q : Dt) : Bool := !eqD q p && hasV uu q
set_option maxRecDepth 100000 in
set_option maxHeartbeats 2000000 in
theorem twiceG_any (pb xb : Nat) (r0 i0 s0 : Int) (ua : Option Addr) (uu : List Dt) (uc : Nat) (r i s : Int) (w : World) (h0 : w.cell? ⟨pb, 0, none⟩ = some (.int .u8 r0)) (h1 : w.cell? ⟨pb, 1, none⟩ = some (.int .u32 i0)) (h2 : w.cell? ⟨pb, 2, none⟩ = some (.int .u64 s0))
    (h4 : w.cell? ⟨xb, 4, none⟩ = some (.slice ua uu.length uc)) (hu : Vec w ua uc uu) (hok : okV uu) (hn : uu.length ≤ 1100000) (hd : okA (r, i)) :
    Calls Tryz.prog 135 #[.agg #[.int .u8 r, .int .u32 i, .int .u64 s], .pointer (some ⟨pb, 0, none⟩), .pointer (some ⟨xb, 0, none⟩)] w fun e w' => e = .returned (.bool (twiceB uu ((r0, i0), s0) ((r, i), s))) ∧ Below w.heap.size w w' := by
  have HU := Lib.hid hu
  clear hu
  have z0 : pb < w.heap.size := World.block_lt_of_cell? w _ h0
  have z1 : xb < w.heap.size := World.block_lt_of_cell? w _ h4
  have hB : Below w.heap.size w (w.alloc (.cells #[.int .u8 r, .int .u32 i, .int .u64 s] 49)) := (Below.refl _ _).alloc (Nat.le_refl _) _
  have HB := Lib.hid hB
  clear hB
  cases he : eqD ((r, i), s) ((r0, i0), s0) with
  | true =>
    have Hr := Lib.hid (show twiceB uu ((r0, i0), s0) ((r, i), s) = false by simp [twiceB, he])
    go_enter Tryz.func135, Tryz.ntmps135
    go_wp2_with fail
    go_ret
    exact ⟨by rw [Hr.out]; rfl, HB.out⟩
  | false =>
    have Hr := Lib.hid (show twiceB uu ((r0, i0), s0) ((r, i), s) = hasV uu ((r, i), s) by simp [twiceB, he])
    go_enter Tryz.func135, Tryz.ntmps135
    go_wp2_with fail
    refine (has_any ua uc uu r i s _ (HU.out.below HB.out) hn hok hd).mono ?_
    rintro e w1 ⟨rfl, hb⟩
    have HB1 := Lib.hid (below2 HB.out hb HB.out.size)
    clear hb
    go_wp2_with fail
    go_ret
    exact ⟨by rw [Hr.out]; rfl, HB1.out⟩
/-- two new blocks: a commit, the dot ahead -/
structure FoE (w wr : World) (C D : Array Value) : Prop where
  b0 : wr.heap[w.heap.size]? = some (.cells C 54 (0, 0))
  b1 : wr.heap[w.heap.size + 1]? = some (.cells D 49 (0, 0))
  bel : Below w.heap.size w wr
theorem FoE.step {w wr w' : World} {C D : Array Value} (h : FoE w wr C D) (hb : Below wr.heap.size wr w') : FoE w w' C D := ⟨(hb.block _ (heap_lt h.b0)).trans h.b0, (hb.block _ (heap_lt h.b1)).trans h.b1, below2 h.bel hb h.bel.size⟩
def KnP (F : List Dt) (fd : Fd) (c : Cm) (q : Nat) : Prop := c.d.2 = 1 ∨ hasV F (aheadD c.d) = true ∨ ∃ p ∈ c.ps.take q, ∃ x, fd p = some x ∧ hasV x.vv (aheadD c.d) = true
def EachP (fd : Fd) (c : Cm) (q : Nat) : Prop := ∀ p ∈ c.ps.take q, ∀ x, fd p = some x → (∀ o ∈ c.ps, o ≠ p → hasV x.vv o = false) ∧ x.t < c.t
def JFo (w : World) (C D : Array Value) (F : List Dt) (fd : Fd) (c : Cm) (kv j : Value) (wr : World) : Prop :=
  ∃ (q : Nat) (z : Bool), q ≤ c.ps.length ∧ j = .int .i64 q ∧ kv = .bool z ∧ (z = true ↔ KnP F fd c q) ∧ EachP fd c q ∧ FoE w wr C D
theorem KnP.zero {F : List Dt} {fd : Fd} {c : Cm} : KnP F fd c 0 ↔ c.d.2 = 1 ∨ hasV F (aheadD c.d) = true := by simp [KnP]
theorem KnP.none {F : List Dt} {fd : Fd} {c : Cm} {q : Nat} {p : Dt} (hp : c.ps[q]? = some p) (hf : fd p = none) : KnP F fd c (q + 1) ↔ KnP F fd c q := by
  unfold KnP
  rw [take_snoc' hp]
  simp only [List.mem_append, List.mem_singleton]
  constructor
  · rintro (h | h | ⟨o, ho | rfl, x, hx, h⟩)
    · exact .inl h
    · exact .inr (.inl h)
    · exact .inr (.inr ⟨o, ho, x, hx, h⟩)
    · rw [hf] at hx; cases hx
  · rintro (h | h | ⟨o, ho, x, hx, h⟩)
    · exact .inl h
    · exact .inr (.inl h)
    · exact .inr (.inr ⟨o, .inl ho, x, hx, h⟩)
theorem KnP.some {F : List Dt} {fd : Fd} {c y : Cm} {q : Nat} {p : Dt} (hp : c.ps[q]? = some p) (hf : fd p = some y) : KnP F fd c (q + 1) ↔ KnP F fd c q ∨ hasV y.vv (aheadD c.d) = true := by
  unfold KnP
  rw [take_snoc' hp]
  simp only [List.mem_append, List.mem_singleton]
  constructor
  · rintro (h | h | ⟨o, ho | rfl, x, hx, h⟩)
    · exact .inl (.inl h)
    · exact .inl (.inr (.inl h))
    · exact .inl (.inr (.inr ⟨o, ho, x, hx, h⟩))
    · rw [hf] at hx; cases hx; exact .inr h
  · rintro ((h | h | ⟨o, ho, x, hx, h⟩) | h)
    · exact .inl h
    · exact .inr (.inl h)
    · exact .inr (.inr ⟨o, .inl ho, x, hx, h⟩)
    · exact .inr (.inr ⟨p, .inr rfl, y, hf, h⟩)
theorem EachP.none {fd : Fd} {c : Cm} {q : Nat} {p : Dt} (h : EachP fd c q) (hp : c.ps[q]? = some p) (hf : fd p = none) : EachP fd c (q + 1) := fun o ho => by
  rw [take_snoc' hp] at ho
  rcases List.mem_append.1 ho with ho | ho
  · exact h o ho
  · rw [List.mem_singleton] at ho; subst ho; intro x hx; rw [hf] at hx; cases hx
theorem twice_no {fd : Fd} {c y : Cm} {p : Dt} : (¬ ∃ o ∈ c.ps, twiceB y.vv p o = true) ↔ ∀ o ∈ c.ps, o ≠ p → hasV y.vv o = false := by
  constructor
  · intro h o ho hne
    refine Bool.eq_false_iff.2 fun hh => h ⟨o, ho, ?_⟩
    unfold twiceB
    rw [hh, Bool.and_true, Bool.not_eq_true', ← Bool.not_eq_true, eqD_iff]
    exact hne
  · rintro h ⟨o, ho, hh⟩
    unfold twiceB at hh
    rw [Bool.and_eq_true, Bool.not_eq_true', ← Bool.not_eq_true, eqD_iff] at hh
    rw [h o ho hh.1] at hh
    cases hh.2
theorem EachP.some {fd : Fd} {c y : Cm} {q : Nat} {p : Dt} (h : EachP fd c q) (hp : c.ps[q]? = some p) (hf : fd p = some y) (h1 : ¬ ∃ o ∈ c.ps, twiceB y.vv p o = true) (h2 : y.t < c.t) : EachP fd c (q + 1) := fun o ho => by
  rw [take_snoc' hp] at ho
  rcases List.mem_append.1 ho with ho | ho
  · exact h o ho
  · rw [List.mem_singleton] at ho; subst ho; intro x hx; rw [hf] at hx; cases hx
    exact ⟨(twice_no (fd := fd)).1 h1, h2⟩
theorem not_follows {F : List Dt} {fd : Fd} {c y : Cm} {q : Nat} {p : Dt} (hp : c.ps[q]? = some p) (hf : fd p = some y) (h : (∃ o ∈ c.ps, twiceB y.vv p o = true) ∨ c.t ≤ y.t) : ¬ FollowsP F fd c := fun hh => by
  obtain ⟨h1, h2⟩ := hh.each p (List.mem_of_getElem? hp) y hf
  rcases h with h | h
  · exact (twice_no (fd := fd)).2 h1 h
  · omega
theorem follows_iff {F : List Dt} {fd : Fd} {c : Cm} (h : EachP fd c c.ps.length) : FollowsP F fd c ↔ KnP F fd c c.ps.length := by
  unfold EachP at h
  rw [List.take_length] at h
  unfold KnP
  rw [List.take_length]
  exact ⟨fun hh => hh.known, fun hh => ⟨hh, h⟩⟩
set_option maxRecDepth 100000 in
set_option maxHeartbeats 16000000 in
theorem follows_G (pg mb : Nat) (w0 : World) (m : Nat) (b : Bw) (L : List Cw) (va : Option Addr) (vc : Nat) (vv : List Dt) (r i s : Int) (ps uu : List Dt) (t k n : Int) (x : ByteArray) (p : List ByteArray) (ds : List Dt) (qa : Option Addr) (qc : Nat) (ua : Option Addr) (uc : Nat) (pa : Option Addr) (pc : Nat) (da : Option Addr) (dc : Nat) (w : World) (h : GrAt w pg mb w0 m b L va vc vv) (hv : CwAt w ⟨⟨((r, i), s), ps, uu, t, ⟨k, n, x, p, ds⟩⟩, qa, qc, ua, uc, pa, pc, da, dc⟩) (hm : ps.length ≤ 100000) :
    Calls Tryz.prog 82 #[.pointer (some ⟨pg, 0, none⟩), .agg (ccells r i s qa ps.length qc ua uu.length uc t k pa p.length pc n x da ds.length dc), .agg #[.int .u8 r, .int .u32 i, .int .u64 (s - 1)]] w (IsTo w (FollowsP b.b.f (findC (cms L)) ⟨((r, i), s), ps, uu, t, ⟨k, n, x, p, ds⟩⟩)) := by
  have H := Lib.hid h
  have HV := Lib.hid hv
  have g0 := cells_at h.blk
  simp only [gcells] at g0
  have hpg := heap_lt h.blk
  have hA : okA (r, i) := hv.ok.d.1
  have he5 := enters_of Tryz.func135 (by kernel_rfl) rfl
  have hW0 : FoE w ((w.alloc (.cells (ccells r i s qa ps.length qc ua uu.length uc t k pa p.length pc n x da ds.length dc) 54)).alloc (.cells #[.int .u8 r, .int .u32 i, .int .u64 (s - 1)] 49)) (ccells r i s qa ps.length qc ua uu.length uc t k pa p.length pc n x da ds.length dc) #[.int .u8 r, .int .u32 i, .int .u64 (s - 1)] :=
    ⟨(heap_old _ _ (by simp)).trans (heap_new _ _), heap_new2 _ _ _, ((Below.refl _ _).alloc (Nat.le_refl _) _).alloc (by simp) _⟩
  have HW0 := Lib.hid hW0
  clear h hv hW0
  go_enter Tryz.func82, Tryz.ntmps82
  by_cases h1 : s = 1
  case' pos =>
    have e1 : (s == 1) = true := by simpa using h1
    have H1 := Lib.hid h1
    clear h1
    go_wp2_with fail
    refine region_text [([0, 1, 2, 3, 4, 5, 6, 7, 8, 9, 10, 11, 12, 13], false)] mixed (by kernel_rfl) ?_
    simp only [wpSegs, List.map_cons, List.map_nil, List.getD_cons_succ, List.getD_cons_zero]
    go_wp2_with fail
    refine And.intro (by kernel_rfl) ?_
    have E := Lib.hid (HW0.out.step (((Below.refl _ _).drew)))
    have HK0 : Hid (true = true ↔ KnP b.b.f (findC (cms L)) ⟨((r, i), s), ps, uu, t, ⟨k, n, x, p, ds⟩⟩ 0) := Lib.hid ⟨fun _ => KnP.zero.2 (.inl H1.out), fun _ => rfl⟩
  case' neg =>
    have e1 : (s == 1) = false := by simpa using h1
    have H1 := Lib.hid h1
    clear h1
    go_wp2_with fail
    refine region_text [([0, 1, 2, 3, 4, 5, 6, 7, 8, 9, 10, 11, 12, 13], false)] mixed (by kernel_rfl) ?_
    simp only [wpSegs, List.map_cons, List.map_nil, List.getD_cons_succ, List.getD_cons_zero]
    go_wp2_with fail
    refine (has_any b.fa b.fc b.b.f r i (s - 1) _ (H.out.fvec.below HW0.out.bel.drew) (by have := H.out.fmax; omega) H.out.base.okf hA).mono ?_
    rintro e w1 ⟨rfl, hb⟩
    have E := Lib.hid (HW0.out.step (((Below.refl _ _).drew).trans hb))
    have HK0 : Hid (hasV b.b.f ((r, i), s - 1) = true ↔ KnP b.b.f (findC (cms L)) ⟨((r, i), s), ps, uu, t, ⟨k, n, x, p, ds⟩⟩ 0) := Lib.hid ⟨fun h => KnP.zero.2 (.inr h), fun h => (KnP.zero.1 h).resolve_left H1.out⟩
    clear hb
    go_wp2_with fail
    refine And.intro (by kernel_rfl) ?_
  all_goals
    have d0 := cells_at E.out.b0
    simp only [ccells] at d0
    go_wp2_with fail
    go_loopw [7, 29] (fun kv j wr => JFo w (ccells r i s qa ps.length qc ua uu.length uc t k pa p.length pc n x da ds.length dc) #[.int .u8 r, .int .u32 i, .int .u64 (s - 1)] b.b.f (findC (cms L)) ⟨((r, i), s), ps, uu, t, ⟨k, n, x, p, ds⟩⟩ kv j wr) (fun _ j _ => ps.length - (intOf j).toNat)
    case atStart => exact ⟨0, _, Nat.zero_le _, rfl, rfl, (by first | exact HK0.out | exact ⟨fun _ => HK0.out.1 trivial, fun _ => rfl⟩), fun o ho => by simp at ho, E.out⟩
    case round =>
      obtain ⟨q, z, hq, rfl, rfl, hkn, hea, hE⟩ := hrel
      dsimp only at hq
      clear E HK0 d0 g0 e1
      have HK := Lib.hid hkn
      have HE0 := Lib.hid hea
      have E := Lib.hid hE
      have HG := H.out.below hE.bel
      have g0 := cells_at HG.blk
      simp only [gcells] at g0
      have hpg1 := heap_lt HG.blk
      have d0 := cells_at hE.b0
      simp only [ccells] at d0
      have d1 := cells_at hE.b1
      have z0 := heap_lt hE.b0
      have z1 := heap_lt hE.b1
      clear hkn hea hE HG
      by_cases hlt : q < ps.length
      · obtain ⟨⟨⟨r', i'⟩, s'⟩, hx⟩ : ∃ x, ps[q]? = some x := ⟨ps[q], by simp [hlt]⟩
        obtain ⟨ad, had, e0, e1, e2, hl0⟩ := (HV.out.ps.below E.out.bel).at hx
        have hokd : okD ((r', i'), s') := HV.out.ok.ps _ (List.mem_of_getElem? hx)
        dsimp only at had e0 e1 e2
        subst had
        have Hx := Lib.hid hx
        clear hx
        have hW1 : Below wr.heap.size wr (wr.alloc (.cells #[.int .u8 r', .int .u32 i', .int .u64 s'] 49)) := (Below.refl _ _).alloc (Nat.le_refl _) _
        have hB1 := below2 E.out.bel hW1 E.out.bel.size
        have HW1 := Lib.hid hW1
        cases hf : fdW L ((r', i'), s') with
        | none =>
          have l1 := H.out.no2 hB1.drew hokd hf
          have l2 := H.out.no2 (hB1.alloc (by have := E.out.bel.size; simp; omega) (.cells (ccells 0 0 0 none 0 0 none 0 0 0 0 none 0 0 0 ⟨#[]⟩ none 0 0) 54)).drew hokd hf
          have hfc : findC (cms L) ((r', i'), s') = none := by rw [← fdW_c, hf]; rfl
          have Hf := Lib.hid hfc
          simp only [ccells] at l1 l2
          clear hf hfc hW1 hokd hB1
          go_wp2_with fail
          refine region_tree (.seg [0, 1, 2, 3, 4] false (.fork (.seg [5, 6, 7, 8, 9, 10, 11] false .done) (.seg [9, 5, 6, 7, 8, 10, 11] false .done))) mixed (by kernel_rfl) ?_
          simp only [wpSg, List.map_cons, List.map_nil, List.getD_cons_succ, List.getD_cons_zero]
          go_wp2_with fail
          refine And.intro ?_ ?_
          all_goals
            go_wp2_with fail
            refine And.intro (by kernel_rfl) ?_
            go_wp2_with fail
            go_roundw
            case rel => exact ⟨q + 1, z, by dsimp only; omega, by go_num, rfl, HK.out.trans (KnP.none Hx.out Hf.out).symm, HE0.out.none Hx.out Hf.out, E.out.step ((HW1.out.alloc (by simp) _).drew)⟩
            case measure => simp [intOf]; omega
        | some v1 =>
          obtain ⟨⟨⟨⟨r1, i1⟩, s1⟩, ps1, uu1, t1, ⟨k1, n1, x1, p1, ds1⟩⟩, qa1, qc1, ua1, uc1, pa1, pc1, da1, dc1⟩ := v1
          have l1 := H.out.yes2 hB1.drew hokd hf
          have l2 := H.out.yes2 (hB1.alloc (by have := E.out.bel.size; simp; omega) (.cells (ccells 0 0 0 none 0 0 none 0 0 0 0 none 0 0 0 ⟨#[]⟩ none 0 0) 54)).drew hokd hf
          have hfc : findC (cms L) ((r', i'), s') = some ⟨((r1, i1), s1), ps1, uu1, t1, ⟨k1, n1, x1, p1, ds1⟩⟩ := by rw [← fdW_c, hf]; rfl
          have Hf := Lib.hid hfc
          have hat := (H.out.each _ (fdW_some hf).1)
          have hmay := H.out.may _ (fdW_some hf).1
          have Hat := Lib.hid hat.at_
          have hcl := canon_few hmay.canon
          simp only [ccells, cwcells] at l1 l2
          dsimp only at hcl
          clear hf hfc hokd hat hmay
          have hX : Below wr.heap.size wr ((wr.alloc (.cells #[.int .u8 r', .int .u32 i', .int .u64 s'] 49)).alloc (.cells (ccells r1 i1 s1 qa1 ps1.length qc1 ua1 uu1.length uc1 t1 k1 pa1 p1.length pc1 n1 x1 da1 ds1.length dc1) 54)).drew := (hW1.alloc (by simp) _).drew
          have HX := Lib.hid hX
          clear hW1 hB1 hX
          cases z with
          | true =>
            have HK5 : Hid (true = true ↔ KnP b.b.f (findC (cms L)) ⟨((r, i), s), ps, uu, t, ⟨k, n, x, p, ds⟩⟩ (q + 1)) := Lib.hid ⟨fun _ => (KnP.some Hx.out Hf.out).2 (.inl (HK.out.1 rfl)), fun _ => rfl⟩
            go_wp2_with fail
            refine region_tree (.seg [0, 1, 2, 3, 4] false (.fork (.seg [5, 6, 7, 8, 9, 10, 11] false .done) (.seg [9, 5, 6, 7, 8, 10, 11] false .done))) mixed (by kernel_rfl) ?_
            simp only [wpSg, List.map_cons, List.map_nil, List.getD_cons_succ, List.getD_cons_zero]
            go_wp2_with fail
            refine And.intro ?_ ?_
            all_goals
              go_wp2_with fail
              refine And.intro (by kernel_rfl) ?_
              have P5 : Hid (((wr.alloc (.cells #[.int .u8 r', .int .u32 i', .int .u64 s'] 49)).alloc (.cells (ccells r1 i1 s1 qa1 ps1.length qc1 ua1 uu1.length uc1 t1 k1 pa1 p1.length pc1 n1 x1 da1 ds1.length dc1) 54)).drew.heap[wr.heap.size]? = some (.cells #[.int .u8 r', .int .u32 i', .int .u64 s'] 49 (0, 0))) := Lib.hid ((heap_old _ _ (by simp)).trans (heap_new _ _))
              have X5 : Hid (((wr.alloc (.cells #[.int .u8 r', .int .u32 i', .int .u64 s'] 49)).alloc (.cells (ccells r1 i1 s1 qa1 ps1.length qc1 ua1 uu1.length uc1 t1 k1 pa1 p1.length pc1 n1 x1 da1 ds1.length dc1) 54)).drew.heap[wr.heap.size + 1]? = some (.cells (ccells r1 i1 s1 qa1 ps1.length qc1 ua1 uu1.length uc1 t1 k1 pa1 p1.length pc1 n1 x1 da1 ds1.length dc1) 54 (0, 0))) := Lib.hid (heap_new2 _ _ _)
              replace E := Lib.hid (E.out.step HX.out)
              go_wp2_with fail
              refine (containsD_fn 135 #[.pointer (some ⟨wr.heap.size, 0, none⟩), .pointer (some ⟨wr.heap.size + 1, 0, none⟩)] (twiceB uu1 ((r', i'), s')) (some ad) qc ps _ (HV.out.ps.below E.out.bel) (by omega) he5 (fun r2 i2 s2 h2 W2 hW2 => twiceG_any wr.heap.size (wr.heap.size + 1) r' i' s' ua1 uu1 uc1 r2 i2 s2 W2 (by rw [(bcell hW2).1 _ _ (heap_lt P5.out), cells_at P5.out]; rfl) (by rw [(bcell hW2).1 _ _ (heap_lt P5.out), cells_at P5.out]; rfl) (by rw [(bcell hW2).1 _ _ (heap_lt P5.out), cells_at P5.out]; rfl) (by rw [(bcell hW2).1 _ _ (heap_lt X5.out), cells_at X5.out]; rfl) ((Hat.out.vv.below E.out.bel).below hW2) Hat.out.ok.vv (by omega) (HV.out.ok.ps _ h2).1)).mono ?_
              intro e w6 hto
              obtain ⟨z6, rfl, hz6, hb6⟩ := hto
              have Hz6 := Lib.hid hz6
              have x6 := cells_at ((hb6.block _ (heap_lt X5.out)).trans X5.out)
              simp only [ccells] at x6
              replace E := Lib.hid (E.out.step hb6)
              have d6 := cells_at E.out.b0
              simp only [ccells] at d6
              clear hz6 hb6 X5 P5
              cases z6 with
              | true =>
                have Hn := Lib.hid (show ¬ FollowsP b.b.f (findC (cms L)) ⟨((r, i), s), ps, uu, t, ⟨k, n, x, p, ds⟩⟩ from not_follows Hx.out Hf.out (.inl (Hz6.out.1 rfl)))
                go_wp2_with fail
                go_ret
                exact no_name Hn.out E.out.bel
              | false =>
                have Hnt := Lib.hid (show ¬ ∃ o ∈ ps, twiceB uu1 ((r', i'), s') o = true from fun h => by have := Hz6.out.2 h; cases this)
                by_cases htt : t ≤ t1
                · have Hn := Lib.hid (show ¬ FollowsP b.b.f (findC (cms L)) ⟨((r, i), s), ps, uu, t, ⟨k, n, x, p, ds⟩⟩ from not_follows Hx.out Hf.out (.inr htt))
                  have ett : decide (t ≤ t1) = true := by simpa using htt
                  go_wp2_with fail
                  go_ret
                  exact no_name Hn.out E.out.bel
                · have Htt := Lib.hid (show t1 < t by omega)
                  have ett : decide (t ≤ t1) = false := by simpa using htt
                  clear htt
                  go_wp2_with fail
                  go_roundw
                  case rel => exact ⟨q + 1, _, by dsimp only; omega, by go_num, rfl, (by first | exact HK5.out | exact ⟨fun _ => HK5.out.1 trivial, fun _ => rfl⟩), HE0.out.some Hx.out Hf.out Hnt.out Htt.out, E.out⟩
                  case measure => simp [intOf]; omega
          | false =>
            go_wp2_with fail
            refine region_tree (.seg [0, 1, 2, 3, 4] false (.fork (.seg [5, 6, 7, 8, 9, 10, 11] false .done) (.seg [9, 5, 6, 7, 8, 10, 11] false .done))) mixed (by kernel_rfl) ?_
            simp only [wpSg, List.map_cons, List.map_nil, List.getD_cons_succ, List.getD_cons_zero]
            go_wp2_with fail
            refine And.intro ?_ ?_
            all_goals
              go_wp2_with fail
              refine And.intro (by kernel_rfl) ?_
              go_wp2_with fail
              refine (has_any ua1 uc1 uu1 r i (s - 1) _ (Hat.out.vv.below (below2 E.out.bel HX.out E.out.bel.size)) (by omega) Hat.out.ok.vv hA).mono ?_
              rintro e w5 ⟨rfl, hb5⟩
              have hb5' := hb5
              have P5 := Lib.hid ((hb5'.block wr.heap.size (by simp; omega)).trans ((heap_old _ _ (by simp)).trans (heap_new wr (.cells #[.int .u8 r', .int .u32 i', .int .u64 s'] 49))))
              have X5 := Lib.hid ((hb5'.block (wr.heap.size + 1) (by simp)).trans (heap_new2 wr (.cells #[.int .u8 r', .int .u32 i', .int .u64 s'] 49) (.cells (ccells r1 i1 s1 qa1 ps1.length qc1 ua1 uu1.length uc1 t1 k1 pa1 p1.length pc1 n1 x1 da1 ds1.length dc1) 54)))
              have HK5 : Hid (hasV uu1 ((r, i), s - 1) = true ↔ KnP b.b.f (findC (cms L)) ⟨((r, i), s), ps, uu, t, ⟨k, n, x, p, ds⟩⟩ (q + 1)) := Lib.hid ⟨fun h => (KnP.some Hx.out Hf.out).2 (.inr h), fun h => ((KnP.some Hx.out Hf.out).1 h).resolve_left (fun h => by have := HK.out.2 h; cases this)⟩
              replace E := Lib.hid ((E.out.step HX.out).step hb5)
              have d5 := cells_at E.out.b0
              simp only [ccells] at d5
              clear hb5 hb5' l1 l2
              go_wp2_with fail
              refine (containsD_fn 135 #[.pointer (some ⟨wr.heap.size, 0, none⟩), .pointer (some ⟨wr.heap.size + 1, 0, none⟩)] (twiceB uu1 ((r', i'), s')) (some ad) qc ps _ (HV.out.ps.below E.out.bel) (by omega) he5 (fun r2 i2 s2 h2 W2 hW2 => twiceG_any wr.heap.size (wr.heap.size + 1) r' i' s' ua1 uu1 uc1 r2 i2 s2 W2 (by rw [(bcell hW2).1 _ _ (heap_lt P5.out), cells_at P5.out]; rfl) (by rw [(bcell hW2).1 _ _ (heap_lt P5.out), cells_at P5.out]; rfl) (by rw [(bcell hW2).1 _ _ (heap_lt P5.out), cells_at P5.out]; rfl) (by rw [(bcell hW2).1 _ _ (heap_lt X5.out), cells_at X5.out]; rfl) ((Hat.out.vv.below E.out.bel).below hW2) Hat.out.ok.vv (by omega) (HV.out.ok.ps _ h2).1)).mono ?_
              intro e w6 hto
              obtain ⟨z6, rfl, hz6, hb6⟩ := hto
              have Hz6 := Lib.hid hz6
              have x6 := cells_at ((hb6.block _ (heap_lt X5.out)).trans X5.out)
              simp only [ccells] at x6
              replace E := Lib.hid (E.out.step hb6)
              have d6 := cells_at E.out.b0
              simp only [ccells] at d6
              clear hz6 hb6 X5 P5
              cases z6 with
              | true =>
                have Hn := Lib.hid (show ¬ FollowsP b.b.f (findC (cms L)) ⟨((r, i), s), ps, uu, t, ⟨k, n, x, p, ds⟩⟩ from not_follows Hx.out Hf.out (.inl (Hz6.out.1 rfl)))
                go_wp2_with fail
                go_ret
                exact no_name Hn.out E.out.bel
              | false =>
                have Hnt := Lib.hid (show ¬ ∃ o ∈ ps, twiceB uu1 ((r', i'), s') o = true from fun h => by have := Hz6.out.2 h; cases this)
                by_cases htt : t ≤ t1
                · have Hn := Lib.hid (show ¬ FollowsP b.b.f (findC (cms L)) ⟨((r, i), s), ps, uu, t, ⟨k, n, x, p, ds⟩⟩ from not_follows Hx.out Hf.out (.inr htt))
                  have ett : decide (t ≤ t1) = true := by simpa using htt
                  go_wp2_with fail
                  go_ret
                  exact no_name Hn.out E.out.bel
                · have Htt := Lib.hid (show t1 < t by omega)
                  have ett : decide (t ≤ t1) = false := by simpa using htt
                  clear htt
                  go_wp2_with fail
                  go_roundw
                  case rel => exact ⟨q + 1, _, by dsimp only; omega, by go_num, rfl, (by first | exact HK5.out | exact ⟨fun _ => HK5.out.1 trivial, fun _ => rfl⟩), HE0.out.some Hx.out Hf.out Hnt.out Htt.out, E.out⟩
                  case measure => simp [intOf]; omega
      · have hqq : q = ps.length := by omega
        have HF := Lib.hid (show z = true ↔ FollowsP b.b.f (findC (cms L)) ⟨((r, i), s), ps, uu, t, ⟨k, n, x, p, ds⟩⟩ from by
          have h1 := HK.out
          have h2 := HE0.out
          rw [hqq] at h1 h2
          exact h1.trans (follows_iff (c := ⟨((r, i), s), ps, uu, t, ⟨k, n, x, p, ds⟩⟩) h2).symm)
        go_wp2_with fail
        go_ret
        exact ⟨z, rfl, HF.out, E.out.bel⟩
end Go.Proofs.YtaandcblndldmaaGreat

/- GraH -/
namespace Go.Proofs.YtaandcblndldmaaGreat
open Go.RowKit
set_option linter.unusedVariables false
set_option linter.unusedSimpArgs false

/-- a commit of one's own -/
def OwnCTo (w : World) (v : Cw) (e : Ending) (w' : World) : Prop := ∃ u : Cw, e = .returned (.agg (cwcells u)) ∧ u.c = v.c ∧ CwOwn w' w.heap.size u ∧ Below w.heap.size w w'
theorem heap_setC {w : World} {p : Nat} {C : Array Value} {t : TypeId} (h : w.heap[p]? = some (.cells C t (0, 0))) (j : Nat) (x : Value) : (w.setCell ⟨p, j, none⟩ x).heap[p]? = some (.cells (C.setIfInBounds j x) t (0, 0)) := Go.heap_setCell_same w p j _ _ x h
set_option maxRecDepth 100000 in
set_option maxHeartbeats 8000000 in
theorem ownC_any (v : Cw) (w : World) (h : CwAt w v) (h1 : v.c.ps.length ≤ 1100000) (h2 : v.c.vv.length ≤ 1100000) (h3 : v.c.o.p.length ≤ 1100000) (h4 : v.c.o.ds.length ≤ 1100000) : Calls Tryz.prog 83 #[.agg (cwcells v)] w (OwnCTo w v) := by
  obtain ⟨⟨⟨⟨r, i⟩, s⟩, ps, vv, t, ⟨k, n, x, p, ds⟩⟩, qa, qc, va, vc, pa, pc, da, dc⟩ := v
  have H := Lib.hid h
  dsimp only at h1 h2 h3 h4
  clear h
  simp only [cwcells]
  go_enter Tryz.func83, Tryz.ntmps83
  go_wp2_with fail
  refine region_text [([0, 1, 3, 4], false), ([2], true), ([6, 5, 7, 8, 9], false)] mixed (by kernel_rfl) ?_
  simp only [wpSegs, List.map_cons, List.map_nil, List.getD_cons_succ, List.getD_cons_zero]
  go_wp2_with fail
  refine (cloneD_any qa qc ps _ (H.out.ps.below ?b1) h1).mono ?_
  case b1 => exact (((Below.refl _ _).alloc (Nat.le_refl _) _).alloc (by simp) _).drew
  rintro e w1 ⟨a1, c1, p1, rfl, hp1, ho1, hb1⟩
  obtain ⟨x0, y0, hz1, hB1⟩ := new2 (((Below.refl _ _).drew).trans hb1)
  subst hp1
  have Ho1 := Lib.hid (OwnD.base (base' := w.heap.size + 2) ho1 (by simp))
  have X1 := Lib.hid x0
  have Y1 := Lib.hid y0
  have HB1 := Lib.hid hB1
  have Hb1 := Lib.hid hb1
  clear hb1 ho1 x0 y0 hB1
  go_wp2_with fail
  refine And.intro (Agree.of_below Hb1.out) ?_
  go_wp2_with fail
  refine (cloneV_any va vc vv _ (H.out.vv.below HB1.out) h2).mono ?_
  rintro e w2 ⟨a2, c2, v2, rfl, hv2, ho2, hb2⟩
  subst hv2
  have Ho1' := Lib.hid (Ho1.out.below hb2)
  have Ho2 := Lib.hid (OwnD.base (base' := w.heap.size + 2) ho2 hz1)
  have HB2 := Lib.hid (below2 HB1.out hb2 HB1.out.size)
  have X2 := Lib.hid ((hb2.block _ (heap_lt X1.out)).trans X1.out)
  have Y2 := Lib.hid ((hb2.block _ (heap_lt Y1.out)).trans Y1.out)
  have hz2 : w.heap.size + 2 ≤ w2.heap.size := by have := hb2.size; omega
  have d0 := cells_at X2.out
  have f0 := free_at X2.out
  clear ho2 hb2 X1 Y1 HB1 Ho1 Hb1
  go_wp2_with fail
  refine And.intro (by kernel_rfl) ?_
  have hC1 : Chg [w.heap.size] w2 ((w2.setCell ⟨w.heap.size, 3, none⟩ (.slice a1 p1.length c1)).setCell ⟨w.heap.size, 4, none⟩ (.slice a2 v2.length c2)) := ((Chg.refl _ _).put _ _ (by simp)).put _ _ (by simp)
  have x3 : ((w2.setCell ⟨w.heap.size, 3, none⟩ (.slice a1 p1.length c1)).setCell ⟨w.heap.size, 4, none⟩ (.slice a2 v2.length c2)).heap[w.heap.size]? = some (.cells (ccells r i s a1 p1.length c1 a2 v2.length c2 t k pa p.length pc n x da ds.length dc) 54 (0, 0)) := heap_setC (heap_setC X2.out 3 _) 4 _
  have y3 := heap_chg Y2.out hC1 (by simp)
  have ho1 := owns_chg Ho1'.out hC1 (fun k hk hm => by have := (owns_lt Ho1'.out k hk).1; simp at hm; omega)
  have ho2 := owns_chg Ho2.out hC1 (fun k hk hm => by have := (owns_lt Ho2.out k hk).1; simp at hm; omega)
  have hb3 : Below w.heap.size w ((w2.setCell ⟨w.heap.size, 3, none⟩ (.slice a1 p1.length c1)).setCell ⟨w.heap.size, 4, none⟩ (.slice a2 v2.length c2)) := HB2.out.trans (hC1.below HB2.out.size (by simp))
  have hz3 : w.heap.size + 2 ≤ ((w2.setCell ⟨w.heap.size, 3, none⟩ (.slice a1 p1.length c1)).setCell ⟨w.heap.size, 4, none⟩ (.slice a2 v2.length c2)).heap.size := by have := hC1.size; omega
  generalize (w2.setCell ⟨w.heap.size, 3, none⟩ (.slice a1 p1.length c1)).setCell ⟨w.heap.size, 4, none⟩ (.slice a2 v2.length c2) = w3 at *
  have Ho1 : Hid (OwnD w3 (w.heap.size + 2) a1 c1 p1) := Lib.hid ho1
  have Ho2 : Hid (OwnD w3 (w.heap.size + 2) a2 c2 v2) := Lib.hid ho2
  have X3 := Lib.hid x3
  have Y3 := Lib.hid y3
  have HB3 := Lib.hid hb3
  have d0 := cells_at x3
  simp only [ccells] at d0
  have z0 := heap_lt x3
  clear ho1 ho2 x3 y3 hb3 hC1 f0 X2 Y2 HB2 hz2 Ho1'
  go_wp2_with fail
  refine region_text [([0, 1, 2, 4, 5, 6], false), ([3], true), ([8, 9, 7, 10, 11, 12, 13], false)] mixed (by kernel_rfl) ?_
  simp only [wpSegs, List.map_cons, List.map_nil, List.getD_cons_succ, List.getD_cons_zero]
  go_wp2_with fail
  refine (cloneS_any pa pc p _ (H.out.pt.below HB3.out.drew) h3).mono ?_
  rintro e w4 ⟨a3, c3, p3, rfl, hp3, ho3, hb4⟩
  subst hp3
  have Hb4 := Lib.hid hb4
  have hb4' : Below w3.heap.size w3 w4 := ((Below.refl _ _).drew).trans hb4
  replace Ho1 := Lib.hid (Ho1.out.below hb4')
  replace Ho2 := Lib.hid (Ho2.out.below hb4')
  have Ho3 := Lib.hid (OwnS.base (base' := w.heap.size + 2) ho3 hz3)
  replace X3 := Lib.hid ((hb4'.block _ (heap_lt X3.out)).trans X3.out)
  replace Y3 := Lib.hid ((hb4'.block _ (heap_lt Y3.out)).trans Y3.out)
  replace HB3 := Lib.hid (below2 HB3.out hb4' HB3.out.size)
  have hz4 : w.heap.size + 2 ≤ w4.heap.size := by have := hb4'.size; omega
  clear ho3 hb4 hb4' d0 z0
  have d0 := cells_at X3.out
  simp only [ccells] at d0
  go_wp2_with fail
  refine And.intro (Agree.of_below Hb4.out) ?_
  go_wp2_with fail
  refine (cloneD_any da dc ds _ (H.out.ds.below HB3.out) h4).mono ?_
  rintro e w5 ⟨a4, c4, d4, rfl, hd4, ho4, hb5⟩
  subst hd4
  replace Ho1 := Lib.hid (Ho1.out.below hb5)
  replace Ho2 := Lib.hid (Ho2.out.below hb5)
  replace Ho3 := Lib.hid (Ho3.out.below hb5)
  have Ho4 := Lib.hid (OwnD.base (base' := w.heap.size + 2) ho4 hz4)
  replace X3 := Lib.hid ((hb5.block _ (heap_lt X3.out)).trans X3.out)
  replace Y3 := Lib.hid ((hb5.block _ (heap_lt Y3.out)).trans Y3.out)
  replace HB3 := Lib.hid (below2 HB3.out hb5 HB3.out.size)
  have hz5 : w.heap.size + 2 ≤ w5.heap.size := by have := hb5.size; omega
  clear ho4 hb5 d0 Hb4
  have d0 := cells_at X3.out
  have e0 := cells_at Y3.out
  have f0 := free_at X3.out
  have g0 := free_at Y3.out
  simp only [ccells] at d0
  go_wp2_with fail
  refine And.intro (by kernel_rfl) ?_
  go_wp2_with fail
  have hC : Chg [w.heap.size, w.heap.size + 1] w5 (((((((((((((w5.setCell ⟨w.heap.size, 7, none⟩ (.slice a3 p3.length c3)).setCell ⟨w.heap.size, 10, none⟩ (.slice a4 d4.length c4)).setCell ⟨w.heap.size + 1, 0, none⟩ (.int .u8 r)).setCell ⟨w.heap.size + 1, 1, none⟩ (.int .u32 i)).setCell ⟨w.heap.size + 1, 2, none⟩ (.int .u64 s)).setCell ⟨w.heap.size + 1, 3, none⟩ (.slice a1 p1.length c1)).setCell ⟨w.heap.size + 1, 4, none⟩ (.slice a2 v2.length c2)).setCell ⟨w.heap.size + 1, 5, none⟩ (.int .u64 t)).setCell ⟨w.heap.size + 1, 6, none⟩ (.int .u8 k)).setCell ⟨w.heap.size + 1, 7, none⟩ (.slice a3 p3.length c3)).setCell ⟨w.heap.size + 1, 8, none⟩ (.int .i64 n)).setCell ⟨w.heap.size + 1, 9, none⟩ (.string x)).setCell ⟨w.heap.size + 1, 10, none⟩ (.slice a4 d4.length c4)) :=
    (((((((((((((Chg.refl _ _).put _ _ (by simp)).put _ _ (by simp)).put _ _ (by simp)).put _ _ (by simp)).put _ _ (by simp)).put _ _ (by simp)).put _ _ (by simp)).put _ _ (by simp)).put _ _ (by simp)).put _ _ (by simp)).put _ _ (by simp)).put _ _ (by simp)).put _ _ (by simp)
  have dis : ∀ k, w.heap.size + 2 ≤ k → k ∉ [w.heap.size, w.heap.size + 1] := fun k hk hm => by simp at hm; omega
  refine bodyPost_ret (v := .agg (ccells r i s a1 p1.length c1 a2 v2.length c2 t k a3 p3.length c3 n x a4 d4.length c4)) (by simp [results, Tryz.results83, go_sem, d0, e0]; try rfl) rfl ⟨⟨⟨((r, i), s), p1, v2, t, ⟨k, n, x, p3, d4⟩⟩, a1, c1, a2, c2, a3, c3, a4, c4⟩, rfl, rfl, ⟨?_, ?_, ?_, ?_, H.out.ok⟩, ?_⟩
  · exact OwnD.base (owns_chg Ho1.out hC (fun k hk => dis k (owns_lt Ho1.out k hk).1)) (by omega)
  · exact OwnD.base (owns_chg Ho2.out hC (fun k hk => dis k (owns_lt Ho2.out k hk).1)) (by omega)
  · exact OwnS.base (owns_chg Ho3.out hC (fun k hk => dis k (owns_lt Ho3.out k hk).1)) (by omega)
  · exact OwnD.base (owns_chg Ho4.out hC (fun k hk => dis k (owns_lt Ho4.out k hk).1)) (by omega)
  · exact HB3.out.trans (hC.below HB3.out.size (by simp))
end Go.Proofs.YtaandcblndldmaaGreat

/- GraI -/
namespace Go.Proofs.YtaandcblndldmaaGreat
open Go.RowKit
set_option linter.unusedVariables false
set_option linter.unusedSimpArgs false

/-- what Insert leaves behind -/
def InsTo (w : World) (pg mb : Nat) (w0 : World) (m : Nat) (b : Bw) (L : List Cw) (vv : List Dt) (c : Cm) (e : Ending) (w' : World) : Prop :=
  e = .returned (.int .i64 (insE b.b.f (findC (cms L)) L.length c)) ∧ ((insE b.b.f (findC (cms L)) L.length c ≠ 0 ∧ Below w.heap.size w w') ∨
    (insE b.b.f (findC (cms L)) L.length c = 0 ∧ ∃ (u : Cw) (va' : Option Addr) (vc' : Nat), u.c = c ∧ GrAt w' pg mb w0 m b (L ++ [u]) va' vc' (joinV vv c.vv) ∧ Chg [pg, mb] w w'))
theorem InsTo.no {w : World} {pg mb : Nat} {w0 : World} {m : Nat} {b : Bw} {L : List Cw} {vv : List Dt} {c : Cm} {w' : World} {k : Int} (h : insE b.b.f (findC (cms L)) L.length c = k) (hk : k ≠ 0) (hb : Below w.heap.size w w') : InsTo w pg mb w0 m b L vv c (.returned (.int .i64 k)) w' :=
  ⟨by rw [h], .inl ⟨by rw [h]; exact hk, hb⟩⟩
/-- two new blocks: the graph's pointer, the commit -/
structure InE (w wr : World) (pg : Nat) (C : Array Value) : Prop where
  b0 : wr.heap[w.heap.size]? = some (.cells #[.pointer (some ⟨pg, 0, none⟩)] 56 (0, 0))
  b1 : wr.heap[w.heap.size + 1]? = some (.cells C 54 (0, 0))
  bel : Below w.heap.size w wr
theorem InE.step {w wr w' : World} {pg : Nat} {C : Array Value} (h : InE w wr pg C) (hb : Below wr.heap.size wr w') : InE w w' pg C := ⟨(hb.block _ (heap_lt h.b0)).trans h.b0, (hb.block _ (heap_lt h.b1)).trans h.b1, below2 h.bel hb h.bel.size⟩
theorem fvW_snoc {L : List Cw} {u : Cw} (hf : fdW L u.c.d = none) (d : Dt) : (if d = u.c.d then some (cwv u) else fvW L d) = fvW (L ++ [u]) d := by
  unfold fvW
  unfold fdW at hf ⊢
  rw [List.find?_append]
  by_cases e : d = u.c.d
  · subst e
    rw [if_pos rfl, hf]
    simp
  · rw [if_neg e]
    cases L.find? (fun x => decide (x.c.d = d)) with
    | some x => rfl
    | none => simp; exact fun h => e h.symm
theorem noRow_map {w : World} {mb : Nat} {n : Nat} {f : Dt → Option Value} (h : MapN w mb n f) : NoRow w [mb] := fun k hk C t fr hh => by
  rw [List.mem_singleton] at hk
  subst hk
  obtain ⟨es, clock, h2⟩ := h.block
  rw [h2] at hh
  cases hh
theorem noRow_graph {w : World} {pg : Nat} {C : Array Value} {fr : Nat × Nat} (h : w.heap[pg]? = some (.cells C 118 fr)) : NoRow w [pg] := fun k hk C' t fr' hh => by
  rw [List.mem_singleton] at hk
  subst hk
  rw [h] at hh
  injection hh with hh
  injection hh with _ h2 _
  subst h2
  exact ⟨by decide, by decide⟩
theorem GrAt.insert {w w9 w10 w11 : World} {pg mb : Nat} {w0 : World} {m : Nat} {b : Bw} {L : List Cw} {va va' : Option Addr} {vc vc' : Nat} {vv : List Dt} {u : Cw} {base : Nat} (hb0 : Below w.heap.size w w9) (h : GrAt w9 pg mb w0 m b L va vc vv) (hf : fdW L u.c.d = none) (hu : CwOwn w9 base u) (hM : CmP u.c) (hL : L.length < 200)
    (hm : MapN w10 mb (L.length + 1) (fun d => if d = u.c.d then some (cwv u) else fvW L d)) (hc : Chg [mb] w9 w10) (hb : Below w10.heap.size w10 w11) (ho : OwnD w11 w10.heap.size va' vc' (joinV vv u.c.vv)) (hlt : pg < w.heap.size ∧ mb < w.heap.size) (hO : hasV b.b.f u.c.d = false) :
    GrAt (w11.setCell ⟨pg, 6, none⟩ (.slice va' (joinV vv u.c.vv).length vc')) pg mb w0 m b (L ++ [u]) va' vc' (joinV vv u.c.vv) ∧ Chg [pg, mb] w (w11.setCell ⟨pg, 6, none⟩ (.slice va' (joinV vv u.c.vv).length vc')) := by
  have hne := h.ne
  have p10 := heap_chg h.blk hc (by simpa using hne)
  have p11 := (hb.block _ (heap_lt p10)).trans p10
  have hC := Chg.setCell w11 ⟨pg, 6, none⟩ (.slice va' (joinV vv u.c.vv).length vc')
  have n9 := noRow_map h.map
  have n11 := noRow_graph p11
  have m11 := hm.below hb
  have ow : ∀ v, CwOwn w9 0 v → CwOwn (w11.setCell ⟨pg, 6, none⟩ (.slice va' (joinV vv u.c.vv).length vc')) 0 v := fun v hv => ((hv.chg hc n9).below hb).chg hC n11
  have hcd : findC (cms L) u.c.d = none := by rw [← fdW_c, hf]; rfl
  refine ⟨⟨heap_setC p11 6 _, ?_, h.old, ?_, h.base, fun v hv => ?_, OwnD.base (OwnD.chg ho hC n11) (Nat.zero_le _), okV_joinV h.okv hu.ok.vv, ?_, fun v hv => ?_, ?_, h.fmax, h.tmax, Nat.le_trans (vecOf_length _) (by decide), h.bp, fun v hv => ?_⟩, ?_⟩
  · rw [List.length_append]
    exact (m11.chg hC (by simpa using fun e => hne e.symm)).congr fun d _ => fvW_snoc hf d
  · exact ((h.bel.trans (hc.below h.bel.size (by simpa using h.old.2))).trans (hb.mono (by have := hc.size; have := h.bel.size; omega))).trans (hC.below (by have := hb.size; have := hc.size; have := h.bel.size; omega) (by simpa using h.old.1))
  · rcases List.mem_append.1 hv with hv | hv
    · exact ow v (h.each v hv)
    · rw [List.mem_singleton] at hv; subst hv; exact ow _ (hu.base (Nat.zero_le _))
  · unfold cms
    rw [List.map_append, List.map_append, List.nodup_append]
    refine ⟨h.nodup, by simp, fun a ha c hc => ?_⟩
    simp at hc
    subst hc
    intro e
    obtain ⟨y, hy, rfl⟩ := List.mem_map.1 ha
    exact (findC_none.1 hcd) y hy e
  · rcases List.mem_append.1 hv with hv | hv
    · exact h.may v hv
    · rw [List.mem_singleton] at hv; subst hv; exact hM
  · rw [List.length_append]; simp; omega
  · rcases List.mem_append.1 hv with hv | hv
    · exact h.out v hv
    · rw [List.mem_singleton] at hv; subst hv; exact hO
  · refine (((Chg.of_below (F := [pg, mb]) hb0).trans hc (fun x hx _ => by simp at hx; simp [hx])).trans (Chg.of_below (F := []) hb) (fun x hx => by cases hx)).trans hC (fun x hx _ => by simp at hx; simp [hx])
theorem Sl.chgM {w w' : World} {mb size : Nat} {a : Option Addr} {n c : Nat} {xs : List Value} (h : Sl w size a n c xs) (hc : Chg [mb] w w') (hm : ∃ es clock, w.heap[mb]? = some (.map es clock)) : Sl w' size a n c xs := by
  obtain ⟨h1, h2, h3, h4⟩ := h
  refine ⟨h1, h2, h3, ?_⟩
  rcases h4 with h4 | ⟨b, rfl, hx⟩
  · exact .inl h4
  · refine .inr ⟨b, rfl, fun j u hu => ?_⟩
    have h5 := hx j u hu
    have hlt := World.block_lt_of_cell? w _ h5
    obtain ⟨es, clock, hm⟩ := hm
    have hne : (b.add j).block ≠ mb := fun e => by
      unfold World.cell? at h5
      rw [e, hm] at h5
      simp at h5
    unfold World.cell? at h5 ⊢
    rw [hc.block _ hlt (by simpa using hne)]
    exact h5
structure In5 (w wr : World) (pg : Nat) (C AD : Array Value) (ab : Nat) (ka : Option Addr) (kc : Nat) (K : List Dt) : Prop where
  e : InE w wr pg C
  a : wr.heap[ab]? = some (.cells AD 49 (0, 0))
  k : Vec wr ka kc K
theorem In5.step {w wr w' : World} {pg : Nat} {C AD : Array Value} {ab : Nat} {ka : Option Addr} {kc : Nat} {K : List Dt} (h : In5 w wr pg C AD ab ka kc K) (hb : Below wr.heap.size wr w') : In5 w w' pg C AD ab ka kc K := ⟨h.e.step hb, (hb.block _ (heap_lt h.a)).trans h.a, h.k.below hb⟩
set_option maxRecDepth 100000 in
set_option maxHeartbeats 16000000 in
theorem insert_G (pg mb : Nat) (w0 : World) (m : Nat) (b : Bw) (L : List Cw) (va : Option Addr) (vc : Nat) (vv : List Dt) (v : Cw) (w : World) (h : GrAt w pg mb w0 m b L va vc vv) (hv : CwAt w v) (hn : v.c.vv.length ≤ 1100000) :
    Calls Tryz.prog 28 #[.pointer (some ⟨pg, 0, none⟩), .agg (cwcells v)] w (InsTo w pg mb w0 m b L vv v.c) := by
  obtain ⟨⟨⟨⟨r, i⟩, s⟩, ps, uu, t, ⟨k, n, x, p, ds⟩⟩, qa, qc, ua, uc, pa, pc, da, dc⟩ := v
  have H := Lib.hid h
  have HV := Lib.hid hv
  have hokd : okD ((r, i), s) := hv.ok.d
  dsimp only at hn
  have hE0 : InE w ((w.alloc (.cells #[.pointer (some ⟨pg, 0, none⟩)] 56)).alloc (.cells (ccells r i s qa ps.length qc ua uu.length uc t k pa p.length pc n x da ds.length dc) 54)) pg (ccells r i s qa ps.length qc ua uu.length uc t k pa p.length pc n x da ds.length dc) :=
    ⟨(heap_old _ _ (by simp)).trans (heap_new _ _), heap_new2 _ _ _, ((Below.refl _ _).alloc (Nat.le_refl _) _).alloc (by simp) _⟩
  have E := Lib.hid hE0
  have hem := enters_of Tryz.func79 (by kernel_rfl) rfl
  clear h hv hE0
  simp only [cwcells]
  go_enter Tryz.func28, Tryz.ntmps28
  go_wp2_with fail
  refine (none_some pg mb _ (H.out.below E.out.bel).c5).mono ?_
  rintro e w1 ⟨rfl, rfl⟩
  go_wp2_with fail
  refine (mayC_any ⟨⟨((r, i), s), ps, uu, t, ⟨k, n, x, p, ds⟩⟩, qa, qc, ua, uc, pa, pc, da, dc⟩ _ (HV.out.below E.out.bel) hn).mono ?_
  intro e w2 hto
  obtain ⟨z, rfl, hz, hb⟩ := hto
  replace E := Lib.hid (E.out.step hb)
  have Hz := Lib.hid hz
  have d0 := cells_at E.out.b0
  have d1 := cells_at E.out.b1
  simp only [ccells] at d1
  clear hb hz
  cases z with
  | false =>
    have Hn := Lib.hid (show ¬ CmP ⟨((r, i), s), ps, uu, t, ⟨k, n, x, p, ds⟩⟩ from fun h => by have := Hz.out.2 h; cases this)
    go_wp2_with fail
    go_ret
    exact InsTo.no (insE_may Hn.out) (by decide) E.out.bel
  | true =>
    have HM := Lib.hid (Hz.out.1 rfl)
    clear Hz
    go_wp2_with fail
    refine (has_G pg mb w0 m b L va vc vv r i s _ (H.out.below E.out.bel) hokd).mono ?_
    rintro e w3 ⟨rfl, hb⟩
    replace E := Lib.hid (E.out.step hb)
    clear hb d0 d1
    have d0 := cells_at E.out.b0
    have d1 := cells_at E.out.b1
    simp only [ccells] at d1
    cases hh : hasG b.b.f (findC (cms L)) ((r, i), s) with
    | true =>
      have Hh := Lib.hid hh
      go_wp2_with fail
      go_ret
      exact InsTo.no (insE_twice HM.out Hh.out) (by decide) E.out.bel
    | false =>
      have Hh := Lib.hid hh
      have hs1 : 1 ≤ s := ((may_iff _).1 HM.out.dot).2.1
      have hs2 : s ≤ 1048576 := ((may_iff _).1 HM.out.dot).2.2
      have hf1 : ps.length ≤ 64 := HM.out.few
      have hf2 : uu.length ≤ 64 := canon_few HM.out.canon
      have z0 := heap_lt E.out.b0
      have z1 := heap_lt E.out.b1
      clear hh hn
      go_wp2_with fail
      have hA1 : Below w3.heap.size w3 (w3.alloc (.cells #[.int .u8 r, .int .u32 i, .int .u64 (s - 1)] 49)) := (Below.refl _ _).alloc (Nat.le_refl _) _
      have HA1 := Lib.hid hA1
      refine (knows_G pg mb w0 m b L va vc vv ⟨⟨((r, i), s), ps, uu, t, ⟨k, n, x, p, ds⟩⟩, qa, qc, ua, uc, pa, pc, da, dc⟩ _ (H.out.below (below2 E.out.bel hA1 E.out.bel.size)) (HV.out.below (below2 E.out.bel hA1 E.out.bel.size)) (by dsimp only; omega) (by dsimp only; omega)).mono ?_
      intro e w5 hto
      obtain ⟨K, hN, okK, hlK, a5, c5, rfl, hown, hb⟩ := hto
      have E5 : Hid (In5 w w5 pg (ccells r i s qa ps.length qc ua uu.length uc t k pa p.length pc n x da ds.length dc) #[.int .u8 r, .int .u32 i, .int .u64 (s - 1)] w3.heap.size a5 c5 K) := Lib.hid ⟨(E.out.step hA1).step hb, (hb.block _ (by simp)).trans (heap_new _ _), vec_of hown⟩
      have HN := Lib.hid hN
      have HokK := Lib.hid okK
      clear hb hown hN okK hA1 HA1 E d0 d1 z0 z1
      have d0 := cells_at E5.out.e.b0
      have d1 := cells_at E5.out.e.b1
      simp only [ccells] at d1
      have d2 := cells_at E5.out.a
      go_wp2_with fail
      refine (containsD_fn 79 #[.pointer (some ⟨w.heap.size, 0, none⟩)] (fun d => !hasG b.b.f (findC (cms L)) d) qa qc ps _ (HV.out.ps.below E5.out.e.bel) (by omega) hem (fun r2 i2 s2 h2 W2 hW2 => missing_any pg mb w0 m b L va vc vv w.heap.size r2 i2 s2 W2 ((H.out.below E5.out.e.bel).below hW2) (by rw [(bcell hW2).1 _ _ (heap_lt E5.out.e.b0), cells_at E5.out.e.b0]; rfl) (HV.out.ok.ps _ h2))).mono ?_
      intro e w6 hto
      obtain ⟨z6, rfl, hz6, hb6⟩ := hto
      replace E5 := Lib.hid (E5.out.step hb6)
      have Hz6 := Lib.hid hz6
      clear hb6 hz6 d0 d1 d2
      have d0 := cells_at E5.out.e.b0
      have d1 := cells_at E5.out.e.b1
      simp only [ccells] at d1
      have d2 := cells_at E5.out.a
      cases z6 with
      | true =>
        have Hn := Lib.hid (show ¬ GapP b.b.f (findC (cms L)) ⟨((r, i), s), ps, uu, t, ⟨k, n, x, p, ds⟩⟩ from fun h => by
          obtain ⟨d, hd, h2⟩ := Hz6.out.1 rfl
          rw [h.ps d hd] at h2
          cases h2)
        go_wp2_with fail
        go_ret
        exact InsTo.no (insE_gap HM.out Hh.out Hn.out) (by decide) E5.out.e.bel
      | false =>
        have HG1 := Lib.hid (show ∀ d ∈ ps, hasG b.b.f (findC (cms L)) d = true from fun d hd => by
          cases h2 : hasG b.b.f (findC (cms L)) d with
          | true => rfl
          | false => have := Hz6.out.2 ⟨d, hd, by rw [h2]; rfl⟩; cases this)
        clear Hz6
        by_cases hs : 1 < s
        case' pos =>
          have Hs := Lib.hid hs
          go_wp2_with fail
          refine (missing_any pg mb w0 m b L va vc vv w.heap.size r i (s - 1) _ (H.out.below E5.out.e.bel) (by rw [cells_at E5.out.e.b0]; rfl) ⟨hokd.1, by omega, by omega⟩).mono ?_
          rintro e w7 ⟨rfl, hb7⟩
          replace E5 := Lib.hid (E5.out.step hb7)
          clear hb7 d0 d1 d2
          have d0 := cells_at E5.out.e.b0
          have d1 := cells_at E5.out.e.b1
          simp only [ccells] at d1
          have d2 := cells_at E5.out.a

          rcases Bool.eq_false_or_eq_true (hasG b.b.f (findC (cms L)) ((r, i), s - 1)) with hg2 | hg2
          rotate_left
          · have Hn := Lib.hid (show ¬ GapP b.b.f (findC (cms L)) ⟨((r, i), s), ps, uu, t, ⟨k, n, x, p, ds⟩⟩ from fun h => by have := h.own Hs.out; unfold aheadD at this; dsimp only at this; rw [hg2] at this; cases this)
            rw [hg2]
            go_wp2_with fail
            go_ret
            exact InsTo.no (insE_gap HM.out Hh.out Hn.out) (by decide) E5.out.e.bel
          have HG2 := Lib.hid (show 1 < s → hasG b.b.f (findC (cms L)) ((r, i), s - 1) = true from fun _ => hg2)
          rw [hg2]
          clear hg2
        case' neg =>
          have HG2 := Lib.hid (show 1 < s → hasG b.b.f (findC (cms L)) ((r, i), s - 1) = true from fun h => absurd h hs)
        all_goals
          go_wp2_with fail
          refine (within_any ua a5 uc c5 uu K _ (HV.out.vv.below E5.out.e.bel) E5.out.k HV.out.ok.vv HokK.out (by omega) (by omega)).mono ?_
          rintro e w8 ⟨rfl, hb8⟩
          replace E5 := Lib.hid (E5.out.step hb8)
          clear hb8 d0 d1 d2
          have d0 := cells_at E5.out.e.b0
          have d1 := cells_at E5.out.e.b1
          simp only [ccells] at d1
          have d2 := cells_at E5.out.a
          cases hw1 : withinV uu K with
          | false =>
            have Hn := Lib.hid (show ¬ GapP b.b.f (findC (cms L)) ⟨((r, i), s), ps, uu, t, ⟨k, n, x, p, ds⟩⟩ from fun h => by
              have : withinV uu K = true := (withinV_iff HV.out.ok.vv).2 (fun y => by rw [HN.out y]; exact h.knows y)
              rw [hw1] at this; cases this)
            go_wp2_with fail
            go_ret
            exact InsTo.no (insE_gap HM.out Hh.out Hn.out) (by decide) E5.out.e.bel
          | true =>
            have HG := Lib.hid (show GapP b.b.f (findC (cms L)) ⟨((r, i), s), ps, uu, t, ⟨k, n, x, p, ds⟩⟩ from ⟨HG1.out, HG2.out, fun y => by have h1 := (withinV_iff HV.out.ok.vv).1 hw1 y; have h2 := HN.out y; (try dsimp only at h1 h2 ⊢); omega⟩)
            clear hw1
            go_wp2_with fail
            refine (within_any a5 ua c5 uc K uu _ E5.out.k (HV.out.vv.below E5.out.e.bel) HokK.out HV.out.ok.vv (by omega) (by omega)).mono ?_
            rintro e w9 ⟨rfl, hb9⟩
            replace E5 := Lib.hid (E5.out.step hb9)
            clear hb9 d0 d1 d2
            have d0 := cells_at E5.out.e.b0
            have d1 := cells_at E5.out.e.b1
            simp only [ccells] at d1
            have d2 := cells_at E5.out.a
            cases hw2 : withinV K uu with
            | false =>
              have Hn := Lib.hid (show ¬ ((∀ y, knN b.b.f (findC (cms L)) ⟨((r, i), s), ps, uu, t, ⟨k, n, x, p, ds⟩⟩ ps y ≤ getN uu y) ∧ FollowsP b.b.f (findC (cms L)) ⟨((r, i), s), ps, uu, t, ⟨k, n, x, p, ds⟩⟩) from fun h => by
                have : withinV K uu = true := (withinV_iff HokK.out).2 (fun y => by rw [HN.out y]; exact h.1 y)
                rw [hw2] at this; cases this)
              go_wp2_with fail
              go_ret
              exact InsTo.no (insE_form HM.out Hh.out HG.out Hn.out) (by decide) E5.out.e.bel
            | true =>
              have HW2 := Lib.hid (show ∀ y, knN b.b.f (findC (cms L)) ⟨((r, i), s), ps, uu, t, ⟨k, n, x, p, ds⟩⟩ ps y ≤ getN uu y from fun y => by have h1 := (withinV_iff HokK.out).1 hw2 y; have h2 := HN.out y; (try dsimp only at h1 h2 ⊢); omega)
              clear hw2
              go_wp2_with fail
              refine (follows_G pg mb w0 m b L va vc vv r i s ps uu t k n x p ds qa qc ua uc pa pc da dc _ (H.out.below E5.out.e.bel) (HV.out.below E5.out.e.bel) (by omega)).mono ?_
              intro e w10 hto
              obtain ⟨z10, rfl, hz10, hb10⟩ := hto
              replace E5 := Lib.hid (E5.out.step hb10)
              have Hz10 := Lib.hid hz10
              clear hb10 hz10 d0 d1 d2
              have d0 := cells_at E5.out.e.b0
              have d1 := cells_at E5.out.e.b1
              simp only [ccells] at d1
              have d2 := cells_at E5.out.a
              cases z10 with
              | false =>
                have Hn := Lib.hid (show ¬ ((∀ y, knN b.b.f (findC (cms L)) ⟨((r, i), s), ps, uu, t, ⟨k, n, x, p, ds⟩⟩ ps y ≤ getN uu y) ∧ FollowsP b.b.f (findC (cms L)) ⟨((r, i), s), ps, uu, t, ⟨k, n, x, p, ds⟩⟩) from fun h => by have := Hz10.out.2 h.2; cases this)
                go_wp2_with fail
                go_ret
                exact InsTo.no (insE_form HM.out Hh.out HG.out Hn.out) (by decide) E5.out.e.bel
              | true =>
                have HB := Lib.hid (show (∀ y, knN b.b.f (findC (cms L)) ⟨((r, i), s), ps, uu, t, ⟨k, n, x, p, ds⟩⟩ ps y ≤ getN uu y) ∧ FollowsP b.b.f (findC (cms L)) ⟨((r, i), s), ps, uu, t, ⟨k, n, x, p, ds⟩⟩ from ⟨HW2.out, Hz10.out.1 rfl⟩)
                have HG10 := H.out.below E5.out.e.bel
                have g0 := cells_at HG10.blk
                simp only [gcells] at g0
                have hpg := heap_lt HG10.blk
                have hlen := fun ty => HG10.map.len Tryz.underlying116 ty
                have HL := Lib.hid HG10
                clear Hz10 HG10
                by_cases hL : 200 ≤ L.length
                · have Hl := Lib.hid hL
                  have e200 : decide ((200 : Int) ≤ (L.length : Int)) = true := by simp; omega
                  go_wp2_with fail
                  go_ret
                  exact InsTo.no (insE_full HM.out Hh.out HG.out HB.out Hl.out) (by decide) E5.out.e.bel
                · have Hl := Lib.hid (show L.length < 200 by omega)
                  have e200 : decide ((200 : Int) ≤ (L.length : Int)) = false := by simp; omega
                  go_wp2_with fail
                  refine region_text [([0, 1, 2, 3, 4, 5, 6], false), ([7], true), ([8], false)] mixed (by kernel_rfl) ?_
                  simp only [wpSegs, List.map_cons, List.map_nil, List.getD_cons_succ, List.getD_cons_zero]
                  go_wp2_with fail
                  refine (ownC_any ⟨⟨((r, i), s), ps, uu, t, ⟨k, n, x, p, ds⟩⟩, qa, qc, ua, uc, pa, pc, da, dc⟩ _ (HV.out.below E5.out.e.bel.drew) (by dsimp only; omega) (by dsimp only; omega) (by dsimp only; have := HM.out.op.path.2.1; dsimp only at this; omega) (by dsimp only; have := HM.out.op.few; dsimp only at this; omega)).mono ?_
                  intro e w11 hto
                  obtain ⟨⟨cc, a1, c1, a2, c2, a3, c3, a4, c4⟩, rfl, hcc, how, hb11⟩ := hto
                  dsimp only at hcc
                  subst hcc
                  have Hb11 := Lib.hid hb11
                  have Hd11 := Lib.hid (show Below w10.heap.size w10 w11 from ((Below.refl _ _).drew).trans hb11)
                  have How := Lib.hid how
                  have HL11 := Lib.hid (HL.out.below Hd11.out)
                  have hfn : fdW L ((r, i), s) = none := by
                    cases h2 : fdW L ((r, i), s) with
                    | none => rfl
                    | some y => have := hasG_some (F := b.b.f) h2; rw [Hh.out] at this; cases this
                  have Hfn := Lib.hid hfn
                  replace E5 := Lib.hid (E5.out.step Hd11.out)
                  clear hb11 how g0 hlen d0 d1 d2 hpg
                  obtain ⟨w12, hr, hm12, hc12⟩ := HL11.out.map.update Tryz.underlying116 (by unfold maxLen; omega) hokd (by unfold fvW; rw [hfn]; rfl) (.agg (cwcells ⟨⟨((r, i), s), ps, uu, t, ⟨k, n, x, p, ds⟩⟩, a1, c1, a2, c2, a3, c3, a4, c4⟩))
                  have Hm12 := Lib.hid hm12
                  have Hc12 := Lib.hid hc12
                  simp only [cwcells] at hr
                  clear hm12 hc12 hfn
                  go_wp2_with fail
                  refine And.intro (Agree.of_below Hb11.out) ?_
                  go_wp2_with fail
                  refine And.intro (by kernel_rfl) ?_
                  have hmw : mb < w.heap.size := H.out.map.lt
                  have hpw : pg < w.heap.size := heap_lt H.out.blk
                  have hne := H.out.ne
                  have p12 := heap_chg HL11.out.blk Hc12.out (by simpa using hne)
                  have b0 := heap_chg E5.out.e.b0 Hc12.out (by simp; omega)
                  have b1 := heap_chg E5.out.e.b1 Hc12.out (by simp; omega)
                  have g0 := cells_at p12
                  have gf := free_at p12
                  simp only [gcells] at g0
                  have d0 := cells_at b0
                  have d1 := cells_at b1
                  simp only [ccells] at d1
                  have hpg := heap_lt p12
                  have P12 := Lib.hid p12
                  have vo : OwnD w12 0 va vc vv := HL11.out.own.chg Hc12.out (noRow_map HL11.out.map)
                  have uo : Vec w12 ua uc uu := Sl.chgM (HV.out.vv.below E5.out.e.bel) Hc12.out HL11.out.map.block
                  have Vo := Lib.hid vo.vec
                  have Uo := Lib.hid uo
                  have hvm := HL11.out.vmax
                  clear p12 b0 b1 vo uo hr hne
                  go_wp2_with fail
                  refine region_text [([0, 1, 2, 3, 4, 5, 6], false), ([7], true), ([8, 9, 10], false)] mixed (by kernel_rfl) ?_
                  simp only [wpSegs, List.map_cons, List.map_nil, List.getD_cons_succ, List.getD_cons_zero]
                  go_wp2_with fail
                  refine (join_any va ua vc uc vv uu _ (Vo.out.below ((Below.refl _ _).drew)) (Uo.out.below ((Below.refl _ _).drew)) H.out.okv HV.out.ok.vv (by omega) (by omega)).mono ?_
                  rintro e w13 ⟨a6, c6, rfl, hown, hb13⟩
                  have Hb13 := Lib.hid hb13
                  have Hd13 := Lib.hid (show Below w12.heap.size w12 w13 from ((Below.refl _ _).drew).trans hb13)
                  have Ho13 := Lib.hid (show OwnD w13 w12.heap.size a6 c6 (joinV vv uu) from hown)
                  have p13 := (Hd13.out.block _ (heap_lt P12.out)).trans P12.out
                  have f13 := free_at p13
                  have g13 := cells_at p13
                  simp only [gcells] at g13
                  have hpg3 := heap_lt p13
                  clear hown hb13 d0 d1 g0 gf p13
                  go_wp2_with fail
                  refine And.intro (Agree.of_below Hb13.out) ?_
                  go_wp2_with fail
                  refine And.intro (by kernel_rfl) ?_
                  go_wp2_with fail
                  go_ret
                  exact ⟨by rw [insE_ok HM.out Hh.out HG.out HB.out Hl.out]; rfl, .inr ⟨insE_ok HM.out Hh.out HG.out HB.out Hl.out, ⟨⟨((r, i), s), ps, uu, t, ⟨k, n, x, p, ds⟩⟩, a1, c1, a2, c2, a3, c3, a4, c4⟩, a6, c6, rfl, GrAt.insert (E5.out.e.bel) HL11.out Hfn.out How.out HM.out Hl.out Hm12.out Hc12.out Hd13.out Ho13.out ⟨hpw, hmw⟩ (by have h5 := Hh.out; unfold hasG at h5; rw [Bool.or_eq_false_iff] at h5; exact h5.2)⟩⟩
end Go.Proofs.YtaandcblndldmaaGreat
