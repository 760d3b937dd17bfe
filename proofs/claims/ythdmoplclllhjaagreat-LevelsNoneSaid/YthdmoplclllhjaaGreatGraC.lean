/- Maps of commits by dots; graphs in memory. -/
import Derived.Test.YthdmoplclllhjaaGreatGraB
import Derived.Test.YthdmoplclllhjaaGreatGraP
import Derived.Test.YthdmoplclllhjaaGreatBatC
import Derived.Test.YthdmoplclllhjaaGreatMeanU
import Derived.Maps.OwnSet
namespace Go.Proofs.YthdmoplclllhjaaGreat
open Go.RowKit
set_option linter.unusedVariables false
set_option linter.unusedSimpArgs false

set_option maxRecDepth 100000 in
theorem keyD_form (v : Value) (l : Lit) (h : keyOf Tryz.prog 41 v = some l) : ∃ d, v = mkD d ∧ okD d := by
  obtain ⟨xs, L, rfl, hL, _⟩ := keyOf_top (by rw [Tryz.underlying41]) h
  have hc : Tryz.prog.cellsOf 41 = 3 := by kernel_rfl
  have hlen : xs.toList.length = 3 := by
    have h' := hL
    unfold Program.keyLits at h'
    rw [Tryz.underlying41] at h'
    simp only [hc] at h'
    split at h'
    · rename_i hc; exact hc.1
    · cases h'
  obtain ⟨n, hn⟩ : ∃ n, Tryz.prog.types.size = n + 2 := ⟨Tryz.prog.types.size - 2, by have : 2 ≤ Tryz.prog.types.size := of_decide_eq_true (by kernel_rfl); omega⟩
  rw [hn] at hL
  obtain ⟨l⟩ := xs
  match l, hlen with
  | [x, y, z], _ =>
    have h0 : Tryz.prog.keyLits (n + 3) 41 [x, y, z] = some L := hL
    have h4 := keyLits_three (d := n + 2) Tryz.underlying41 (by decide) (by decide) rfl rfl (by kernel_rfl) (by kernel_rfl) (by kernel_rfl) x y z
    have h2 := keyLits_two (d := n) Tryz.underlying39 (by decide) (by decide) rfl rfl (by kernel_rfl) (by kernel_rfl) (by kernel_rfl) Tryz.underlying5 Tryz.underlying37 x y
    have h3 : Tryz.prog.keyLits (n + 2) 22 [z] = litOf .u64 z := keyLits_one (d := n + 1) Tryz.underlying22 z
    rw [h4, h2, h3] at h0
    cases e0 : litOf .u8 x with
    | none => rw [e0] at h0; cases h0
    | some A =>
      rw [e0] at h0
      cases e1 : litOf .u32 y with
      | none => rw [e1] at h0; cases h0
      | some B =>
        rw [e1] at h0
        cases e2 : litOf .u64 z with
        | none => rw [e2] at h0; cases h0
        | some C =>
          obtain ⟨a, rfl, ha⟩ := litOf_some e0
          obtain ⟨b, rfl, hb⟩ := litOf_some e1
          obtain ⟨c, rfl, hc⟩ := litOf_some e2
          exact ⟨((a, b), c), rfl, ⟨(wf8 a).1 ha, (wf32 b).1 hb⟩, (wf64 c).1 hc⟩
theorem keyD_inv {d : Dt} {l : Lit} (h : keyOf Tryz.prog 41 (mkD d) = some l) : okD d := by
  obtain ⟨b, hb, hok⟩ := keyD_form _ _ h
  rw [mkD_inj hb]; exact hok
theorem keysD : KeyAs Tryz.prog 41 mkD := ⟨keyedD, fun v l h => by obtain ⟨a, ha, _⟩ := keyD_form v l h; exact ⟨a, ha⟩, fun a b h => mkD_inj h⟩

/-- block b is a map of exactly n dots that holds f -/
def MapN (w : World) (b n : Nat) (f : Dt → Option Value) : Prop := ∃ D : DataW Value, w.ownsMap Tryz.prog 41 heldE b n D ∧ HoldsF Tryz.prog 41 mkD D f ∧ Maps.size D = n
theorem MapN.made (w : World) : MapN (w.alloc (.map #[] 0)) w.heap.size 0 (fun _ => none) := ⟨.map [], World.ownsMap_made w _ _ heldE, ⟨⟨[], rfl⟩, fun a l _ => ⟨rfl, fun v h => by cases h⟩⟩, rfl⟩
theorem MapN.mapF {w : World} {b n : Nat} {f : Dt → Option Value} (h : MapN w b n f) : MapF w Tryz.prog 41 mkD b n f := by obtain ⟨D, h1, h2, _⟩ := h; exact ⟨D, h1, h2⟩
theorem MapN.lt {w : World} {b n : Nat} {f : Dt → Option Value} (h : MapN w b n f) : b < w.heap.size := h.mapF.lt
theorem MapN.chg {F : List Nat} {w w' : World} {b n : Nat} {f : Dt → Option Value} (h : MapN w b n f) (hc : Chg F w w') (hb : b ∉ F) : MapN w' b n f := by
  obtain ⟨D, ⟨es, clock, h1, h2⟩, h3⟩ := h
  exact ⟨D, ⟨es, clock, heap_chg h1 hc hb, h2⟩, h3⟩
theorem MapN.below {w w' : World} {b n : Nat} {f : Dt → Option Value} (h : MapN w b n f) (hb : Below w.heap.size w w') : MapN w' b n f := h.chg (F := []) (Chg.of_below hb) (by simp)
theorem MapN.congr {w : World} {b n : Nat} {f g : Dt → Option Value} (h : MapN w b n f) (hg : ∀ d, okD d → f d = g d) : MapN w b n g := by
  obtain ⟨D, h1, ⟨h2, h3⟩, h4⟩ := h
  exact ⟨D, h1, ⟨h2, fun a l hl => by rw [← hg a (keyD_inv hl)]; exact h3 a l hl⟩, h4⟩
theorem MapN.block {w : World} {b n : Nat} {f : Dt → Option Value} (h : MapN w b n f) : ∃ es clock, w.heap[b]? = some (.map es clock) := by
  obtain ⟨D, ⟨es, clock, h1, h2⟩, h3⟩ := h
  exact ⟨es, clock, h1⟩
theorem MapN.len {w : World} {b n : Nat} {f : Dt → Option Value} (h : MapN w b n f) {t e : TypeId} (ht : Tryz.prog.underlying t = some (.map 41 e)) (ty : TypeId) : (Builtin.len_ #[t] ty #[.map (some b)]).run Tryz.prog w = .ok (.int .i64 n) w := by
  obtain ⟨D, h1, h2, h3⟩ := h
  rw [h1.len ht, h3]
set_option maxRecDepth 100000 in
theorem MapN.look {w : World} {b n : Nat} {f : Dt → Option Value} (h : MapN w b n f) {t e : TypeId} (ht : Tryz.prog.underlying t = some (.map 41 e)) {z : Value} (hz : ∀ w, (zeroValue e).run Tryz.prog w = .ok z w) {r i s : Int} (hd : okD ((r, i), s)) :
    (Instr.lookup t (.map (some b)) (.agg #[.int .u8 r, .int .u32 i, .int .u64 s]) false).run Tryz.prog w = .ok ((f ((r, i), s)).getD z) w := by
  obtain ⟨l, hl⟩ := keyD_ok hd
  exact h.mapF.look keysD ht (hz w) hl
set_option maxRecDepth 100000 in
theorem MapN.look2 {w : World} {b n : Nat} {f : Dt → Option Value} (h : MapN w b n f) {t e : TypeId} (ht : Tryz.prog.underlying t = some (.map 41 e)) {z : Value} (hz : ∀ w, (zeroValue e).run Tryz.prog w = .ok z w) {r i s : Int} (hd : okD ((r, i), s)) :
    (Instr.lookup t (.map (some b)) (.agg #[.int .u8 r, .int .u32 i, .int .u64 s]) true).run Tryz.prog w = .ok (.tuple #[(f ((r, i), s)).getD z, .bool (f ((r, i), s)).isSome]) w := by
  obtain ⟨l, hl⟩ := keyD_ok hd
  obtain ⟨D, h1, ⟨h2, h3⟩, h4⟩ := h
  obtain ⟨v, ps, hr, hv⟩ := h1.look_ok keyedD ht (hz w) (zd := .held z) (zp := []) rfl hl
  obtain ⟨g1, g2⟩ := h3 ((r, i), s) l hl
  have hv' : D.atKey l (.held z) = .held v := by simp [heldE] at hv; exact hv.1.symm
  show (Instr.lookup t (.map (some b)) (mkD ((r, i), s)) true).run Tryz.prog w = _
  rw [hr, g1]
  cases hf : f ((r, i), s) with
  | none =>
    rw [hf] at g1
    rw [Maps.atKey_of_not_has g1] at hv'
    injection hv' with e
    subst e; rfl
  | some u =>
    rw [g2 u hf] at hv'
    injection hv' with e
    subst e; rfl
set_option maxRecDepth 100000 in
theorem MapN.update {w : World} {b n : Nat} {f : Dt → Option Value} (h : MapN w b n f) {t e : TypeId} (ht : Tryz.prog.underlying t = some (.map 41 e)) (hn : n < maxLen) {r i s : Int} (hd : okD ((r, i), s)) (hf : f ((r, i), s) = none) (val : Value) :
    ∃ w', (Instr.mapUpdate t (.map (some b)) (.agg #[.int .u8 r, .int .u32 i, .int .u64 s]) val).run Tryz.prog w = .ok () w' ∧ MapN w' b (n + 1) (fun x => if x = ((r, i), s) then some val else f x) ∧ Chg [b] w w' := by
  obtain ⟨l, hl⟩ := keyD_ok hd
  obtain ⟨D, h1, h2, h3⟩ := h
  obtain ⟨w', hr, ho, hg⟩ := h1.update keyedD ht hn hl (d := .held val) (ps := []) rfl
  have hnot : Maps.has D l = false := by rw [(h2.2 _ l hl).1, hf]; rfl
  refine ⟨w', hr, ⟨D.put l (.held val), ho, ⟨h2.1.put _ _, fun x lx hx => ?_⟩, ?_⟩, (Chg.grown hg).mono (by simp)⟩
  · dsimp only
    by_cases e : x = ((r, i), s)
    · subst e
      rw [hl] at hx
      cases hx
      rw [if_pos rfl]
      exact ⟨Maps.has_put_same h2.1 (keyedD.key hl) _, fun v hv z => by cases hv; exact Maps.atKey_put_same h2.1 (keyedD.key hl) _ _⟩
    · rw [if_neg e]
      have hne : lx ≠ l := fun e' => e (keysD.inj _ _ (keyedD.inj hx (e' ▸ hl)))
      obtain ⟨h4, h5⟩ := h2.2 x lx hx
      exact ⟨(Maps.has_put_other hne _).trans h4, fun v hv z => (Maps.atKey_put_other hne _ _).trans (h5 v hv z)⟩
  · rw [Maps.size_put (h1.tidy keyedD), hnot, h3]; rfl

/-- a commit in rows of its own -/
structure CwOwn (w : World) (base : Nat) (v : Cw) : Prop where
  ps : OwnD w base v.qa v.qc v.c.ps
  vv : OwnD w base v.va v.vc v.c.vv
  pt : OwnS w base v.pa v.pc v.c.o.p
  ds : OwnD w base v.da v.dc v.c.o.ds
  ok : okC v.c
theorem CwOwn.at_ {w : World} {base : Nat} {v : Cw} (h : CwOwn w base v) : CwAt w v := ⟨h.ps.vec, h.vv.vec, h.pt.strs, h.ds.vec, h.ok⟩
theorem CwOwn.base {w : World} {base base' : Nat} {v : Cw} (h : CwOwn w base v) (hb : base' ≤ base) : CwOwn w base' v := ⟨h.ps.base hb, h.vv.base hb, h.pt.base hb, h.ds.base hb, h.ok⟩
theorem CwOwn.below {w w' : World} {base : Nat} {v : Cw} (h : CwOwn w base v) (hb : Below w.heap.size w w') : CwOwn w' base v := ⟨h.ps.below hb, h.vv.below hb, h.pt.below hb, h.ds.below hb, h.ok⟩
/-- blocks that hold no dots and no names -/
def NoRow (w : World) (F : List Nat) : Prop := ∀ k ∈ F, ∀ C t fr, w.heap[k]? = some (.cells C t fr) → t ≠ 41 ∧ t ≠ 9
theorem ob_row {w : World} {base : Nat} {e : TypeId} {size n c m : Nat} {a : Option Addr} {xs : List Value} (h : w.ownsRow base e size (.slice a n c) m xs) : ∀ k ∈ ob a, ∃ C fr, w.heap[k]? = some (.cells C e fr) := by
  intro k hk
  rcases h.2 with ⟨h2, _⟩ | ⟨g, cap, cur, h2, _, hg, _⟩
  · injection h2 with h2
    subst h2
    simp [ob] at hk
  · injection h2 with h2
    subst h2
    simp [ob] at hk
    subst hk
    exact ⟨_, _, hg⟩
theorem OwnD.far {w : World} {base : Nat} {a : Option Addr} {c : Nat} {v : List Dt} {F : List Nat} (h : OwnD w base a c v) (hF : NoRow w F) : ∀ k ∈ ob a, k ∉ F := fun k hk hm => by
  obtain ⟨C, fr, hh⟩ := ob_row h k hk
  exact (hF k hm _ _ _ hh).1 rfl
theorem OwnS.far {w : World} {base : Nat} {a : Option Addr} {c : Nat} {v : List ByteArray} {F : List Nat} (h : OwnS w base a c v) (hF : NoRow w F) : ∀ k ∈ ob a, k ∉ F := fun k hk hm => by
  obtain ⟨C, fr, hh⟩ := ob_row h k hk
  exact (hF k hm _ _ _ hh).2 rfl
theorem OwnD.chg {w w' : World} {base : Nat} {a : Option Addr} {c : Nat} {v : List Dt} {F : List Nat} (h : OwnD w base a c v) (hc : Chg F w w') (hF : NoRow w F) : OwnD w' base a c v := owns_chg h hc (h.far hF)
theorem OwnS.chg {w w' : World} {base : Nat} {a : Option Addr} {c : Nat} {v : List ByteArray} {F : List Nat} (h : OwnS w base a c v) (hc : Chg F w w') (hF : NoRow w F) : OwnS w' base a c v := owns_chg h hc (h.far hF)
theorem CwOwn.chg {w w' : World} {base : Nat} {v : Cw} {F : List Nat} (h : CwOwn w base v) (hc : Chg F w w') (hF : NoRow w F) : CwOwn w' base v := ⟨h.ps.chg hc hF, h.vv.chg hc hF, h.pt.chg hc hF, h.ds.chg hc hF, h.ok⟩

/-- a baseline, and where it lies -/
structure Bw where
  b : Bs
  fa : Option Addr
  fc : Nat
  ta : Option Addr
  tc : Nat
  ra : Option Addr
  rc : Nat
structure BwAt (w : World) (m : Nat) (v : Bw) : Prop where
  f : Vec w v.fa v.fc v.b.f
  tips : Vec w v.ta v.tc v.b.tips
  tr : TrRd w m v.ra v.rc v.b.tr
  okf : okV v.b.f
  okt : okV v.b.tips
  num : 0 ≤ v.b.num ∧ v.b.num ≤ 18446744073709551615
  t : 0 ≤ v.b.t ∧ v.b.t ≤ 18446744073709551615
theorem BwAt.below {w w' : World} {m : Nat} {v : Bw} (h : BwAt w m v) (hb : Below w.heap.size w w') : BwAt w' m v := ⟨h.f.below hb, h.tips.below hb, h.tr.below hb, h.okf, h.okt, h.num, h.t⟩
/-- a commit as a map's element -/
def cwv (v : Cw) : Value := .agg (cwcells v)
def fdW (L : List Cw) : Dt → Option Cw := fun d => L.find? fun v => decide (v.c.d = d)
def fvW (L : List Cw) : Dt → Option Value := fun d => (fdW L d).map cwv
def cms (L : List Cw) : List Cm := L.map (·.c)
theorem fdW_c (L : List Cw) (d : Dt) : (fdW L d).map (·.c) = findC (cms L) d := by
  unfold fdW findC cms
  rw [List.find?_map]
  rfl
theorem fdW_some {L : List Cw} {d : Dt} {v : Cw} (h : fdW L d = some v) : v ∈ L ∧ v.c.d = d := ⟨List.mem_of_find?_eq_some h, by have := List.find?_some h; simpa using this⟩
abbrev gcells (num : Int) (fa : Option Addr) (fn fc : Nat) (ta : Option Addr) (tn tc : Nat) (t : Int) (ra : Option Addr) (rn rc mb : Nat) (va : Option Addr) (vn vc : Nat) : Array Value :=
  #[.int .u64 num, .slice fa fn fc, .slice ta tn tc, .int .u64 t, .slice ra rn rc, .map (some mb), .slice va vn vc]
/-- a graph at block pg, its map at block mb, its baseline known in an older world -/
structure GrAt (w : World) (pg mb : Nat) (w0 : World) (m : Nat) (b : Bw) (L : List Cw) (va : Option Addr) (vc : Nat) (vv : List Dt) : Prop where
  blk : w.heap[pg]? = some (.cells (gcells b.b.num b.fa b.b.f.length b.fc b.ta b.b.tips.length b.tc b.b.t b.ra b.b.tr.length b.rc mb va vv.length vc) 79 (0, 0))
  map : MapN w mb L.length (fvW L)
  old : w0.heap.size ≤ pg ∧ w0.heap.size ≤ mb
  bel : Below w0.heap.size w0 w
  base : BwAt w0 m b
  each : ∀ v ∈ L, CwOwn w 0 v
  own : OwnD w 0 va vc vv
  okv : okV vv
  nodup : ((cms L).map (·.d)).Nodup
  may : ∀ v ∈ L, CmP v.c
  max : L.length ≤ 200
  fmax : b.b.f.length ≤ 100000
  tmax : b.b.tips.length ≤ 100000
  vmax : vv.length ≤ 100000
  bp : BaseP b.b
  out : ∀ v ∈ L, hasV b.b.f v.c.d = false
theorem GrAt.ne {w : World} {pg mb : Nat} {w0 : World} {m : Nat} {b : Bw} {L : List Cw} {va : Option Addr} {vc : Nat} {vv : List Dt} (h : GrAt w pg mb w0 m b L va vc vv) : pg ≠ mb := fun e => by
  obtain ⟨es, clock, hh⟩ := h.map.block
  rw [← e, h.blk] at hh
  cases hh
theorem GrAt.chg {F : List Nat} {w w' : World} {pg mb : Nat} {w0 : World} {m : Nat} {b : Bw} {L : List Cw} {va : Option Addr} {vc : Nat} {vv : List Dt} (h : GrAt w pg mb w0 m b L va vc vv) (hc : Chg F w w') (hp : pg ∉ F) (hm : mb ∉ F) (hF : NoRow w F) (h0 : ∀ k ∈ F, w0.heap.size ≤ k) : GrAt w' pg mb w0 m b L va vc vv :=
  ⟨heap_chg h.blk hc hp, h.map.chg hc hm, h.old, h.bel.trans (hc.below h.bel.size h0), h.base, fun v hv => (h.each v hv).chg hc hF, h.own.chg hc hF, h.okv, h.nodup, h.may, h.max, h.fmax, h.tmax, h.vmax, h.bp, h.out⟩
theorem GrAt.below {w w' : World} {pg mb : Nat} {w0 : World} {m : Nat} {b : Bw} {L : List Cw} {va : Option Addr} {vc : Nat} {vv : List Dt} (h : GrAt w pg mb w0 m b L va vc vv) (hb : Below w.heap.size w w') : GrAt w' pg mb w0 m b L va vc vv :=
  h.chg (F := []) (Chg.of_below hb) (by simp) (by simp) (fun k hk => by cases hk) (fun k hk => by cases hk)
theorem GrAt.fvec {w : World} {pg mb : Nat} {w0 : World} {m : Nat} {b : Bw} {L : List Cw} {va : Option Addr} {vc : Nat} {vv : List Dt} (h : GrAt w pg mb w0 m b L va vc vv) : Vec w b.fa b.fc b.b.f := h.base.f.below h.bel
end Go.Proofs.YthdmoplclllhjaaGreat
