/- The reader, plainly: what bytes begin with; what is laid is read again. No program in sight. | Operations and commits as bytes, plainly: what was laid is read again; cut, it is not. No program in sight. | Commits in memory; arguments that are commits, opened. | commit.rising: dots that rise within a vector: contract. | op.MayEvent; slices.Equal of vectors; commit.Event, commit.May: exact. -/
import Derived.Test.YtaandcblndldmaaGreatVec3
import Derived.Test.YtaandcblndldmaaGreatBatA
/- ComP -/
/- CodP -/
namespace Go.Proofs.YtaandcblndldmaaGreat
open Go.RowKit
set_option linter.unusedVariables false
set_option linter.unusedSimpArgs false

/-- so many bytes, of at most 'most' -/
def textB (s : ByteArray) : List UInt8 := numB s.size ++ s.data.toList
end Go.Proofs.YtaandcblndldmaaGreat

/- ComP -/
namespace Go.Proofs.YtaandcblndldmaaGreat
open Go.RowKit
set_option linter.unusedVariables false
set_option linter.unusedSimpArgs false

/-- a dot, read: op's way, commit's way -/
def zeroD : Dt := ((0, 0), 0)
def zeroO : Opn := ⟨0, 0, ByteArray.empty, [], []⟩
def MayOpn (o : Opn) : Prop := OpP o.k o.n o.x o.p o.ds
/-- a commit -/
structure Cm where
  d : Dt
  ps : List Dt
  vv : List Dt
  t : Int
  o : Opn
/-- dots that rise, within a vector, none one's own -/
def RiseP (l : List Dt) (d : Dt) (vv : List Dt) : Prop := l.Pairwise ltD ∧ ∀ x ∈ l, x ≠ d ∧ hasV vv x = true
/-- a commit that may be -/
structure CmP (c : Cm) : Prop where
  dot : may c.d = true
  t1 : 1 ≤ c.t
  t2 : c.t ≤ 1099511627776
  op : MayOpn c.o
  canon : canonV c.vv = c.vv
  own : getN c.vv c.d.1 = c.d.2
  few : c.ps.length ≤ 64
  ps : RiseP c.ps c.d c.vv
  ds : RiseP c.o.ds c.d c.vv
/-- numbers that a memory can hold -/
structure okC (c : Cm) : Prop where
  d : okD c.d
  ps : okV c.ps
  vv : okV c.vv
  t : 0 ≤ c.t ∧ c.t ≤ 18446744073709551615
  ds : okV c.o.ds
def zeroC : Cm := ⟨zeroD, [], [], 0, zeroO⟩
theorem canon_few {v : List Dt} (h : canonV v = v) : v.length ≤ 64 := by rw [← h]; exact vecOf_length _
end Go.Proofs.YtaandcblndldmaaGreat

/- ComA -/
namespace Go.Proofs.YtaandcblndldmaaGreat
open Go.RowKit Go.ChangeShapes Go.WideShapes
set_option linter.unusedVariables false
set_option linter.unusedSimpArgs false

/-- a commit, and where its parts lie -/
structure Cw where
  c : Cm
  qa : Option Addr
  qc : Nat
  va : Option Addr
  vc : Nat
  pa : Option Addr
  pc : Nat
  da : Option Addr
  dc : Nat
abbrev cwcells (v : Cw) : Array Value :=
  #[.int .u8 v.c.d.1.1, .int .u32 v.c.d.1.2, .int .u64 v.c.d.2, .slice v.qa v.c.ps.length v.qc, .slice v.va v.c.vv.length v.vc, .int .u64 v.c.t,
    .int .u8 v.c.o.k, .slice v.pa v.c.o.p.length v.pc, .int .i64 v.c.o.n, .string v.c.o.x, .slice v.da v.c.o.ds.length v.dc]
structure CwAt (w : World) (v : Cw) : Prop where
  ps : Vec w v.qa v.qc v.c.ps
  vv : Vec w v.va v.vc v.c.vv
  pt : Strs w v.pa v.pc v.c.o.p
  ds : Vec w v.da v.dc v.c.o.ds
  ok : okC v.c
theorem CwAt.below {w w' : World} {v : Cw} (h : CwAt w v) (hb : Below w.heap.size w w') : CwAt w' v := ⟨h.ps.below hb, h.vv.below hb, h.pt.below hb, h.ds.below hb, h.ok⟩
theorem CwAt.op {w : World} {v : Cw} (h : CwAt w v) : OwAt w ⟨v.c.o, v.pa, v.pc, v.da, v.dc⟩ := ⟨h.pt, h.ds, h.ok.ds⟩
theorem listN11 {cs : List Value} (h : cs.length = 11) : ∃ a b c d e f g i j k l, cs = [a, b, c, d, e, f, g, i, j, k, l] := by
  match cs, h with
  | [a, b, c, d, e, f, g, i, j, k, l], _ => exact ⟨a, b, c, d, e, f, g, i, j, k, l, rfl⟩
section
variable {H : Type} {enc : TypeId × Value → H} {w : World} {base : Nat} {spare : Nat → Bool} {held : Bool}
end
end Go.Proofs.YtaandcblndldmaaGreat

/- GraA -/
/- GraA -/
namespace Go.Proofs.YtaandcblndldmaaGreat
open Go.RowKit
set_option linter.unusedVariables false
set_option linter.unusedSimpArgs false

/-- a commit's cells, spelled out -/
abbrev ccells (r i s : Int) (qa : Option Addr) (qn qc : Nat) (va : Option Addr) (vn vc : Nat) (t k : Int) (pa : Option Addr) (pn pc : Nat) (n : Int) (x : ByteArray) (da : Option Addr) (dn dc : Nat) : Array Value :=
  #[.int .u8 r, .int .u32 i, .int .u64 s, .slice qa qn qc, .slice va vn vc, .int .u64 t, .int .u8 k, .slice pa pn pc, .int .i64 n, .string x, .slice da dn dc]
structure CmE (w wr : World) (C : Array Value) : Prop where
  blk : wr.heap[w.heap.size]? = some (.cells C 54 (0, 0))
  bel : Below w.heap.size w wr
theorem CmE.of {w wr : World} {C : Array Value} (hb : Below (w.alloc (.cells C 54)).heap.size (w.alloc (.cells C 54)) wr) : CmE w wr C := ⟨(new1 hb).1, (new1 hb).2.2⟩
theorem CmE.step {w wr w' : World} {C : Array Value} (h : CmE w wr C) (hb : Below wr.heap.size wr w') : CmE w w' C := ⟨(hb.block _ (heap_lt h.blk)).trans h.blk, below2 h.bel hb h.bel.size⟩
def JRi (l : List Dt) (w : World) (C : Array Value) (d : Dt) (vv : List Dt) (j : Value) (wr : World) : Prop :=
  ∃ q : Nat, q ≤ l.length ∧ j = .int .i64 q ∧ CmE w wr C ∧ upTo ltD l q ∧ ∀ x ∈ l.take q, x ≠ d ∧ hasV vv x = true
theorem not_rise {l : List Dt} {d : Dt} {vv : List Dt} {q : Nat} {x : Dt} (hx : l[q]? = some x) (h : ¬ (x ≠ d ∧ hasV vv x = true)) : ¬ RiseP l d vv := fun hh => h (hh.2 x (List.mem_of_getElem? hx))
theorem not_rise2 {l : List Dt} {d : Dt} {vv : List Dt} {q : Nat} {x y : Dt} (hx : l[q]? = some x) (hy : l[q + 1]? = some y) (h : lessD x y = false) : ¬ RiseP l d vv := fun hh => by
  have := pairwise_next hh.1 hx hy
  unfold ltD at this
  rw [h] at this
  cases this
set_option maxRecDepth 100000 in
set_option maxHeartbeats 8000000 in
theorem rising_any (la : Option Addr) (lc : Nat) (l : List Dt) (r0 i0 s0 : Int) (qa : Option Addr) (qn qc : Nat) (va : Option Addr) (vv : List Dt) (vc : Nat) (t k : Int) (pa : Option Addr) (pn pc : Nat) (n : Int) (x0 : ByteArray) (da : Option Addr) (dn dc : Nat) (w : World)
    (hl : Vec w la lc l) (hv : Vec w va vc vv) (ol : okV l) (ov : okV vv) (hn : l.length ≤ 1100000) (hm : vv.length ≤ 1100000) :
    Calls Tryz.prog 108 #[.slice la l.length lc, .agg (ccells r0 i0 s0 qa qn qc va vv.length vc t k pa pn pc n x0 da dn dc)] w (IsTo w (RiseP l ((r0, i0), s0) vv)) := by
  have Hl := Lib.hid hl
  have Hv := Lib.hid hv
  clear hl hv
  go_enter Tryz.func108, Tryz.ntmps108
  go_wp2_with fail
  go_loopw [9] (fun j wr => JRi l w (ccells r0 i0 s0 qa qn qc va vv.length vc t k pa pn pc n x0 da dn dc) ((r0, i0), s0) vv j wr) (fun j _ => l.length - (intOf j).toNat)
  case atStart => exact ⟨0, Nat.zero_le _, rfl, CmE.of (Below.refl _ _), upTo.zero, by simp⟩
  case round =>
    obtain ⟨q, hq, rfl, hE, hup, hall⟩ := hrel
    have Hall := Lib.hid hall
    have Hup := Lib.hid hup
    have E := Lib.hid hE
    have d0 := cells_at E.out.blk
    have z0 := heap_lt E.out.blk
    simp only [ccells] at d0
    clear hE hall hup
    by_cases hlt : q < l.length
    · obtain ⟨⟨⟨r, i⟩, s⟩, hx2⟩ : ∃ x, l[q]? = some x := ⟨l[q], by simp [hlt]⟩
      obtain ⟨ad, had, c0, c1, c2, hl0⟩ := (Hl.out.below E.out.bel).at hx2
      have hokx : okD ((r, i), s) := ol _ (List.mem_of_getElem? hx2)
      have Hok := Lib.hid hokx.1
      subst had
      dsimp only at c0 c1 c2
      have Hx := Lib.hid hx2
      clear hx2 hokx
      have key : ∀ (W : World), Below w.heap.size w W → Calls Tryz.prog 71 #[.slice va vv.length vc, .agg #[.int .u8 r, .int .u32 i, .int .u64 s]] W fun e w' => e = .returned (.bool (hasV vv ((r, i), s))) ∧ Below W.heap.size W w' :=
        fun W hW => has_any va vc vv r i s W (Hv.out.below hW) hm ov Hok.out
      have Key := Lib.hid key
      clear key
      cases q with
      | zero =>
        have ez : ad.add (0 * 3) = ad := by simp [Addr.add]
        rw [ez] at c0 c1 c2
        clear ez
        cases he : eqD ((r, i), s) ((r0, i0), s0) with
        | true =>
          have Hn := Lib.hid (show ¬ RiseP l ((r0, i0), s0) vv from not_rise Hx.out (fun h => h.1 ((eqD_iff _ _).1 he)))
          go_wp2_with fail
          refine region_text [([0, 1, 2, 3, 4, 5, 6, 7, 8, 9, 10, 11, 12, 13, 14, 15, 16, 17, 18, 19, 20, 21, 22, 23, 24], false)] mixed (by kernel_rfl) ?_
          simp only [wpSegs, List.map_cons, List.map_nil, List.getD_cons_succ, List.getD_cons_zero]
          go_wp2_with fail
          refine And.intro (by kernel_rfl) ?_
          go_wp2_with fail
          go_ret
          exact no_name Hn.out (below2 E.out.bel (((Below.refl _ _).alloc (Nat.le_refl _) _).drew) E.out.bel.size)
        | false =>
          have He := Lib.hid (show ((r, i), s) ≠ ((r0, i0), s0) from fun h => by rw [(eqD_iff _ _).2 h] at he; cases he)
          go_wp2_with fail
          refine region_text [([0, 1, 2, 3, 4, 5, 6, 7, 8, 9, 10, 11, 12, 13, 14, 15, 16, 17, 18, 19, 20, 21, 22, 23, 24], false)] mixed (by kernel_rfl) ?_
          simp only [wpSegs, List.map_cons, List.map_nil, List.getD_cons_succ, List.getD_cons_zero]
          go_wp2_with fail
          refine (Key.out _ (below2 E.out.bel (((Below.refl _ _).alloc (Nat.le_refl _) _).drew) E.out.bel.size)).mono ?_
          rintro e w1 ⟨rfl, hb1⟩
          obtain ⟨hx0, hz1, hB1⟩ := new1 (((Below.refl _ _).drew).trans hb1)
          replace E := Lib.hid (E.out.step hB1)
          clear hb1 hx0 c0 c1 c2 d0
          cases hh : hasV vv ((r, i), s) with
          | false =>
            have Hn := Lib.hid (show ¬ RiseP l ((r0, i0), s0) vv from not_rise Hx.out (fun h => by rw [hh] at h; cases h.2))
            go_wp2_with fail
            refine And.intro (by kernel_rfl) ?_
            go_wp2_with fail
            go_ret
            exact no_name Hn.out E.out.bel
          | true =>
            have Hh := Lib.hid hh
            go_wp2_with fail
            refine And.intro (by kernel_rfl) ?_
            go_wp2_with fail
            go_roundw
            case rel => exact ⟨1, by omega, by go_num, E.out, upTo.one, all_snoc Hx.out Hall.out ⟨He.out, Hh.out⟩⟩
            case measure => simp [intOf]; omega
      | succ m =>
        obtain ⟨⟨⟨r', i'⟩, s'⟩, hy⟩ : ∃ x, l[m]? = some x := ⟨l[m], by simp [show m < l.length by omega]⟩
        obtain ⟨ae, hae, p0, p1, p2, hl2⟩ := (Hl.out.below E.out.bel).at hy
        cases hae
        dsimp only at p0 p1 p2
        have Hy := Lib.hid hy
        have hlp : (ad.add (m * 3)).block < wr.heap.size := by rw [add_block]; exact hl2
        clear hy
        go_wp2_with fail
        refine region_text [([0, 1, 2, 3, 4, 5, 6, 7, 8, 9, 10, 11, 12, 13, 14, 15, 16, 17, 18, 19, 20, 21, 22, 23, 24], false)] mixed (by kernel_rfl) ?_
        simp only [wpSegs, List.map_cons, List.map_nil, List.getD_cons_succ, List.getD_cons_zero]
        go_wp2_with fail
        refine (compareD_any r' i' s' r i s _).mono ?_
        rintro e w1 ⟨rfl, hg⟩
        obtain ⟨hx0, hz1, hB1⟩ := new1 (((Below.refl _ _).drew).trans hg.below)
        replace E := Lib.hid (E.out.step hB1)
        have g0 := cells_at hx0
        have Hx0 := Lib.hid hx0
        clear hg hx0 c0 c1 c2 p0 p1 p2 d0 z0
        have d0 := cells_at E.out.blk
        have z0 := heap_lt E.out.blk
        simp only [ccells] at d0
        have hc := cmpDD_less ((r', i'), s') ((r, i), s)
        cases ha : lessD ((r', i'), s') ((r, i), s) with
        | false =>
          have Hn := Lib.hid (show ¬ RiseP l ((r0, i0), s0) vv from not_rise2 Hy.out Hx.out ha)
          rw [ha] at hc
          clear ha
          go_wp2_with fail
          refine And.intro (by kernel_rfl) ?_
          go_wp2_with fail
          go_ret
          exact no_name Hn.out E.out.bel
        | true =>
          have Ha := Lib.hid ha
          rw [ha] at hc
          clear ha
          cases he : eqD ((r, i), s) ((r0, i0), s0) with
          | true =>
            have Hn := Lib.hid (show ¬ RiseP l ((r0, i0), s0) vv from not_rise Hx.out (fun h => h.1 ((eqD_iff _ _).1 he)))
            go_wp2_with fail
            refine And.intro (by kernel_rfl) ?_
            go_wp2_with fail
            go_ret
            exact no_name Hn.out E.out.bel
          | false =>
            have He := Lib.hid (show ((r, i), s) ≠ ((r0, i0), s0) from fun h => by rw [(eqD_iff _ _).2 h] at he; cases he)
            go_wp2_with fail
            refine (Key.out _ E.out.bel).mono ?_
            rintro e w2 ⟨rfl, hb2⟩
            replace E := Lib.hid (E.out.step hb2)
            clear hb2 d0 g0
            cases hh : hasV vv ((r, i), s) with
            | false =>
              have Hn := Lib.hid (show ¬ RiseP l ((r0, i0), s0) vv from not_rise Hx.out (fun h => by rw [hh] at h; cases h.2))
              go_wp2_with fail
              refine And.intro (by kernel_rfl) ?_
              go_wp2_with fail
              go_ret
              exact no_name Hn.out E.out.bel
            | true =>
              have Hh := Lib.hid hh
              go_wp2_with fail
              refine And.intro (by kernel_rfl) ?_
              go_wp2_with fail
              go_roundw
              case rel => exact ⟨m + 2, by omega, by go_num, E.out, Hup.out.succ Hy.out Hx.out Ha.out, all_snoc Hx.out Hall.out ⟨He.out, Hh.out⟩⟩
              case measure => simp [intOf]; omega
    · have hall := Hall.out
      rw [List.take_of_length_le (by omega)] at hall
      have HA := Lib.hid (show RiseP l ((r0, i0), s0) vv from ⟨upTo.all (lt := ltD) (fun h1 h2 => ltD_trans h1 h2) Hup.out (by omega), hall⟩)
      clear hall
      go_wp2_with fail
      go_ret
      exact yes_name HA.out E.out.bel
end Go.Proofs.YtaandcblndldmaaGreat

/- GraB -/
namespace Go.Proofs.YtaandcblndldmaaGreat
open Go.RowKit
set_option linter.unusedVariables false
set_option linter.unusedSimpArgs false

section
variable {ops : Array Oper} {rest : List Oper} {o : Oper} {a : Act} {Q : Exit → Act → World → Prop} {w : World}
theorem wpList_appV (hgd : o.guard = none) (s x : Operand) (ho : o.op = .call { callee := .builtin .append, args := #[s, x], argTypes := #[28, 28] })
    (base : Nat) (va : Option Addr) (vc : Nat) (v : List Dt) (hs : a.eval s = .slice va v.length vc) (hown : OwnD w base va vc v)
    (sa : Option Addr) (c : Nat) (u : List Dt) (hx : a.eval x = .slice sa u.length c) (hsl : Vec w sa c u) (hn : v.length + u.length ≤ 3000000) (hbase : base ≤ w.heap.size)
    (h : ∀ v' a' c' w', v' = v ++ u → OwnD w' base a' c' v' → Below base w w' → Chg (ob va) w w' → wpList Tryz.prog ops Q rest (a.put o.dst (.slice a' v'.length c')) w') : wpList Tryz.prog ops Q (o :: rest) a w := by
  obtain ⟨i0, hi0, hz0, hz1, hz2⟩ := info_parts Tryz.info_dot
  refine wpList_append_sl hgd s x 28 ho base 49 i0 (.agg #[.int .u8 0, .int .u32 0, .int .u64 0]) 3 16 Tryz.underlying28 hi0 hz0 hz1 hz2 rfl (by decide) va v.length vc (dcells v) hs hown sa u.length c (dcells u) hx hsl (dcells_one u) (by unfold maxLen; omega) (by omega) hbase fun a' c' w' h1 h2 h3 => ?_
  have := h (v ++ u) a' c' w' rfl (by unfold OwnD; rw [dcells_append, List.length_append]; exact h1) (h2.below hbase fun k hk => (owns_lt hown k hk).1) h2
  rwa [List.length_append] at this
end
set_option maxHeartbeats 1000000 in
theorem equalV_any (a b : Option Addr) (c d : Nat) (l m : List Dt) (w : World) (hv : Vec w a c l) (hu : Vec w b d m) (hn : l.length ≤ 1100000) (hm : m.length ≤ 1100000) :
    Calls Tryz.prog 106 #[.slice a l.length c, .slice b m.length d] w fun e w' => ∃ q : Bool, e = .returned (.bool q) ∧ (q = true ↔ l = m) ∧ Below w.heap.size w w' := by
  have Hv := Lib.hid hv
  have Hu := Lib.hid hu
  clear hv hu
  by_cases hl : l.length = m.length
  · have Hl := Lib.hid hl
    rw [← hl]
    clear hl
    go_enter Tryz.func106, Tryz.ntmps106
    go_wp2_with fail
    go_loopw [13] (fun j wr => ∃ k : Nat, k ≤ l.length ∧ j = .int .i64 k ∧ Hid (l.take k = m.take k) ∧ Below w.heap.size w wr) (fun j _ => l.length - (intOf j).toNat)
    case atStart => exact ⟨0, Nat.zero_le _, rfl, Lib.hid (by simp), Below.refl _ _⟩
    case round =>
      obtain ⟨k, hk, rfl, hle, hb⟩ := hrel
      have Hb := Lib.hid hb
      clear hb
      by_cases hlt : k < l.length
      · have hlm : k < m.length := by have := Hl.out; omega
        obtain ⟨⟨⟨r, i⟩, s⟩, hx⟩ : ∃ x, l[k]? = some x := ⟨l[k], by simp [hlt]⟩
        obtain ⟨⟨⟨r', i'⟩, s'⟩, hy⟩ : ∃ y, m[k]? = some y := ⟨m[k], by simp [hlm]⟩
        obtain ⟨ad, had, d0, d1, d2, hl0⟩ := (Hv.out.below Hb.out).at hx
        obtain ⟨ae, hae, e0, e1, e2, hl1⟩ := (Hu.out.below Hb.out).at hy
        subst had hae
        dsimp only at d0 d1 d2 e0 e1 e2
        have Hx := Lib.hid hx
        have Hy := Lib.hid hy
        clear hx hy
        cases hq : eqD ((r, i), s) ((r', i'), s') with
        | true =>
          go_wp2_with fail
          refine region_text [([0, 1, 2, 3, 4, 5, 6, 7, 8], false)] mixed (by kernel_rfl) ?_
          simp only [wpSegs, List.map_cons, List.map_nil, List.getD_cons_succ, List.getD_cons_zero]
          go_wp2_with fail
          refine And.intro (by kernel_rfl) ?_
          go_wp2_with fail
          go_roundw
          case rel => exact ⟨k + 1, by omega, by go_num, Lib.hid (by rw [take_snoc' Hx.out, take_snoc' Hy.out, hle.out, (eqD_iff _ _).1 hq]), below_drewN Hb.out _⟩
          case measure => simp [intOf]; omega
        | false =>
          have He := Lib.hid (show ¬ l = m by intro e; subst e; have := Hx.out.symm.trans Hy.out; rw [Option.some.injEq, ← eqD_iff, hq] at this; cases this)
          go_wp2_with fail
          refine region_text [([0, 1, 2, 3, 4, 5, 6, 7, 8], false)] mixed (by kernel_rfl) ?_
          simp only [wpSegs, List.map_cons, List.map_nil, List.getD_cons_succ, List.getD_cons_zero]
          go_wp2_with fail
          refine And.intro (by kernel_rfl) ?_
          go_wp2_with fail
          go_ret
          exact ⟨false, rfl, by simp [He.out], below_drewN Hb.out _⟩
      · have He := Lib.hid (show l = m from take_ext k Hl.out (by omega) hle.out)
        go_wp2_with fail
        go_ret
        exact ⟨true, rfl, by simp [He.out], Hb.out⟩
  · have He := Lib.hid (show ¬ l = m from fun e => hl (by rw [e]))
    have hl' : ((l.length : Int) == (m.length : Int)) = false := by simp; omega
    go_enter Tryz.func106, Tryz.ntmps106
    go_wp2_with fail
    go_ret
    exact ⟨false, rfl, by simp [He.out], Below.refl _ _⟩
set_option maxRecDepth 100000 in
set_option maxHeartbeats 1000000 in
theorem cloneV_any (a : Option Addr) (c : Nat) (l : List Dt) (w : World) (hv : Vec w a c l) (hn : l.length ≤ 1100000) :
    Calls Tryz.prog 37 #[.slice a l.length c] w fun e w' => ∃ a' c' v', e = .returned (.slice a' (List.length v') c') ∧ v' = l ∧ OwnD w' w.heap.size a' c' v' ∧ Below w.heap.size w w' := by
  have Hv := Lib.hid hv
  have heq := fun (w : World) (a : Option Addr) (n c : Nat) => Lib.run_eql_slice_nil (P := Tryz.prog) w 28 49 a n c 0 0 Tryz.underlying28
  cases a with
  | none =>
    obtain ⟨h1, h2, h3, ⟨_, h4, h5⟩ | ⟨b, hb, _⟩⟩ := hv
    · subst h5
      obtain rfl : l = [] := List.eq_nil_of_length_eq_zero h4
      clear h1 h2 h3 h4 Hv
      go_enter Tryz.func37, Tryz.ntmps37
      go_wp2_with fail
      go_ret
      exact ⟨none, 0, [], rfl, rfl, OwnD.nil _ _, Below.refl _ _⟩
    · cases hb
  | some ad =>
    clear hv
    go_enter Tryz.func37, Tryz.ntmps37
    go_wp2_with (at_builtin; go_must (refine wpList_appV rfl _ _ rfl w.heap.size (some ⟨w.heap.size, 0, none⟩) 0 [] rfl (OwnD.made w (Nat.le_refl _)) (some ad) c l rfl (Hv.out.below ((Below.refl _ _).alloc (Nat.le_refl _) _)) ?n1 ?b1 ?_))
    case n1 => simp; omega
    case b1 => simp
    intro v' a' c' w2 hv' ho2 hb2 _
    have Hv' := Lib.hid hv'
    have HB2 : Hid (Below w.heap.size w w2) := Lib.hid (((Below.refl _ _).alloc (Nat.le_refl _) _).trans hb2)
    have Ho2 := Lib.hid ho2
    clear hv' ho2 hb2
    go_wp2_with fail
    go_ret
    exact ⟨a', c', v', rfl, by rw [Hv'.out], Ho2.out, HB2.out⟩
/-- a new block with these cells, of a type -/
structure BoxE (ty : TypeId) (w wr : World) (C : Array Value) : Prop where
  blk : wr.heap[w.heap.size]? = some (.cells C ty (0, 0))
  bel : Below w.heap.size w wr
theorem BoxE.of {ty : TypeId} {w wr : World} {C : Array Value} (hb : Below (w.alloc (.cells C ty)).heap.size (w.alloc (.cells C ty)) wr) : BoxE ty w wr C := ⟨(new1 hb).1, (new1 hb).2.2⟩
theorem BoxE.step {ty : TypeId} {w wr w' : World} {C : Array Value} (h : BoxE ty w wr C) (hb : Below wr.heap.size wr w') : BoxE ty w w' C := ⟨(hb.block _ (heap_lt h.blk)).trans h.blk, below2 h.bel hb h.bel.size⟩
abbrev evcells (r i s t k : Int) (pa : Option Addr) (pn pc : Nat) (n : Int) (x : ByteArray) (da : Option Addr) (dn dc : Nat) : Array Value :=
  #[.int .u8 r, .int .u32 i, .int .u64 s, .int .u64 t, .int .u8 k, .slice pa pn pc, .int .i64 n, .string x, .slice da dn dc]
/-- an event that may be -/
structure EvP (d : Dt) (t k n : Int) (x : ByteArray) (p : List ByteArray) (ds : List Dt) : Prop where
  dot : may d = true
  t1 : 1 ≤ t
  t2 : t ≤ 1099511627776
  op : OpP k n x p ds
set_option maxRecDepth 100000 in
set_option maxHeartbeats 4000000 in
theorem mayEvG_any (r i s t k n : Int) (x : ByteArray) (pa : Option Addr) (pl : List ByteArray) (pc : Nat) (da : Option Addr) (ds : List Dt) (dc : Nat) (w : World) (hp : Strs w pa pc pl) (hv : Vec w da dc ds) :
    Calls Tryz.prog 104 #[.agg (evcells r i s t k pa pl.length pc n x da ds.length dc)] w (IsTo w (EvP ((r, i), s) t k n x pl ds)) := by
  have Hp := Lib.hid hp
  have Hv := Lib.hid hv
  clear hp hv
  go_enter Tryz.func104, Tryz.ntmps104
  go_wp2_with fail
  refine (may_any r i s _).mono ?_
  rintro e w1 ⟨rfl, hb1⟩
  have E : Hid (BoxE 146 w w1 (evcells r i s t k pa pl.length pc n x da ds.length dc)) := Lib.hid (BoxE.of hb1)
  have d0 := cells_at E.out.blk
  simp only [evcells] at d0
  clear hb1
  cases hm : may ((r, i), s) with
  | false =>
    have Hn := Lib.hid (show ¬ EvP ((r, i), s) t k n x pl ds from fun h => by have := h.dot; rw [hm] at this; cases this)
    go_wp2_with fail
    all_goals (go_ret; exact no_name Hn.out E.out.bel)
  | true =>
    have Hm := Lib.hid hm
    by_cases h1 : 1 ≤ t
    · by_cases h2 : t ≤ 1099511627776
      · have H1 := Lib.hid h1
        have H2 := Lib.hid h2
        go_wp2_with fail
        refine (mayOpG_any k n x pa pl pc da ds dc _ (Hp.out.below E.out.bel) (Hv.out.below E.out.bel)).mono ?_
        intro e w2 hto
        obtain ⟨z, rfl, hz, hb⟩ := hto
        have HB := Lib.hid (E.out.step hb).bel
        have Hz := Lib.hid (show z = true ↔ EvP ((r, i), s) t k n x pl ds from hz.trans ⟨fun h => ⟨Hm.out, H1.out, H2.out, h⟩, fun h => h.op⟩)
        clear hz hb d0
        go_wp2_with fail
        all_goals (go_ret; exact ⟨z, rfl, Hz.out, HB.out⟩)
      · have Hn := Lib.hid (show ¬ EvP ((r, i), s) t k n x pl ds from fun h => h2 h.t2)
        have e2 : decide (t ≤ 1099511627776) = false := by simpa using h2
        go_wp2_with fail
        all_goals (go_ret; exact no_name Hn.out E.out.bel)
    · have Hn := Lib.hid (show ¬ EvP ((r, i), s) t k n x pl ds from fun h => h1 h.t1)
      have e1 : decide (1 ≤ t) = false := by simpa using h1
      go_wp2_with fail
      all_goals (go_ret; exact no_name Hn.out E.out.bel)
theorem event_any (r i s : Int) (qa : Option Addr) (qn qc : Nat) (va : Option Addr) (vn vc : Nat) (t k : Int) (pa : Option Addr) (pn pc : Nat) (n : Int) (x : ByteArray) (da : Option Addr) (dn dc : Nat) (w : World) :
    Calls Tryz.prog 105 #[.agg (ccells r i s qa qn qc va vn vc t k pa pn pc n x da dn dc)] w fun e w' => e = .returned (.agg (evcells r i s t k pa pn pc n x da dn dc)) ∧ Below w.heap.size w w' := by
  go_enter Tryz.func105, Tryz.ntmps105
  go_wp2_with fail
  exact bodyPost_ret (v := .agg (evcells r i s t k pa pn pc n x da dn dc)) (by simp [results, Tryz.results105, go_sem]) rfl ⟨rfl, ((Below.refl _ _).alloc (Nat.le_refl _) _).alloc (by simp) _⟩
theorem ev_cm {d : Dt} {ps vv : List Dt} {t k n : Int} {x : ByteArray} {p : List ByteArray} {ds : List Dt} (h : CmP ⟨d, ps, vv, t, ⟨k, n, x, p, ds⟩⟩) : EvP d t k n x p ds := ⟨h.dot, h.t1, h.t2, h.op⟩
set_option maxRecDepth 100000 in
set_option maxHeartbeats 8000000 in
theorem mayC_any (v : Cw) (w : World) (h : CwAt w v) (hvl : v.c.vv.length ≤ 1100000) : Calls Tryz.prog 47 #[.agg (cwcells v)] w (IsTo w (CmP v.c)) := by
  obtain ⟨⟨⟨⟨r, i⟩, s⟩, ps, vv, t, ⟨k, n, x, p, ds⟩⟩, qa, qc, va, vc, pa, pc, da, dc⟩ := v
  have H := Lib.hid h
  have hA : okA (r, i) := h.ok.d.1
  have ov : okV vv := h.ok.vv
  have op : okV ps := h.ok.ps
  have od : okV ds := h.ok.ds
  dsimp only at hvl
  clear h
  simp only [cwcells]
  go_enter Tryz.func47, Tryz.ntmps47
  go_wp2_with fail
  refine region_text [([0, 1, 2, 3, 4, 5, 7, 8], false), ([6], true), ([9, 10, 11, 12, 13, 14, 15, 16, 18, 19, 20], false), ([17], true), ([21, 22, 23, 24, 25, 26, 27, 28, 29, 30, 31, 32, 33, 34, 35, 36, 37, 38, 39, 40, 41, 42], false)] mixed (by kernel_rfl) ?_
  simp only [wpSegs, List.map_cons, List.map_nil, List.getD_cons_succ, List.getD_cons_zero]
  go_wp2_with fail
  refine (event_any r i s qa ps.length qc va vv.length vc t k pa p.length pc n x da ds.length dc _).mono ?_
  rintro e w1 ⟨rfl, hb1⟩
  have E : Hid (CmE w w1 (ccells r i s qa ps.length qc va vv.length vc t k pa p.length pc n x da ds.length dc)) := Lib.hid (CmE.of (((Below.refl _ _).drew).trans hb1))
  have d0 := cells_at E.out.blk
  simp only [ccells] at d0
  clear hb1
  go_wp2_with fail
  refine (mayEvG_any r i s t k n x pa p pc da ds dc _ (H.out.pt.below E.out.bel) (H.out.ds.below E.out.bel)).mono ?_
  intro e w2 hto
  obtain ⟨z, rfl, hz, hb⟩ := hto
  replace E := Lib.hid (E.out.step hb)
  have Hz := Lib.hid hz
  clear hb hz d0
  have d0 := cells_at E.out.blk
  simp only [ccells] at d0
  cases z with
  | false =>
    have Hn := Lib.hid (show ¬ CmP ⟨((r, i), s), ps, vv, t, ⟨k, n, x, p, ds⟩⟩ from fun h => by have := Hz.out.2 (ev_cm h); cases this)
    go_wp2_with fail
    refine And.intro (Agree.refl _) ?_
    go_wp2_with fail
    refine And.intro (Agree.refl _) ?_
    go_wp2_with fail
    refine And.intro (by kernel_rfl) ?_
    go_wp2_with fail
    all_goals (go_ret; exact no_name Hn.out E.out.bel)
  | true =>
    have Hev := Lib.hid (Hz.out.1 (by simp))
    clear Hz
    go_wp2_with fail
    refine (canon_any va vc vv _ (H.out.vv.below E.out.bel) ov hvl).mono ?_
    rintro e w3 ⟨a1, c1, rfl, hown, hb⟩
    have Hb := Lib.hid hb
    replace E := Lib.hid (E.out.step hb)
    have Hown := Lib.hid (vec_of hown)
    have hlc : (canonV vv).length ≤ 64 := vecOf_length _
    have Hlc := Lib.hid hlc
    clear hown hb d0 hlc
    have d0 := cells_at E.out.blk
    simp only [ccells] at d0
    go_wp2_with fail
    refine And.intro (Agree.of_below Hb.out) ?_
    go_wp2_with fail
    refine (equalV_any a1 va c1 vc (canonV vv) vv _ Hown.out (H.out.vv.below E.out.bel) (by have := Hlc.out; omega) hvl).mono ?_
    rintro e w4 ⟨z, rfl, hz, hb⟩
    replace E := Lib.hid (E.out.step hb)
    have Hz := Lib.hid hz
    clear hb hz d0 Hown
    have d0 := cells_at E.out.blk
    simp only [ccells] at d0
    cases z with
    | false =>
      have Hn := Lib.hid (show ¬ CmP ⟨((r, i), s), ps, vv, t, ⟨k, n, x, p, ds⟩⟩ from fun h => by have := Hz.out.2 h.canon; cases this)
      go_wp2_with fail
      refine And.intro (Agree.refl _) ?_
      go_wp2_with fail
      refine And.intro (by kernel_rfl) ?_
      go_wp2_with fail
      all_goals (go_ret; exact no_name Hn.out E.out.bel)
    | true =>
      have Hcan := Lib.hid (Hz.out.1 (by simp))
      clear Hz
      go_wp2_with fail
      refine (get_any va vc vv r i _ (H.out.vv.below E.out.bel) ov hvl hA).mono ?_
      rintro e w5 ⟨rfl, hb⟩
      have Hb := Lib.hid hb
      replace E := Lib.hid (E.out.step hb)
      clear hb d0
      have d0 := cells_at E.out.blk
      simp only [ccells] at d0
      go_wp2_with fail
      refine And.intro (Agree.of_below Hb.out) ?_
      cases hg : (getN vv (r, i) == s) with
      | false =>
        have Hn := Lib.hid (show ¬ CmP ⟨((r, i), s), ps, vv, t, ⟨k, n, x, p, ds⟩⟩ from fun h => by have := h.own; simp at hg; exact hg this)
        go_wp2_with fail
        refine And.intro (by kernel_rfl) ?_
        go_wp2_with fail
        all_goals (go_ret; exact no_name Hn.out E.out.bel)
      | true =>
        have Hg := Lib.hid (show getN vv (r, i) = s by simpa using hg)
        by_cases hl : ps.length ≤ 64
        · have Hl := Lib.hid hl
          have e64 : decide ((ps.length : Int) ≤ 64) = true := by simp; omega
          go_wp2_with fail
          refine (rising_any qa qc ps r i s qa ps.length qc va vv vc t k pa p.length pc n x da ds.length dc _ (H.out.ps.below E.out.bel) (H.out.vv.below E.out.bel) op ov (by omega) hvl).mono ?_
          intro e w6 hto
          obtain ⟨z, rfl, hz, hb⟩ := hto
          replace E := Lib.hid (E.out.step hb)
          have Hz := Lib.hid hz
          clear hb hz d0
          have d0 := cells_at E.out.blk
          simp only [ccells] at d0
          cases z with
          | false =>
            have Hn := Lib.hid (show ¬ CmP ⟨((r, i), s), ps, vv, t, ⟨k, n, x, p, ds⟩⟩ from fun h => by have := Hz.out.2 h.ps; cases this)
            go_wp2_with fail
            refine And.intro (by kernel_rfl) ?_
            go_wp2_with fail
            all_goals (go_ret; exact no_name Hn.out E.out.bel)
          | true =>
            have Hps := Lib.hid (Hz.out.1 (by simp))
            clear Hz
            go_wp2_with fail
            refine (rising_any da dc ds r i s qa ps.length qc va vv vc t k pa p.length pc n x da ds.length dc _ (H.out.ds.below E.out.bel) (H.out.vv.below E.out.bel) od ov (by have := Hev.out.op.few; omega) hvl).mono ?_
            intro e w7 hto
            obtain ⟨z, rfl, hz, hb⟩ := hto
            replace E := Lib.hid (E.out.step hb)
            have Hz := Lib.hid (show z = true ↔ CmP ⟨((r, i), s), ps, vv, t, ⟨k, n, x, p, ds⟩⟩ from hz.trans ⟨fun h => ⟨Hev.out.dot, Hev.out.t1, Hev.out.t2, Hev.out.op, Hcan.out, Hg.out, Hl.out, Hps.out, h⟩, fun h => h.ds⟩)
            clear hb hz d0
            go_wp2_with fail
            refine And.intro (by kernel_rfl) ?_
            go_wp2_with fail
            all_goals (go_ret; exact ⟨z, rfl, Hz.out, E.out.bel⟩)
        · have Hn := Lib.hid (show ¬ CmP ⟨((r, i), s), ps, vv, t, ⟨k, n, x, p, ds⟩⟩ from fun h => hl h.few)
          have e64 : decide ((ps.length : Int) ≤ 64) = false := by simp; omega
          go_wp2_with fail
          refine And.intro (by kernel_rfl) ?_
          go_wp2_with fail
          all_goals (go_ret; exact no_name Hn.out E.out.bel)
end Go.Proofs.YtaandcblndldmaaGreat
