/- varveref04: IsName, MayPath, Type, May, MayEvent: contracts, as far as they are asked. | Events in memory; varveref04.MayEvent; varveref05.New. -/
import Derived.Test.YtmabjghjkgicgaaLfOpen
import Derived.Test.YtmabjghjkgicgaaThreeP
/- EvA -/
namespace Go.Proofs.Ytmabjghjkgicgaa
open Go.RowKit
set_option linter.unusedVariables false
set_option linter.unusedSimpArgs false

/-- some Boolean -/
def BoolTo (w : World) (P : Prop) (e : Ending) (w' : World) : Prop := ∃ q : Bool, e = .returned (.bool q) ∧ (q = true → P) ∧ Below w.heap.size w w'
def JIs (n : Nat) (w : World) (j : Value) (wr : World) : Prop := ∃ q : Nat, q ≤ n ∧ j = .int .i64 q ∧ wr = w
set_option maxHeartbeats 2000000 in
theorem isName_any (s : ByteArray) (w : World) : Calls Try.prog 105 #[.string s] w (BoolTo w True) := by
  go_enter Try.func105, Try.ntmps105
  by_cases h1 : s.size < 1
  · go_wp2_with fail
    all_goals (go_ret; exact ⟨_, rfl, fun _ => trivial, Below.refl _ _⟩)
  · by_cases h2 : 12 < s.size
    · go_wp2_with fail
      all_goals (go_ret; exact ⟨_, rfl, fun _ => trivial, Below.refl _ _⟩)
    · go_wp2_with fail
      go_loopw [3] (fun j wr => JIs s.size w j wr) (fun j _ => s.size - (intOf j).toNat)
      case atStart => exact ⟨0, Nat.zero_le _, rfl, rfl⟩
      case round =>
        obtain ⟨q, hq, rfl, rfl⟩ := hrel
        by_cases hlt : q < s.size
        · go_wp2_with fail
          all_goals first
            | (go_ret; exact ⟨_, rfl, fun _ => trivial, Below.refl _ _⟩)
            | exact ⟨⟨q + 1, by omega, by go_num, rfl⟩, by simp [intOf]; omega⟩
        · go_wp2_with fail
          all_goals (go_ret; exact ⟨_, rfl, fun _ => trivial, Below.refl _ _⟩)
/-- names in memory -/
def scells (l : List ByteArray) : List Value := l.map Value.string
def Strs (w : World) (a : Option Addr) (c : Nat) (l : List ByteArray) : Prop := Sl w 1 a l.length c (scells l)
theorem Strs.below {w w' : World} {a : Option Addr} {c : Nat} {l : List ByteArray} (h : Strs w a c l) (hb : Below w.heap.size w w') : Strs w' a c l := Sl.below h hb
theorem Strs.at {w : World} {a : Option Addr} {c : Nat} {l : List ByteArray} (h : Strs w a c l) {k : Nat} {x : ByteArray} (hx : l[k]? = some x) :
    ∃ ad, a = some ad ∧ w.cell? (ad.add k) = some (.string x) ∧ ad.block < w.heap.size := by
  have hk : k < l.length := (List.getElem?_eq_some_iff.1 hx).1
  obtain ⟨_, _, _, ⟨_, h0, _⟩ | ⟨ad, rfl, hc⟩⟩ := h
  · omega
  · have g0 := hc k (.string x) (by simp [scells, hx])
    refine ⟨ad, rfl, g0, ?_⟩
    have := World.block_lt_of_cell? w _ g0
    have hb : (ad.add k).block = ad.block := by unfold Addr.add; split <;> rfl
    rwa [hb] at this
def JBel (n : Nat) (w : World) (j : Value) (wr : World) : Prop := ∃ q : Nat, q ≤ n ∧ j = .int .i64 q ∧ Below w.heap.size w wr
set_option maxHeartbeats 2000000 in
theorem mayPath_any (a : Option Addr) (c : Nat) (l : List ByteArray) (w : World) (h : Strs w a c l) : Calls Try.prog 72 #[.slice a l.length c] w (BoolTo w True) := by
  have H := Lib.hid h
  have hcap : l.length ≤ c := h.2.1
  have hcm : c ≤ maxLen := h.2.2.1
  unfold maxLen at hcm
  clear h
  go_enter Try.func72, Try.ntmps72
  go_wp2_with fail
  go_loopw [3] (fun j wr => JBel l.length w j wr) (fun j _ => l.length - (intOf j).toNat)
  case atStart => exact ⟨0, Nat.zero_le _, rfl, Below.refl _ _⟩
  case round =>
    obtain ⟨q, hq, rfl, hB⟩ := hrel
    have HB := Lib.hid hB
    clear hB
    by_cases hlt : q < l.length
    · obtain ⟨x, hx⟩ : ∃ x, l[q]? = some x := ⟨l[q], by simp [hlt]⟩
      obtain ⟨ad, had, c0, hl0⟩ := (H.out.below HB.out).at hx
      subst had
      clear hx
      go_wp2_with fail
      refine (isName_any x _).mono ?_
      intro e w1 hto
      obtain ⟨z, rfl, _, hb⟩ := hto
      have HB1 := Lib.hid (below2 HB.out hb HB.out.size)
      clear hb
      cases z with
      | true =>
        go_wp2_with fail
        go_roundw
        case rel => exact ⟨q + 1, by omega, by go_num, HB1.out⟩
        case measure => simp [intOf]; omega
      | false =>
        go_wp2_with fail
        go_ret
        exact ⟨_, rfl, fun _ => trivial, HB1.out⟩
    · go_wp2_with fail
      all_goals (go_ret; exact ⟨_, rfl, fun _ => trivial, HB.out⟩)
theorem type_any (k : Int) (w : World) : Calls Try.prog 47 #[.int .u8 k] w fun e w' => e = .returned (.int .u8 (typeOf k)) ∧ Below w.heap.size w w' := by
  by_cases h1 : k = 1
  · subst h1
    go_enter Try.func47, Try.ntmps47
    go_wp2_with fail
    go_ret
    exact ⟨rfl, Below.refl _ _⟩
  by_cases h2 : k = 2
  · subst h2
    go_enter Try.func47, Try.ntmps47
    go_wp2_with fail
    go_ret
    exact ⟨rfl, Below.refl _ _⟩
  by_cases h3 : k = 3
  · subst h3
    go_enter Try.func47, Try.ntmps47
    go_wp2_with fail
    go_ret
    exact ⟨rfl, Below.refl _ _⟩
  by_cases h4 : k = 4
  · subst h4
    go_enter Try.func47, Try.ntmps47
    go_wp2_with fail
    go_ret
    exact ⟨rfl, Below.refl _ _⟩
  by_cases h5 : k = 5
  · subst h5
    go_enter Try.func47, Try.ntmps47
    go_wp2_with fail
    go_ret
    exact ⟨rfl, Below.refl _ _⟩
  have e1 : (k == 1) = false := by simpa using h1
  have e2 : (k == 2) = false := by simpa using h2
  have e3 : (k == 3) = false := by simpa using h3
  have e4 : (k == 4) = false := by simpa using h4
  have e5 : (k == 5) = false := by simpa using h5
  have He := Lib.hid (show typeOf k = 0 by simp [typeOf, h1, h2, h3, h4, h5])
  clear h1 h2 h3 h4 h5
  go_enter Try.func47, Try.ntmps47
  go_wp2_with fail
  go_ret
  exact ⟨by rw [He.out]; rfl, Below.refl _ _⟩
/-- what is asked of an operation -/
def OpOk (k : Int) (x : ByteArray) (ds : List Dt) : Prop := typeOf k ≠ 0 ∧ x.size ≤ 40 ∧ ∀ d ∈ ds, may d = true
/-- an operation's cells -/
def ocells (k n : Int) (x : ByteArray) (pa : Option Addr) (pn pc : Nat) (da : Option Addr) (dn dc : Nat) : Array Value := #[.int .u8 k, .slice pa pn pc, .int .i64 n, .string x, .slice da dn dc]
structure OpE (w wr : World) (C : Array Value) : Prop where
  blk : wr.heap[w.heap.size]? = some (.cells C 35 (0, 0))
  bel : Below w.heap.size w wr
theorem OpE.of {w wr : World} {C : Array Value} (hb : Below (w.alloc (.cells C 35)).heap.size (w.alloc (.cells C 35)) wr) : OpE w wr C := ⟨(new1 hb).1, (new1 hb).2.2⟩
theorem OpE.step {w wr w' : World} {C : Array Value} (h : OpE w wr C) (hb : Below wr.heap.size wr w') : OpE w w' C := ⟨(hb.block _ (heap_lt h.blk)).trans h.blk, below2 h.bel hb h.bel.size⟩
def JOp (n : Nat) (w : World) (C : Array Value) (ds : List Dt) (j : Value) (wr : World) : Prop := ∃ q : Nat, q ≤ n ∧ j = .int .i64 q ∧ OpE w wr C ∧ ∀ d ∈ ds.take q, may d = true
set_option maxRecDepth 100000 in
set_option maxHeartbeats 4000000 in
theorem mayOp_any (k n : Int) (x : ByteArray) (pa : Option Addr) (pl : List ByteArray) (pc : Nat) (da : Option Addr) (ds : List Dt) (dc : Nat) (w : World) (hp : Strs w pa pc pl) (hv : Vec w da dc ds) :
    Calls Try.prog 37 #[.agg #[.int .u8 k, .slice pa pl.length pc, .int .i64 n, .string x, .slice da ds.length dc]] w (BoolTo w (OpOk k x ds)) := by
  have Hp := Lib.hid hp
  have Hv := Lib.hid hv
  clear hp hv
  go_enter Try.func37, Try.ntmps37
  go_wp2_with fail
  refine (type_any k _).mono ?_
  rintro e w1 ⟨rfl, hb1⟩
  have E : Hid (OpE w w1 (ocells k n x pa pl.length pc da ds.length dc)) := Lib.hid (OpE.of hb1)
  have d0 := cells_at E.out.blk
  simp only [ocells] at d0
  clear hb1
  by_cases ht : typeOf k = 0
  · rw [ht]
    go_wp2_with fail
    go_ret
    exact ⟨_, rfl, fun h => (by cases h), E.out.bel⟩
  · have e0 : (typeOf k == 0) = false := by simpa using ht
    have Ht := Lib.hid ht
    clear ht
    go_wp2_with fail
    refine (mayPath_any pa pc pl _ (Hp.out.below E.out.bel)).mono ?_
    intro e w2 hto
    obtain ⟨z, rfl, _, hb⟩ := hto
    replace E := Lib.hid (E.out.step hb)
    clear hb d0
    have d0 := cells_at E.out.blk
    simp only [ocells] at d0
    cases z with
    | false =>
      go_wp2_with fail
      go_ret
      exact ⟨_, rfl, fun h => (by cases h), E.out.bel⟩
    | true =>
      by_cases hx : 40 < x.size
      · go_wp2_with fail
        all_goals (go_ret; exact ⟨_, rfl, fun h => (by cases h), E.out.bel⟩)
      · by_cases hd : 64 < ds.length
        · go_wp2_with fail
          all_goals (go_ret; exact ⟨_, rfl, fun h => (by cases h), E.out.bel⟩)
        · have Hsz := Lib.hid (show x.size ≤ 40 by omega)
          by_cases hk1 : k = 1
          · subst hk1
            go_wp2_with fail
            all_goals
              go_ret
              refine ⟨_, rfl, fun h => ?_, E.out.bel⟩
              first
                | (cases h; done)
                | (have hz : ds = [] := List.length_eq_zero_iff.1 (by simpa using h)
                   exact ⟨Ht.out, Hsz.out, fun d hd => by rw [hz] at hd; cases hd⟩)
          · have e1 : (k == 1) = false := by simpa using hk1
            by_cases hn : n = 0
            · subst hn
              by_cases h4 : k = 4
              · subst h4
                go_wp2_with fail
                go_loopw [3] (fun j wr => JOp ds.length w (ocells 4 0 x pa pl.length pc da ds.length dc) ds j wr) (fun j _ => ds.length - (intOf j).toNat)
                case atStart => exact ⟨0, Nat.zero_le _, rfl, E.out, by simp⟩
                case round =>
                  clear E d0
                  obtain ⟨q, hq, rfl, hE, hall⟩ := hrel
                  have Hall := Lib.hid hall
                  have E := Lib.hid hE
                  have d0 := cells_at E.out.blk
                  simp only [ocells] at d0
                  clear hE hall
                  by_cases hlt : q < ds.length
                  · obtain ⟨⟨⟨r, i⟩, s⟩, hx2⟩ : ∃ x, ds[q]? = some x := ⟨ds[q], by simp [hlt]⟩
                    obtain ⟨ad, had, c0, c1, c2, hl0⟩ := (Hv.out.below E.out.bel).at hx2
                    subst had
                    dsimp only at c0 c1 c2
                    have Hx := Lib.hid hx2
                    clear hx2
                    go_wp2_with fail
                    refine region_text [([0, 1, 2, 3, 4, 5, 6, 7, 8, 9, 10, 11, 12, 13, 14, 15, 16, 17, 18, 19, 20, 21, 22, 23, 24, 25], false)] mixed (by kernel_rfl) ?_
                    simp only [wpSegs, List.map_cons, List.map_nil, List.getD_cons_succ, List.getD_cons_zero]
                    go_wp2_with fail
                    refine (rmay_any r i s _).mono ?_
                    rintro e w3 ⟨rfl, hb1⟩
                    have hb := ((Below.refl _ _).drew).trans hb1
                    replace E := Lib.hid (E.out.step hb)
                    have hzs := hb.size
                    have hl1 : ad.block < w3.heap.size := by omega
                    clear hb1 hb c0 c1 c2 d0
                    obtain ⟨ad', had, c0, c1, c2, hl0'⟩ := (Hv.out.below E.out.bel).at Hx.out
                    cases had
                    dsimp only at c0 c1 c2
                    have d0 := cells_at E.out.blk
                    simp only [ocells] at d0
                    cases hm' : may ((r, i), s) with
                    | false =>
                      clear hm'
                      go_wp2_with fail
                      refine And.intro (by kernel_rfl) ?_
                      go_wp2_with fail
                      go_ret
                      exact ⟨_, rfl, fun h => (by cases h), E.out.bel⟩
                    | true =>
                      have Hm := Lib.hid hm'
                      clear hm'
                      cases q with
                      | zero =>
                        go_wp2_with fail
                        refine And.intro (by kernel_rfl) ?_
                        go_wp2_with fail
                        go_roundw
                        case rel => exact ⟨1, by omega, by go_num, E.out, all_snoc Hx.out Hall.out Hm.out⟩
                        case measure => simp [intOf]; omega
                      | succ m =>
                        obtain ⟨⟨⟨r', i'⟩, s'⟩, hy⟩ : ∃ x, ds[m]? = some x := ⟨ds[m], by simp [show m < ds.length by omega]⟩
                        obtain ⟨ae, hae, p0, p1, p2, hl2⟩ := (Hv.out.below E.out.bel).at hy
                        cases hae
                        dsimp only at p0 p1 p2
                        clear hy
                        go_wp2_with fail
                        refine (rless_any r' i' s' r i s _).mono ?_
                        rintro e w4 ⟨rfl, hb⟩
                        replace E := Lib.hid (E.out.step hb)
                        clear hb d0
                        cases ha : lessD ((r', i'), s') ((r, i), s) with
                        | false =>
                          clear ha
                          go_wp2_with fail
                          refine And.intro (by kernel_rfl) ?_
                          go_wp2_with fail
                          go_ret
                          exact ⟨_, rfl, fun h => (by cases h), E.out.bel⟩
                        | true =>
                          clear ha
                          go_wp2_with fail
                          refine And.intro (by kernel_rfl) ?_
                          go_wp2_with fail
                          go_roundw
                          case rel => exact ⟨m + 2, by omega, by go_num, E.out, all_snoc Hx.out Hall.out Hm.out⟩
                          case measure => simp [intOf]; omega
                  · have hall := Hall.out
                    rw [List.take_of_length_le (by omega)] at hall
                    have HA := Lib.hid hall
                    clear hall
                    go_wp2_with fail
                    go_ret
                    exact ⟨_, rfl, fun _ => ⟨Ht.out, Hsz.out, HA.out⟩, E.out.bel⟩
              · have e4 : (k == 4) = false := by simpa using h4
                have e5 : (k != 4) = true := by simpa using h4
                by_cases h0 : ds.length = 0
                · obtain rfl : ds = [] := List.length_eq_zero_iff.1 h0
                  clear h0 hd
                  simp only [List.length_nil] at d0
                  go_wp2_with fail
                  go_loopw [3] (fun j wr => j = .int .i64 0 ∧ wr = w2) (fun _ _ => 0)
                  case atStart => exact ⟨rfl, rfl⟩
                  case round =>
                    obtain ⟨rfl, rfl⟩ := hrel
                    go_wp2_with fail
                    go_ret
                    exact ⟨_, rfl, fun _ => ⟨Ht.out, Hsz.out, fun d hd => by cases hd⟩, E.out.bel⟩
                · have e6 : decide (0 < (ds.length : Int)) = true := by simp; omega
                  go_wp2_with fail
                  all_goals (go_ret; exact ⟨_, rfl, fun h => (by cases h), E.out.bel⟩)
            · have e2 : (n != 0) = true := by simpa using hn
              go_wp2_with fail
              all_goals (go_ret; exact ⟨_, rfl, fun h => (by cases h), E.out.bel⟩)
end Go.Proofs.Ytmabjghjkgicgaa

/- EvB -/
namespace Go.Proofs.Ytmabjghjkgicgaa
open Go.RowKit Go.ChangeShapes Go.WideShapes
set_option linter.unusedVariables false
set_option linter.unusedSimpArgs false

/-- an event, and where its path and its dots lie -/
structure Ew where
  e : Ev
  pa : Option Addr
  pl : List ByteArray
  pc : Nat
  da : Option Addr
  dc : Nat
def ecells (v : Ew) : Array Value := #[.int .u8 v.e.d.1.1, .int .u32 v.e.d.1.2, .int .u64 v.e.d.2, .int .u64 v.e.t, .int .u8 v.e.k, .slice v.pa v.pl.length v.pc, .int .i64 v.e.n, .string v.e.x, .slice v.da v.e.ds.length v.dc]
structure EwAt (w : World) (v : Ew) : Prop where
  pt : Strs w v.pa v.pc v.pl
  ds : Vec w v.da v.dc v.e.ds
  ok : okE v.e
theorem EwAt.below {w w' : World} {v : Ew} (h : EwAt w v) (hb : Below w.heap.size w w') : EwAt w' v := ⟨h.pt.below hb, h.ds.below hb, h.ok⟩
def EvBlk (w : World) (p : Nat) (v : Ew) : Prop := w.heap[p]? = some (.cells (ecells v) 37 (0, 0))
theorem EvBlk.below {w w' : World} {p : Nat} {v : Ew} (h : EvBlk w p v) (hb : Below w.heap.size w w') : EvBlk w' p v := (hb.block _ (heap_lt h)).trans h
set_option maxRecDepth 100000 in
set_option maxHeartbeats 4000000 in
theorem mayEvent_any (v : Ew) (w : World) (h : EwAt w v) :
    Calls Try.prog 46 #[.agg #[.int .u8 v.e.d.1.1, .int .u32 v.e.d.1.2, .int .u64 v.e.d.2, .int .u64 v.e.t, .int .u8 v.e.k, .slice v.pa v.pl.length v.pc, .int .i64 v.e.n, .string v.e.x, .slice v.da v.e.ds.length v.dc]] w (BoolTo w (MayEv v.e)) := by
  have H := Lib.hid h
  clear h
  go_enter Try.func46, Try.ntmps46
  go_wp2_with fail
  refine (rmay_any v.e.d.1.1 v.e.d.1.2 v.e.d.2 _).mono ?_
  rintro e w1 ⟨rfl, hb1⟩
  have hx0 : EvBlk w1 w.heap.size v := (new1 hb1).1
  have HX := Lib.hid hx0
  have HB := Lib.hid (new1 hb1).2.2
  have d0 := cells_at hx0
  simp only [ecells] at d0
  clear hb1 hx0
  cases hm : may ((v.e.d.1.1, v.e.d.1.2), v.e.d.2) with
  | false =>
    clear hm
    go_wp2_with fail
    go_ret
    exact ⟨_, rfl, fun h => (by cases h), HB.out⟩
  | true =>
    have Hm := Lib.hid (show may v.e.d = true from hm)
    clear hm
    by_cases h1 : 1 ≤ v.e.t
    · by_cases h2 : v.e.t ≤ 1099511627776
      · go_wp2_with fail
        refine (mayOp_any v.e.k v.e.n v.e.x v.pa v.pl v.pc v.da v.e.ds v.dc _ (H.out.below HB.out).pt (H.out.below HB.out).ds).mono ?_
        intro e w2 hto
        obtain ⟨z, rfl, hz, hb⟩ := hto
        have HB2 := Lib.hid (below2 HB.out hb HB.out.size)
        have Hz := Lib.hid hz
        clear hz hb
        go_wp2_with fail
        go_ret
        exact ⟨_, rfl, fun h => ⟨Hm.out, h1, h2, (Hz.out h).1, (Hz.out h).2.1, (Hz.out h).2.2⟩, HB2.out⟩
      · have e2 : decide (v.e.t ≤ 1099511627776) = false := by simpa using h2
        go_wp2_with fail
        all_goals (go_ret; exact ⟨_, rfl, fun h => (by first | (cases h; done) | (simp at h; done) | (simp at h; omega)), HB.out⟩)
    · have e1 : decide (1 ≤ v.e.t) = false := by simpa using h1
      go_wp2_with fail
      all_goals (go_ret; exact ⟨_, rfl, fun h => (by first | (cases h; done) | (simp at h; done) | (simp at h; omega)), HB.out⟩)
/-- what New tells of a type -/
theorem newLf_any (k : Int) (w : World) : Calls Try.prog 22 #[.int .u8 k] w fun e w' => e = .returned (.agg #[.int .u8 (if 1 ≤ k ∧ k ≤ 4 then k else 0), .int .i64 0, .int .u64 0, .int .u8 0, .int .u32 0, .int .u64 0, .string ⟨#[]⟩, .slice none 0 0, .slice none 0 0]) ∧ Below w.heap.size w w' := by
  by_cases h1 : 1 ≤ k
  · by_cases h2 : k ≤ 4
    · rw [if_pos ⟨h1, h2⟩]
      go_enter Try.func22, Try.ntmps22
      go_wp2_with fail
      refine bodyPost_ret (v := .agg #[.int .u8 k, .int .i64 0, .int .u64 0, .int .u8 0, .int .u32 0, .int .u64 0, .string ⟨#[]⟩, .slice none 0 0, .slice none 0 0]) (by simp [results, Try.results22, go_sem]) rfl ⟨rfl, (Below.refl _ _).alloc (Nat.le_refl _) _⟩
    · rw [if_neg (fun h => h2 h.2)]
      have e2 : decide (k ≤ 4) = false := by simpa using h2
      go_enter Try.func22, Try.ntmps22
      go_wp2_with fail
      all_goals exact bodyPost_ret (v := .agg #[.int .u8 0, .int .i64 0, .int .u64 0, .int .u8 0, .int .u32 0, .int .u64 0, .string ⟨#[]⟩, .slice none 0 0, .slice none 0 0]) (by simp [results, Try.results22, go_sem]) rfl ⟨rfl, (Below.refl _ _).alloc (Nat.le_refl _) _⟩
  · rw [if_neg (fun h => h1 h.1)]
    have e1 : decide (1 ≤ k) = false := by simpa using h1
    go_enter Try.func22, Try.ntmps22
    go_wp2_with fail
    all_goals exact bodyPost_ret (v := .agg #[.int .u8 0, .int .i64 0, .int .u64 0, .int .u8 0, .int .u32 0, .int .u64 0, .string ⟨#[]⟩, .slice none 0 0, .slice none 0 0]) (by simp [results, Try.results22, go_sem]) rfl ⟨rfl, (Below.refl _ _).alloc (Nat.le_refl _) _⟩
theorem strs_flat (l : List ByteArray) : List.map Value.string l = l.flatMap (fun x => [Value.string x]) := by
  induction l with
  | nil => rfl
  | cons a l ih => simp only [List.map_cons, List.flatMap_cons, ih]; rfl
section
variable {H : Type} {enc : TypeId × Value → H} {w : World} {base : Nat} {spare : Nat → Bool} {held : Bool}
theorem rd_strs {n : Nat} {cs : List Value} {x : DataW H × List MemPlace} (h : DataW.trod enc Try.prog w base spare held n 32 cs = some x) :
    ∃ a c l, cs = [.slice a (List.length l) c] ∧ Strs w a c l := by
  obtain ⟨a, n, c, ys, h1, h2⟩ := trod_list (size := 1) (R := fun cs (x : ByteArray) => cs = [.string x]) Try.underlying32 (by kernel_rfl) (fun n cs x h => by
    obtain ⟨s, hs, _⟩ := DataW.trod_string Try.underlying9 h
    exact ⟨s, hs⟩) h
  obtain rfl : ys.length = n := h2.1
  refine ⟨a, c, ys, h1, ?_⟩
  have := h2.sl (fun x => [Value.string x]) (fun _ _ h => h)
  unfold Strs scells
  rw [strs_flat]
  exact this
theorem rd_event {n : Nat} {cs : List Value} {x : DataW H × List MemPlace} (h : DataW.trod enc Try.prog w base spare held n 37 cs = some x) :
    ∃ v : Ew, cs = (ecells v).toList ∧ EwAt w v := by
  obtain ⟨xs, m, _, _, hl, hxl, hf⟩ := DataW.trod_struct Try.underlying37 h
  have hc : Try.prog.cellsOf 37 = 9 := by kernel_rfl
  obtain ⟨c0, c1, c2, c3, c4, c5, c6, c7, c8, rfl⟩ := listN9 (hl.trans hc)
  have hxs : xs.length = 3 := hxl
  have e1 : Try.prog.cellsOf 29 = 1 := by kernel_rfl
  have e2 : Try.prog.cellsOf 31 = 3 := by kernel_rfl
  have e3 : Try.prog.cellsOf 35 = 5 := by kernel_rfl
  have h0 : DataW.trod enc Try.prog w base spare held m 31 ((List.drop 0 [c0, c1, c2, c3, c4, c5, c6, c7, c8]).take (Try.prog.cellsOf 31)) = xs[0]? := hf 0 _ rfl
  have h1 : DataW.trod enc Try.prog w base spare held m 29 ((List.drop 3 [c0, c1, c2, c3, c4, c5, c6, c7, c8]).take (Try.prog.cellsOf 29)) = xs[1]? := hf 1 _ rfl
  have h2 : DataW.trod enc Try.prog w base spare held m 35 ((List.drop 4 [c0, c1, c2, c3, c4, c5, c6, c7, c8]).take (Try.prog.cellsOf 35)) = xs[2]? := hf 2 _ rfl
  rw [List.getElem?_eq_getElem (by omega)] at h0 h1 h2
  simp only [e1, e2, e3, List.drop_zero, List.drop_succ_cons, List.take_succ_cons, List.take_zero] at h0 h1 h2
  obtain ⟨d, hd, okd⟩ := rd_dot h0
  obtain ⟨t, ht, _, w1⟩ := DataW.trod_int Try.underlying29 h1
  obtain ⟨ys, m2, _, _, hl2, hxl2, hf2⟩ := DataW.trod_struct Try.underlying35 h2
  have hys : ys.length = 5 := hxl2
  have a0 : Try.prog.cellsOf 5 = 1 := by kernel_rfl
  have a1 : Try.prog.cellsOf 32 = 1 := by kernel_rfl
  have a2 : Try.prog.cellsOf 2 = 1 := by kernel_rfl
  have a3 : Try.prog.cellsOf 9 = 1 := by kernel_rfl
  have a4 : Try.prog.cellsOf 33 = 1 := by kernel_rfl
  have k0 : DataW.trod enc Try.prog w base spare held m2 5 ((List.drop 0 [c4, c5, c6, c7, c8]).take (Try.prog.cellsOf 5)) = ys[0]? := hf2 0 _ rfl
  have k1 : DataW.trod enc Try.prog w base spare held m2 32 ((List.drop 1 [c4, c5, c6, c7, c8]).take (Try.prog.cellsOf 32)) = ys[1]? := hf2 1 _ rfl
  have k2 : DataW.trod enc Try.prog w base spare held m2 2 ((List.drop 2 [c4, c5, c6, c7, c8]).take (Try.prog.cellsOf 2)) = ys[2]? := hf2 2 _ rfl
  have k3 : DataW.trod enc Try.prog w base spare held m2 9 ((List.drop 3 [c4, c5, c6, c7, c8]).take (Try.prog.cellsOf 9)) = ys[3]? := hf2 3 _ rfl
  have k4 : DataW.trod enc Try.prog w base spare held m2 33 ((List.drop 4 [c4, c5, c6, c7, c8]).take (Try.prog.cellsOf 33)) = ys[4]? := hf2 4 _ rfl
  rw [List.getElem?_eq_getElem (by omega)] at k0 k1 k2 k3 k4
  simp only [a0, a1, a2, a3, a4, List.drop_zero, List.drop_succ_cons, List.take_succ_cons, List.take_zero] at k0 k1 k2 k3 k4
  obtain ⟨k, hk, _, _⟩ := DataW.trod_int Try.underlying5 k0
  obtain ⟨pa, pc, pl, hpl, hps⟩ := rd_strs k1
  obtain ⟨n, hn, _, _⟩ := DataW.trod_int Try.underlying2 k2
  obtain ⟨s, hs, _⟩ := DataW.trod_string Try.underlying9 k3
  obtain ⟨da, dc, ds, hds, hvec, okv⟩ := rd_vec Try.underlying33 k4
  simp only [dcell, List.cons.injEq, and_true] at hd ht hk hpl hn hs hds
  obtain ⟨rfl, rfl, rfl⟩ := hd
  subst ht hk hpl hn hs hds
  exact ⟨⟨⟨d, t, k, n, s, ds⟩, pa, pl, pc, da, dc⟩, rfl, hps, hvec, okd, (wf64 t).1 w1, okv⟩
/-- events in memory -/
def Evs (w : World) (a : Option Addr) (c : Nat) (ys : List Ew) : Prop := RdL w 9 (fun cs (v : Ew) => cs = (ecells v).toList ∧ EwAt w v) a ys.length c ys
structure EvAt (w : World) (b : Addr) (v : Ew) : Prop where
  c0 : w.cell? b = some (.int .u8 v.e.d.1.1)
  c1 : w.cell? ⟨b.block, b.off + 1, none⟩ = some (.int .u32 v.e.d.1.2)
  c2 : w.cell? ⟨b.block, b.off + 2, none⟩ = some (.int .u64 v.e.d.2)
  c3 : w.cell? ⟨b.block, b.off + 3, none⟩ = some (.int .u64 v.e.t)
  c4 : w.cell? ⟨b.block, b.off + 4, none⟩ = some (.int .u8 v.e.k)
  c5 : w.cell? ⟨b.block, b.off + 5, none⟩ = some (.slice v.pa v.pl.length v.pc)
  c6 : w.cell? ⟨b.block, b.off + 6, none⟩ = some (.int .i64 v.e.n)
  c7 : w.cell? ⟨b.block, b.off + 7, none⟩ = some (.string v.e.x)
  c8 : w.cell? ⟨b.block, b.off + 8, none⟩ = some (.slice v.da v.e.ds.length v.dc)
  at_ : EwAt w v
theorem Evs.at {w : World} {a : Option Addr} {c : Nat} {ys : List Ew} (h : Evs w a c ys) {k : Nat} {y : Ew} (hy : ys[k]? = some y) : ∃ ad, a = some ad ∧ EvAt w (ad.add (k * 9)) y ∧ ad.block < w.heap.size := by
  obtain ⟨_, _, _, _, h5⟩ := h
  obtain ⟨ad, cs, rfl, hl, hc, rfl, ok⟩ := h5 k y hy
  have g0 := hc 0 (by omega)
  have g1 := hc 1 (by omega)
  have g2 := hc 2 (by omega)
  have g3 := hc 3 (by omega)
  have g4 := hc 4 (by omega)
  have g5 := hc 5 (by omega)
  have g6 := hc 6 (by omega)
  have g7 := hc 7 (by omega)
  have g8 := hc 8 (by omega)
  rw [Nat.add_zero] at g0
  rw [← Go.Deep.add_add] at g1 g2 g3 g4 g5 g6 g7 g8
  refine ⟨ad, rfl, ⟨g0, g1, g2, g3, g4, g5, g6, g7, g8, ok⟩, ?_⟩
  have := World.block_lt_of_cell? w _ g0
  have hb : (ad.add (k * 9)).block = ad.block := by unfold Addr.add; split <;> rfl
  rwa [hb] at this
theorem Evs.below {w w' : World} {a : Option Addr} {c : Nat} {ys : List Ew} (h : Evs w a c ys) (hb : Below w.heap.size w w') : Evs w' a c ys := by
  obtain ⟨h1, h2, h3, h4, h5⟩ := h
  refine ⟨h1, h2, h3, h4, fun i y hy => ?_⟩
  obtain ⟨ad, cs, h6, h7, h8, rfl, ok⟩ := h5 i y hy
  refine ⟨ad, _, h6, h7, fun j hj => ?_, rfl, ok.below hb⟩
  have := h8 j hj
  rw [← this]
  refine hb.cell ?_
  have hj4 : (ecells y).toList[j]? = some ((ecells y).toList[j]'(by simpa [ecells] using hj)) := by simp
  exact World.block_lt_of_cell? w _ (this.trans hj4)
theorem Evs.len {w : World} {a : Option Addr} {c : Nat} {ys : List Ew} (h : Evs w a c ys) : ys.length ≤ maxLen := Nat.le_trans h.2.1 h.2.2.1
theorem rd_events {n : Nat} {cs : List Value} {x : DataW H × List MemPlace} (h : DataW.trod enc Try.prog w base spare held n 22 cs = some x) :
    ∃ a c ys, cs = [.slice a (List.length ys) c] ∧ Evs w a c ys := by
  obtain ⟨a, n, c, ys, h1, h2⟩ := trod_list (R := fun cs (v : Ew) => cs = (ecells v).toList ∧ EwAt w v) Try.underlying22 (by kernel_rfl) (fun n cs x h => rd_event h) h
  obtain rfl : ys.length = n := h2.1
  exact ⟨a, c, ys, h1, h2⟩
end
end Go.Proofs.Ytmabjghjkgicgaa
