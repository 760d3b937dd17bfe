/- slices.Concat of digests; maps keyed by blocks: the contracts. (printed by wip/tools/gendigd.py) | digest.May (of digests that may be), blocks: the contracts. (printed by wip/tools/gendige.py) | digest.blocks, Unlike (where nothing is unlike): the contracts. (printed by wip/tools/gendigf.py) | digest.Unlike, where nothing is unlike: the contract. (printed by wip/tools/gendigg.py) | digest.Apart: the contract. (printed by wip/tools/gendigh.py) -/
import Derived.Test.YtaandcblndldmaaGreatDigB
import Derived.Test.YtaandcblndldmaaGreatBatC
import Derived.Test.YtaandcblndldmaaGreatGraV
import Derived.WalkMore
/- DigD -/
namespace Go.Proofs.YtaandcblndldmaaGreat
open Go.RowKit
set_option linter.unusedVariables false
set_option linter.unusedSimpArgs false

section
variable {w : World} {ops : Array Oper} {rest : List Oper} {o : Oper} {a : Act} {Q : Exit → Act → World → Prop}
theorem wpList_makeG (hgd : o.guard = none) (s x : Operand) (ho : o.op = .call { callee := .builtin .append, args := #[s, x], argTypes := #[62, 3] }) (hs : a.eval s = .slice none 0 0)
    (n : Nat) (hx : a.eval x = .int .i64 (n : Int)) (h0 : 0 < n) (hn : n ≤ 3000000)
    (h : ∀ ad c w', OwnG w' w.heap.size (some ad) c [] → Below w.heap.size w w' → n ≤ c → wpList Tryz.prog ops Q rest (a.put o.dst (.slice (some ad) n c)) w') : wpList Tryz.prog ops Q (o :: rest) a w := by
  obtain ⟨i0, hi0, hz0, hz1, hz2⟩ := info_parts Tryz.info_digest
  obtain ⟨w', hr, h1, h2, h3⟩ := run_append_make (P := Tryz.prog) w 62 3 o.type 66 .i64 i0 _ Tryz.underlying62 Tryz.underlying3 hi0 hz0 (by rw [hz1]; rfl) (by omega) n h0 (by omega) (by rw [hz2]; omega)
  refine wpList_plain hgd fun K hK => ?_
  unfold Oper.wp
  simp only [execOp, ho, resolve, invoke, builtin, Sem.run_bind, Sem.run_pure, Result.andThen_ok, List.map_toArray, List.map_cons, List.map_nil, hs, hx, hr]
  rw [hz1] at h1
  exact hK _ _ (h _ _ w' h1 h2 h3)
end
theorem slice_hiG (oa : Option Addr) (n oc j : Nat) (hj : j ≤ oc) (W : World) : (Instr.sliceAt 62 (.slice oa n oc) none (some (.int .i64 (j : Int))) none).run Tryz.prog W = .ok (.slice oa j oc) W := by
  simp [go_sem, Instr.sliceAt, Instr.slice, run_underlying Tryz.underlying62]
  omega

set_option maxHeartbeats 1000000 in
theorem growG_any (n : Nat) (w : World) (hn : n ≤ 3000000) :
    Calls Tryz.prog 125 #[.slice none 0 0, .int .i64 (n : Int)] w fun e w' => ∃ a c, e = .returned (.slice a 0 c) ∧ OwnG w' w.heap.size a c [] ∧ Below w.heap.size w w' := by
  have hs0 := fun W => slice_hiG none 0 0 0 (Nat.le_refl _) W
  by_cases h0 : n = 0
  · subst h0
    go_enter Tryz.func125, Tryz.ntmps125
    go_wp2_with fail
    go_ret
    exact ⟨none, 0, rfl, OwnG.nil _ _, Below.refl _ _⟩
  · have h1 : 0 < n := by omega
    clear h0
    go_enter Tryz.func125, Tryz.ntmps125
    go_wp2_with (at_builtin; go_must (refine wpList_makeG rfl _ _ rfl rfl n rfl h1 (by omega) ?_))
    intro ad c w1 ho hb hc
    have hs1 := fun W => slice_hiG (some ad) n c 0 (Nat.zero_le _) W
    have Ho := Lib.hid ho
    have Hb := Lib.hid hb
    clear ho hb
    go_wp2_with fail
    go_ret
    exact ⟨some ad, c, rfl, Ho.out, Hb.out⟩
set_option maxRecDepth 100000 in
set_option maxHeartbeats 2000000 in
theorem concatG_any (a b : Option Addr) (c d g : Nat) (l m : List Dg) (w : World) (hv : GV w a c l) (hu : GV w b d m) (hg : w.heap[g]? = some (.cells #[.slice a l.length c, .slice b m.length d] 62 (0, 0))) (hn : l.length ≤ 900000) (hm : m.length ≤ 900000) :
    Calls Tryz.prog 65 #[.slice (some ⟨g, 0, none⟩) 2 2] w fun e w' => ∃ a' c' v', e = .returned (.slice a' v'.length c') ∧ v' = l ++ m ∧ OwnG w' w.heap.size a' c' v' ∧ Below w.heap.size w w' := by
  have Hv := Lib.hid hv
  have Hu := Lib.hid hu
  have Hg := Lib.hid hg
  have g0 := cells_at hg
  clear hv hu hg
  go_enter Tryz.func65, Tryz.ntmps65
  go_wp2_with fail
  go_loopw [3, 11] (fun s j wr => w = wr ∧ ((j = .int .i64 0 ∧ s = .int .i64 0) ∨ (j = .int .i64 1 ∧ s = .int .i64 (l.length : Int)) ∨ (j = .int .i64 2 ∧ s = .int .i64 ((l.length : Int) + (m.length : Int))))) (fun _ j _ => 2 - (intOf j).toNat)
  case atStart => exact ⟨rfl, .inl ⟨rfl, rfl⟩⟩
  case round =>
    obtain ⟨hw, ⟨rfl, rfl⟩ | ⟨rfl, rfl⟩ | ⟨rfl, rfl⟩⟩ := hrel <;> subst hw
    · go_wp2_with fail
      go_roundw
      case rel => exact ⟨by trivial, .inr (.inl ⟨by go_num, by first | trivial | go_num⟩)⟩
      case measure => simp [intOf]
    · go_wp2_with fail
      go_roundw
      case rel => exact ⟨by trivial, .inr (.inr ⟨by go_num, by first | trivial | go_num⟩)⟩
      case measure => simp [intOf]
    · have hlen : ((l.length : Int) + (m.length : Int)) = ((l.length + m.length : Nat) : Int) := by omega
      rw [hlen]
      have Hl := Lib.hid hlen
      clear hlen
      go_wp2_with fail
      refine (growG_any (l.length + m.length) _ (by omega)).mono ?_
      rintro e w1 ⟨a1, c1, rfl, ho, hb⟩
      have Ho := Lib.hid ho
      have Hb := Lib.hid hb
      have g1 := cells_at ((hb.block _ (heap_lt Hg.out)).trans Hg.out)
      clear ho hb g0
      go_wp2_with fail
      go_loopw [6, 27] (fun s j wr => ∃ (va : Option Addr) (vc : Nat) (v : List Dg), s = .slice va v.length vc ∧ v.length ≤ 2000000 ∧ Hid (OwnG wr w.heap.size va vc v) ∧ Hid (Below w.heap.size w wr) ∧ ((j = .int .i64 0 ∧ Hid (v = [])) ∨ (j = .int .i64 1 ∧ Hid (v = l)) ∨ (j = .int .i64 2 ∧ Hid (v = l ++ m)))) (fun _ j _ => 2 - (intOf j).toNat)
      case atStart => exact ⟨a1, c1, [], rfl, by simp, Ho, Hb, .inl ⟨rfl, Lib.hid rfl⟩⟩
      case round =>
        obtain ⟨va, vc, v, rfl, hv2, Ho2, Hb2, ⟨rfl, hv⟩ | ⟨rfl, hv⟩ | ⟨rfl, hv⟩⟩ := hrel
        · have hz2 := Hb2.out.size
          have hvl : v.length ≤ 0 := by rw [hv.out]; simp
          have g2 := cells_at ((Hb2.out.block _ (heap_lt Hg.out)).trans Hg.out)
          go_wp2_with (at_builtin; go_must (refine wpList_appG rfl _ _ rfl w.heap.size va vc v rfl Ho2.out a c l rfl (Hv.out.below Hb2.out) (by omega) hz2 ?_))
          intro v' a' c' w3 hv' ho3 hb3 _ _
          have Hv' := Lib.hid hv'
          have hl' : v'.length ≤ 2000000 := by rw [hv']; simp; omega
          have Ho3 := Lib.hid ho3
          have Hb3 := Lib.hid (Hb2.out.trans hb3)
          clear hv' ho3 hb3
          go_wp2_with fail
          go_roundw
          case rel => exact ⟨a', c', v', rfl, hl', Ho3, Hb3, .inr (.inl ⟨by go_num, Lib.hid (by rw [Hv'.out, hv.out]; rfl)⟩)⟩
          case measure => simp [intOf]
        · have hz2 := Hb2.out.size
          have hvl : v.length ≤ l.length := by rw [hv.out]; exact Nat.le_refl _
          have g2 := cells_at ((Hb2.out.block _ (heap_lt Hg.out)).trans Hg.out)
          go_wp2_with (at_builtin; go_must (refine wpList_appG rfl _ _ rfl w.heap.size va vc v rfl Ho2.out b d m rfl (Hu.out.below Hb2.out) (by omega) hz2 ?_))
          intro v' a' c' w3 hv' ho3 hb3 _ _
          have Hv' := Lib.hid hv'
          have hl' : v'.length ≤ 2000000 := by rw [hv']; simp; omega
          have Ho3 := Lib.hid ho3
          have Hb3 := Lib.hid (Hb2.out.trans hb3)
          clear hv' ho3 hb3
          go_wp2_with fail
          go_roundw
          case rel => exact ⟨a', c', v', rfl, hl', Ho3, Hb3, .inr (.inr ⟨by go_num, Lib.hid (by rw [Hv'.out, hv.out])⟩)⟩
          case measure => simp [intOf]
        · go_wp2_with fail
          go_ret
          exact ⟨va, vc, v, rfl, hv.out, Ho2.out, Hb2.out⟩

theorem keyedB : Maps.Keyed Tryz.prog 104 := Maps.Keyed.of_law (deep_law_gate laidOutP (of_decide_eq_true (by kernel_rfl)) (of_decide_eq_true (by kernel_rfl)) (by kernel_rfl) (by kernel_rfl))
theorem keyB_ok {d : Dt} (h : okD d) : ∃ l, keyOf Tryz.prog 104 (mkD d) = some l := by
  obtain ⟨⟨r, i⟩, s⟩ := d
  obtain ⟨n, hn⟩ : ∃ n, Tryz.prog.types.size = n + 2 := ⟨Tryz.prog.types.size - 2, by have : 2 ≤ Tryz.prog.types.size := of_decide_eq_true (by kernel_rfl); omega⟩
  have h2 := keyLits_two (d := n) Tryz.underlying24 (by decide) (by decide) rfl rfl (by kernel_rfl) (by kernel_rfl) (by kernel_rfl) Tryz.underlying5 Tryz.underlying22 (.int .u8 r) (.int .u32 i)
  have h3 : Tryz.prog.keyLits (n + 2) 26 [.int .u64 s] = litOf .u64 (.int .u64 s) := keyLits_one (d := n + 1) Tryz.underlying26 (.int .u64 s)
  have h4 := keyLits_three (d := n + 2) Tryz.underlying104 (by decide) (by decide) rfl rfl (by kernel_rfl) (by kernel_rfl) (by kernel_rfl) (.int .u8 r) (.int .u32 i) (.int .u64 s)
  have hk : Tryz.prog.keyType 104 = true := by kernel_rfl
  have hc : Tryz.prog.cellsOf 104 = 3 := by kernel_rfl
  have hf : (mkD ((r, i), s)).formed Tryz.prog 104 = true := by simp [mkD, Value.formed, Tryz.underlying104, hc]
  have hl : (mkD ((r, i), s)).cells.toList = [.int .u8 r, .int .u32 i, .int .u64 s] := by simp [mkD, Value.cells]
  have e1 := (wf8 r).2 h.1.1
  have e2 := (wf32 i).2 h.1.2
  have e3 := (wf64 s).2 h.2
  unfold keyOf
  rw [Tryz.underlying104]
  simp only [hk, hf, hl, hn, Bool.and_self, if_true]
  rw [h4, h2, h3]
  simp [litOf, e1, e2, e3]

set_option maxRecDepth 100000 in
theorem keyB_form (v : Value) (l : Lit) (h : keyOf Tryz.prog 104 v = some l) : ∃ d, v = mkD d ∧ okD d := by
  obtain ⟨xs, L, rfl, hL, _⟩ := keyOf_top (by rw [Tryz.underlying104]) h
  have hc : Tryz.prog.cellsOf 104 = 3 := by kernel_rfl
  have hlen : xs.toList.length = 3 := by
    have h' := hL
    unfold Program.keyLits at h'
    rw [Tryz.underlying104] at h'
    simp only [hc] at h'
    split at h'
    · rename_i hc; exact hc.1
    · cases h'
  obtain ⟨n, hn⟩ : ∃ n, Tryz.prog.types.size = n + 2 := ⟨Tryz.prog.types.size - 2, by have : 2 ≤ Tryz.prog.types.size := of_decide_eq_true (by kernel_rfl); omega⟩
  rw [hn] at hL
  obtain ⟨l⟩ := xs
  match l, hlen with
  | [x, y, z], _ =>
    have h0 : Tryz.prog.keyLits (n + 3) 104 [x, y, z] = some L := hL
    have h4 := keyLits_three (d := n + 2) Tryz.underlying104 (by decide) (by decide) rfl rfl (by kernel_rfl) (by kernel_rfl) (by kernel_rfl) x y z
    have h2 := keyLits_two (d := n) Tryz.underlying24 (by decide) (by decide) rfl rfl (by kernel_rfl) (by kernel_rfl) (by kernel_rfl) Tryz.underlying5 Tryz.underlying22 x y
    have h3 : Tryz.prog.keyLits (n + 2) 26 [z] = litOf .u64 z := keyLits_one (d := n + 1) Tryz.underlying26 z
    rw [h4, h2, h3] at h0
    cases e0 : litOf .u8 x with
    | none => rw [e0] at h0; cases h0
    | some A =>
      rw [e0] at h0
      cases e1 : litOf .u32 y with
      | none => rw [e1] at h0; cases h0
      | some B =>
        rw [e1] at h0
        cases e2 : litOf .u64 z with
        | none => rw [e2] at h0; cases h0
        | some C =>
          obtain ⟨a, rfl, ha⟩ := litOf_some e0
          obtain ⟨b, rfl, hb⟩ := litOf_some e1
          obtain ⟨c, rfl, hc⟩ := litOf_some e2
          exact ⟨((a, b), c), rfl, ⟨(wf8 a).1 ha, (wf32 b).1 hb⟩, (wf64 c).1 hc⟩
theorem keyB_inv {d : Dt} {l : Lit} (h : keyOf Tryz.prog 104 (mkD d) = some l) : okD d := by
  obtain ⟨b, hb, hok⟩ := keyB_form _ _ h
  rw [mkD_inj hb]; exact hok
theorem keysB : KeyAs Tryz.prog 104 mkD := ⟨keyedB, fun v l h => by obtain ⟨a, ha, _⟩ := keyB_form v l h; exact ⟨a, ha⟩, fun a b h => mkD_inj h⟩

/-- block b is a map of exactly n blocks that holds f -/
def MapB (w : World) (b n : Nat) (f : Dt → Option Value) : Prop := ∃ D : DataW Value, w.ownsMap Tryz.prog 104 heldE b n D ∧ HoldsF Tryz.prog 104 mkD D f ∧ Maps.size D = n
theorem MapB.made (w : World) : MapB (w.alloc (.map #[] 0)) w.heap.size 0 (fun _ => none) := ⟨.map [], World.ownsMap_made w _ _ heldE, ⟨⟨[], rfl⟩, fun a l _ => ⟨rfl, fun v h => by cases h⟩⟩, rfl⟩
theorem MapB.chg {F : List Nat} {w w' : World} {b n : Nat} {f : Dt → Option Value} (h : MapB w b n f) (hc : Chg F w w') (hb : b ∉ F) : MapB w' b n f := by
  obtain ⟨D, ⟨es, clock, h1, h2⟩, h3⟩ := h
  exact ⟨D, ⟨es, clock, heap_chg h1 hc hb, h2⟩, h3⟩
theorem MapB.below {w w' : World} {b n : Nat} {f : Dt → Option Value} (h : MapB w b n f) (hb : Below w.heap.size w w') : MapB w' b n f := h.chg (F := []) (Chg.of_below hb) (by simp)
theorem MapB.congr {w : World} {b n : Nat} {f g : Dt → Option Value} (h : MapB w b n f) (hg : ∀ d, okD d → f d = g d) : MapB w b n g := by
  obtain ⟨D, h1, ⟨h2, h3⟩, h4⟩ := h
  exact ⟨D, h1, ⟨h2, fun a l hl => by rw [← hg a (keyB_inv hl)]; exact h3 a l hl⟩, h4⟩
set_option maxRecDepth 100000 in
theorem MapB.look2 {w : World} {b n : Nat} {f : Dt → Option Value} (h : MapB w b n f) {t e : TypeId} (ht : Tryz.prog.underlying t = some (.map 104 e)) {z : Value} (hz : ∀ w, (zeroValue e).run Tryz.prog w = .ok z w) {r i s : Int} (hd : okD ((r, i), s)) :
    (Instr.lookup t (.map (some b)) (.agg #[.int .u8 r, .int .u32 i, .int .u64 s]) true).run Tryz.prog w = .ok (.tuple #[(f ((r, i), s)).getD z, .bool (f ((r, i), s)).isSome]) w := by
  obtain ⟨l, hl⟩ := keyB_ok hd
  obtain ⟨D, h1, ⟨h2, h3⟩, h4⟩ := h
  obtain ⟨v, ps, hr, hv⟩ := h1.look_ok keyedB ht (hz w) (zd := .held z) (zp := []) rfl hl
  obtain ⟨g1, g2⟩ := h3 ((r, i), s) l hl
  have hv' : D.atKey l (.held z) = .held v := by simp [heldE] at hv; exact hv.1.symm
  show (Instr.lookup t (.map (some b)) (mkD ((r, i), s)) true).run Tryz.prog w = _
  rw [hr, g1]
  cases hf : f ((r, i), s) with
  | none =>
    rw [hf] at g1
    rw [Maps.atKey_of_not_has g1] at hv'
    injection hv' with e
    subst e; rfl
  | some u =>
    rw [g2 u hf] at hv'
    injection hv' with e
    subst e; rfl
set_option maxRecDepth 100000 in
theorem MapB.update {w : World} {b n : Nat} {f : Dt → Option Value} (h : MapB w b n f) {t e : TypeId} (ht : Tryz.prog.underlying t = some (.map 104 e)) (hn : n < maxLen) {r i s : Int} (hd : okD ((r, i), s)) (hf : f ((r, i), s) = none) (val : Value) :
    ∃ w', (Instr.mapUpdate t (.map (some b)) (.agg #[.int .u8 r, .int .u32 i, .int .u64 s]) val).run Tryz.prog w = .ok () w' ∧ MapB w' b (n + 1) (fun x => if x = ((r, i), s) then some val else f x) ∧ Chg [b] w w' := by
  obtain ⟨l, hl⟩ := keyB_ok hd
  obtain ⟨D, h1, h2, h3⟩ := h
  obtain ⟨w', hr, ho, hg⟩ := h1.update keyedB ht hn hl (d := .held val) (ps := []) rfl
  have hnot : Maps.has D l = false := by rw [(h2.2 _ l hl).1, hf]; rfl
  refine ⟨w', hr, ⟨D.put l (.held val), ho, ⟨h2.1.put _ _, fun x lx hx => ?_⟩, ?_⟩, (Chg.grown hg).mono (by simp)⟩
  · dsimp only
    by_cases e : x = ((r, i), s)
    · subst e
      rw [hl] at hx
      cases hx
      rw [if_pos rfl]
      exact ⟨Maps.has_put_same h2.1 (keyedB.key hl) _, fun v hv z => by cases hv; exact Maps.atKey_put_same h2.1 (keyedB.key hl) _ _⟩
    · rw [if_neg e]
      have hne : lx ≠ l := fun e' => e (keysB.inj _ _ (keyedB.inj hx (e' ▸ hl)))
      obtain ⟨h4, h5⟩ := h2.2 x lx hx
      exact ⟨(Maps.has_put_other hne _).trans h4, fun v hv z => (Maps.atKey_put_other hne _ _).trans (h5 v hv z)⟩
  · rw [Maps.size_put (h1.tidy keyedB), hnot, h3]; rfl

end Go.Proofs.YtaandcblndldmaaGreat

/- DigE -/
namespace Go.Proofs.YtaandcblndldmaaGreat
open Go.RowKit
set_option linter.unusedVariables false
set_option linter.unusedSimpArgs false

/-- a digest in a box at pb, since a world -/
structure BxG (w wr : World) (pb : Nat) (C : Array Value) : Prop where
  blk : wr.heap[pb]? = some (.cells C 66 (0, 0))
  bel : Below w.heap.size w wr
theorem BxG.step {w wr w' : World} {pb : Nat} {C : Array Value} (h : BxG w wr pb C) (hb : Below wr.heap.size wr w') : BxG w w' pb C := ⟨(hb.block _ (heap_lt h.blk)).trans h.blk, below2 h.bel hb h.bel.size⟩
theorem BxG.new_ {w wr : World} (h : Below w.heap.size w wr) (C : Array Value) : BxG w (wr.alloc (.cells C 66)) wr.heap.size C := ⟨heap_new _ _, below2 h ((Below.refl _ _).alloc (Nat.le_refl _) _) h.size⟩
theorem key_lt {g h : Dg} (hk : ltD (keyG g) (keyG h)) : lessD (g.a, g.fr) (h.a, h.fr) = true := by
  have h1 := ltD_iff.1 hk
  have h2 : ltD (g.a, g.fr) (h.a, h.fr) := by
    rw [ltD_iff]
    unfold keyG at h1
    dsimp only at h1 ⊢
    omega
  exact h2
theorem cmpG_lt {g h : Dg} (hk : ltD (keyG g) (keyG h)) : cmpG g h < 0 := by
  rw [cmpG_eq, cmpDD_eq, cmpD_neg]
  exact key_lt hk
set_option maxRecDepth 100000 in
set_option maxHeartbeats 4000000 in
theorem may37_any (a : Option Addr) (c : Nat) (D : List Dg) (w : World) (h : GV w a c D) (hM : MayDs D) (hl : D.length ≤ 1100000) : Calls Tryz.prog 63 #[.slice a D.length c] w fun e w' => e = .returned (.bool true) ∧ Below w.heap.size w w' := by
  have H := Lib.hid h
  have HM := Lib.hid hM
  clear h hM
  go_enter Tryz.func63, Tryz.ntmps63
  go_wp2_with fail
  go_loopw [7] (fun j wr => ∃ q : Nat, q ≤ D.length ∧ j = .int .i64 q ∧ Hid (Below w.heap.size w wr)) (fun j _ => D.length - (intOf j).toNat)
  case atStart => exact ⟨0, Nat.zero_le _, rfl, Lib.hid (Below.refl _ _)⟩
  case round =>
    obtain ⟨q, hq, rfl, B⟩ := hrel
    by_cases hql : q < D.length
    · obtain ⟨g, hg⟩ : ∃ g, D[q]? = some g := ⟨D[q], by simp [hql]⟩
      have hgm := List.mem_of_getElem? hg
      obtain ⟨ad, had, ⟨g0, g1, g2, g3, g4⟩, hgz⟩ := (H.out.below B.out).at_ hg
      subst had
      have HG := Lib.hid (HM.out.each g hgm)
      have f1 := HG.out.low
      have f2 := HG.out.ord
      have f3 := HG.out.top
      have fa := HG.out.act
      obtain ⟨⟨r, i⟩, f, u, s⟩ := g
      dsimp only at g0 g1 g2 g3 g4 f1 f2 f3 fa
      have Hg := Lib.hid hg
      clear hg hgm
      have y1 : decide (f < 1) = false := decide_eq_false (by omega)
      have y2 : decide (u < f) = false := decide_eq_false (by omega)
      have y3 : decide (1048576 < u) = false := decide_eq_false (by omega)
      have y4 : eqD ((r, i), (f - 1) / 8) ((r, i), (u - 1) / 8) = true := (eqD_iff _ _).2 (by rw [show (f - 1) / 8 = (u - 1) / 8 from HG.out.blk])
      have E0 := Lib.hid (BxG.new_ B.out (dgcells r i f u s))
      go_upto_region 4 with (fail)
      clear g0 g1 g2 g3 g4 hgz
      generalize (wr.alloc (.cells (dgcells r i f u s) 66)) = wB at E0 ⊢
      generalize wr.heap.size = pb at E0 ⊢
      have E1 := Lib.hid (E0.out.step (wr := wB) (Below.refl _ _).drew)
      clear E0
      have e0 := cells_at E1.out.blk
      have ez := heap_lt E1.out.blk
      refine region_text [([0, 1, 2, 3, 4, 5, 6, 7, 8, 9, 10, 11, 12, 13, 14, 15, 16, 17, 18, 19, 20, 21, 22, 23, 24, 25, 27, 28, 29, 30], false), ([26], true), ([31, 32, 33], false)] mixed (by kernel_rfl) ?_
      simp only [wpSegs, List.map_cons, List.map_nil, List.getD_cons_succ, List.getD_cons_zero]
      go_wp2_with fail
      refine (mayActor_any r i _).mono ?_
      rintro e w1 ⟨rfl, hb⟩
      rw [fa]
      have E2 := Lib.hid (E1.out.step hb)
      clear hb E1 e0 ez
      have e0 := cells_at E2.out.blk
      have ez := heap_lt E2.out.blk
      go_wp2_with fail
      refine (of37_any r i f _ f1 (by omega)).mono ?_
      rintro e w2 ⟨rfl, hb⟩
      have hAg := Agree.of_below hb
      have E3 := Lib.hid (E2.out.step hb)
      clear hb E2 e0 ez
      have e0 := cells_at E3.out.blk
      have ez := heap_lt E3.out.blk
      go_wp2_with fail
      refine And.intro hAg ?_
      clear hAg
      go_wp2_with fail
      refine (of37_any r i u _ (by omega) (by omega)).mono ?_
      rintro e w3 ⟨rfl, hb⟩
      have E4 := Lib.hid (E3.out.step hb)
      clear hb E3 e0 ez
      have e0 := cells_at E4.out.blk
      have ez := heap_lt E4.out.blk
      go_wp2_with fail
      refine And.intro (by kernel_rfl) ?_
      clear e0 ez
      go_wp2_with fail
      have E5 := Lib.hid (E4.out.step (wr := w3) (Below.refl _ _).drew)
      clear E4
      have e0 := cells_at E5.out.blk
      have ez := heap_lt E5.out.blk
      by_cases hq0 : 0 < q
      · obtain ⟨g', hg'⟩ : ∃ g', D[q - 1]? = some g' := ⟨D[q - 1]'(by omega), List.getElem?_eq_getElem (by omega)⟩
        have hlt := List.pairwise_iff_getElem.1 HM.out.rise (q - 1) q (by omega) hql (by omega)
        rw [(List.getElem?_eq_some_iff.1 hg').2, (List.getElem?_eq_some_iff.1 Hg.out).2] at hlt
        obtain ⟨ad', had, ⟨g0, g1, g2, g3, g4⟩, hgz⟩ := (H.out.below E5.out.bel).at_ hg'
        obtain rfl : ad = ad' := Option.some.inj had
        have HG' := Lib.hid (HM.out.each g' (List.mem_of_getElem? hg'))
        have k1 := HG'.out.low
        have k2 := HG'.out.ord
        have k3 := HG'.out.top
        have hc := cmpG_lt hlt
        have hne : eqD (keyG g') (keyG ⟨(r, i), f, u, s⟩) = false := by
          rw [← Bool.not_eq_true, eqD_iff]
          intro e
          rw [e] at hlt
          exact ltD_irrefl _ hlt
        obtain ⟨⟨r', i'⟩, f', u', s'⟩ := g'
        dsimp only at g0 g1 g2 g3 g4 k1 k2 k3
        simp only [keyG] at hne
        have x0 : decide ((0 : Int) < (q : Int)) = true := decide_eq_true (by omega)
        have Hc := Lib.hid hc
        have Hg' := Lib.hid hg'
        clear hg' hlt had hc
        refine region_text [([0, 1, 2, 3, 4, 5, 6, 7, 8, 9, 10, 11, 12, 13, 14, 15, 16, 17, 18, 19, 20, 21, 22, 23, 25, 26, 27, 28], false), ([24], true), ([29, 30, 31, 32], false)] mixed (by kernel_rfl) ?_
        simp only [wpSegs, List.map_cons, List.map_nil, List.getD_cons_succ, List.getD_cons_zero]
        go_wp2_with fail
        refine (order_any ⟨(r', i'), f', u', s'⟩ ⟨(r, i), f, u, s⟩ _).mono ?_
        rintro e w4 ⟨rfl, hg⟩
        generalize cmpG ⟨(r', i'), f', u', s'⟩ ⟨(r, i), f, u, s⟩ = cc at Hc ⊢
        have hcc := Hc.out
        have x1 : decide (0 ≤ cc) = false := decide_eq_false (by omega)
        have hb := hg.below
        clear hg
        clear g0 g1 g2 g3 g4 hgz
        have E6 := Lib.hid (E5.out.step hb)
        clear hb E5 e0 ez
        have e0 := cells_at E6.out.blk
        have ez := heap_lt E6.out.blk
        obtain ⟨ad', had, ⟨g0, g1, g2, g3, g4⟩, hgz⟩ := (H.out.below E6.out.bel).at_ (k := q - 1) (x := ⟨(r', i'), f', u', s'⟩) Hg'.out
        obtain rfl := Option.some.inj had
        clear had
        go_wp2_with fail
        refine (of37_any r' i' f' _ k1 (by omega)).mono ?_
        rintro e w5 ⟨rfl, hb⟩
        have hAg := Agree.of_below hb
        clear g0 g1 g2 g3 g4 hgz
        have E7 := Lib.hid (E6.out.step hb)
        clear hb E6 e0 ez
        have e0 := cells_at E7.out.blk
        have ez := heap_lt E7.out.blk
        go_wp2_with fail
        refine And.intro hAg ?_
        clear hAg
        go_wp2_with fail
        refine (of37_any r i f _ f1 (by omega)).mono ?_
        rintro e w6 ⟨rfl, hb⟩
        have E8 := Lib.hid (E7.out.step hb)
        clear hb E7 e0 ez
        have e0 := cells_at E8.out.blk
        have ez := heap_lt E8.out.blk
        go_wp2_with fail
        refine And.intro (by kernel_rfl) ?_
        clear e0 ez
        go_wp2_with fail
        go_roundw
        case rel => exact ⟨q + 1, by omega, by go_num, Lib.hid E8.out.bel⟩
        case measure => simp [intOf]; omega
      · have x0 : decide ((0 : Int) < (q : Int)) = false := decide_eq_false (by omega)
        have x2 : ¬ (0 : Int) < (q : Int) := by omega
        refine region_text [([0, 1, 2, 3, 4, 5, 6, 7, 8, 9, 10, 11, 12, 13, 14, 15, 16, 17, 18, 19, 20, 21, 22, 23, 25, 26, 27, 28], false), ([24], true), ([29, 30, 31, 32], false)] mixed (by kernel_rfl) ?_
        simp only [wpSegs, List.map_cons, List.map_nil, List.getD_cons_succ, List.getD_cons_zero]
        go_wp2_with fail
        refine And.intro (Agree.refl _) ?_
        go_wp2_with fail
        refine And.intro (by kernel_rfl) ?_
        clear e0 ez
        go_wp2_with fail
        go_roundw
        case rel => exact ⟨q + 1, by omega, by go_num, Lib.hid E5.out.bel⟩
        case measure => simp [intOf]; omega
    · go_wp2_with fail
      go_ret
      exact ⟨rfl, B.out⟩
end Go.Proofs.YtaandcblndldmaaGreat

/- DigF -/
namespace Go.Proofs.YtaandcblndldmaaGreat
open Go.RowKit
set_option linter.unusedVariables false
set_option linter.unusedSimpArgs false

/-- digests by their blocks, as a map's elements -/
def bkV (D : List Dg) : Dt → Option Value := fun k => (D.find? fun g => decide (keyG g = k)).map fun g => .agg (dgcell g).toArray
theorem bkV_none {D : List Dg} {k : Dt} (h : ∀ g ∈ D, keyG g ≠ k) : bkV D k = none := by
  unfold bkV
  rw [List.find?_eq_none.2 (fun g hg => by simpa using h g hg)]
  rfl
theorem bkV_some {D : List Dg} (h : D.Pairwise fun g h => ltD (keyG g) (keyG h)) {g : Dg} (hg : g ∈ D) : bkV D (keyG g) = some (.agg (dgcell g).toArray) := by
  unfold bkV
  cases hf : D.find? fun x => decide (keyG x = keyG g) with
  | none => rw [List.find?_eq_none] at hf; exact absurd (decide_eq_true rfl) (hf g hg)
  | some x =>
    have h1 := List.mem_of_find?_eq_some hf
    have h2 := List.find?_some hf
    have : x = g := rise_inj h h1 hg (by simpa using h2)
    rw [this]; rfl
theorem bkV_snoc {D : List Dg} {g : Dg} (h : ∀ x ∈ D, keyG x ≠ keyG g) (k : Dt) : bkV (D ++ [g]) k = if k = keyG g then some (.agg (dgcell g).toArray) else bkV D k := by
  unfold bkV
  rw [List.find?_append]
  by_cases e : k = keyG g
  · subst e
    rw [if_pos rfl, List.find?_eq_none.2 (fun x hx => by simpa using h x hx)]
    simp
  · rw [if_neg e]
    cases D.find? (fun g => decide (keyG g = k)) with
    | some x => rfl
    | none => simp; exact fun h => e h.symm
theorem MayG.okD {g : Dg} (h : MayG g) : okD (keyG g) := by
  have h1 := (mayA_iff _).1 h.act
  have h2 := h.pos
  have h3 := h.low
  have h4 := h.ord
  have h5 := h.top
  unfold keyG
  exact ⟨⟨⟨h2, by show g.a.1 ≤ 255; omega⟩, by show 0 ≤ g.a.2; omega, by show g.a.2 ≤ 4294967295; omega⟩, by show 0 ≤ (g.fr - 1) / 8; omega, by show (g.fr - 1) / 8 ≤ 18446744073709551615; omega⟩
structure BkE (w wr : World) (mb q : Nat) (D : List Dg) : Prop where
  map : MapB wr mb q (bkV (D.take q))
  bel : Below w.heap.size w wr
  lo : w.heap.size ≤ mb
def BkTo (w : World) (D : List Dg) (e : Ending) (w' : World) : Prop := ∃ mb, e = .returned (.map (some mb)) ∧ MapB w' mb D.length (bkV D) ∧ Below w.heap.size w w'
set_option maxRecDepth 100000 in
set_option maxHeartbeats 4000000 in
theorem blocks_any (a : Option Addr) (c : Nat) (D : List Dg) (w : World) (h : GV w a c D) (hM : MayDs D) (hl : D.length ≤ 1100000) : Calls Tryz.prog 64 #[.slice a D.length c] w (BkTo w D) := by
  have H := Lib.hid h
  have HM := Lib.hid hM
  have B0 : Hid (BkE w (w.alloc (.map #[] 0)) w.heap.size 0 D) := Lib.hid ⟨(MapB.made w).congr fun d _ => rfl, (Below.refl _ _).alloc (Nat.le_refl _) _, Nat.le_refl _⟩
  clear h hM
  have hmm := @run_makeMap Tryz.prog
  go_enter Tryz.func64, Tryz.ntmps64
  go_wp2_with fail
  clear hmm
  generalize (w.alloc (.map #[] 0)) = wa at B0 ⊢
  obtain ⟨mb, hmb⟩ : ∃ mb, mb = w.heap.size := ⟨_, rfl⟩
  rw [← hmb] at B0 ⊢
  clear hmb
  go_loopw [9] (fun j wr => ∃ q : Nat, q ≤ D.length ∧ j = .int .i64 q ∧ Hid (BkE w wr mb q D)) (fun j _ => D.length - (intOf j).toNat)
  case atStart => exact ⟨0, Nat.zero_le _, rfl, B0⟩
  case round =>
    obtain ⟨q, hq, rfl, B⟩ := hrel
    clear B0
    by_cases hql : q < D.length
    · obtain ⟨g, hg⟩ : ∃ g, D[q]? = some g := ⟨D[q], by simp [hql]⟩
      have hgm := List.mem_of_getElem? hg
      obtain ⟨ad, had, ⟨g0, g1, g2, g3, g4⟩, hgz⟩ := (H.out.below B.out.bel).at_ hg
      subst had
      have HG := Lib.hid (HM.out.each g hgm)
      have HK := Lib.hid HG.out.okD
      have f1 := HG.out.low
      have f2 := HG.out.ord
      have f3 := HG.out.top
      have hnew : ∀ x ∈ D.take q, keyG x ≠ keyG g := fun x hx e => by
        obtain ⟨k, hk⟩ := List.getElem?_of_mem hx
        rw [List.getElem?_take] at hk
        by_cases hkq : k < q
        · rw [if_pos hkq] at hk
          have hlt := List.pairwise_iff_getElem.1 HM.out.rise k q (by omega) hql hkq
          rw [(List.getElem?_eq_some_iff.1 hk).2, (List.getElem?_eq_some_iff.1 hg).2, e] at hlt
          exact ltD_irrefl _ hlt
        · rw [if_neg hkq] at hk; cases hk
      have Hnew := Lib.hid hnew
      have Htake := Lib.hid (take_snoc' hg)
      obtain ⟨⟨r, i⟩, f, u, s⟩ := g
      dsimp only at g0 g1 g2 g3 g4 f1 f2 f3
      clear hg hgm hnew
      have E0 := Lib.hid (BxG.new_ B.out.bel (dgcells r i f u s))
      have M0 := Lib.hid (B.out.map.below ((Below.refl _ _).alloc (Nat.le_refl _) (.cells (dgcells r i f u s) 66)))
      go_upto_region 5 with (fail)
      clear g0 g1 g2 g3 g4 hgz
      generalize (wr.alloc (.cells (dgcells r i f u s) 66)) = wB at E0 M0 ⊢
      generalize wr.heap.size = pb at E0 ⊢
      have E1 := Lib.hid (E0.out.step (wr := wB) (Below.refl _ _).drew)
      have M1 := Lib.hid (M0.out.below (Below.refl _ _).drew)
      clear E0 M0
      have e0 := cells_at E1.out.blk
      have ez := heap_lt E1.out.blk
      refine region_text [([0, 1, 2, 3, 4, 6], false), ([5], true), ([7], false)] mixed (by kernel_rfl) ?_
      simp only [wpSegs, List.map_cons, List.map_nil, List.getD_cons_succ, List.getD_cons_zero]
      go_wp2_with fail
      refine (of37_any r i f _ f1 (by omega)).mono ?_
      rintro e w2 ⟨rfl, hb⟩
      have hAg := Agree.of_below hb
      have M2 := Lib.hid (M1.out.below hb)
      clear M1
      have E2 := Lib.hid (E1.out.step hb)
      clear hb E1 e0 ez
      have e0 := cells_at E2.out.blk
      have ez := heap_lt E2.out.blk
      have hqm : q < maxLen := by unfold maxLen; omega
      obtain ⟨w3, hr, hM3, hC3⟩ := M2.out.update Tryz.underlying109 hqm HK.out (bkV_none Hnew.out) (.agg (dgcells r i f u s))
      have B3 : Hid (BkE w w3 mb (q + 1) D) := Lib.hid ⟨hM3.congr fun d _ => by rw [Htake.out, bkV_snoc Hnew.out]; rfl, E2.out.bel.trans (hC3.below E2.out.bel.size (by simpa using B.out.lo)), B.out.lo⟩
      clear hM3 hC3 B M2
      simp only [keyG] at hr
      go_wp2_with fail
      refine And.intro hAg ?_
      clear hAg
      go_wp2_with fail
      refine And.intro (by kernel_rfl) ?_
      go_wp2_with fail
      go_roundw
      case rel => exact ⟨q + 1, by omega, by go_num, B3⟩
      case measure => simp [intOf]; omega
    · have he := Lib.hid (show q = D.length by omega)
      go_wp2_with fail
      go_ret
      exact ⟨mb, rfl, by have := B.out.map; rwa [he.out, List.take_length] at this, B.out.bel⟩
end Go.Proofs.YtaandcblndldmaaGreat

/- DigG -/
namespace Go.Proofs.YtaandcblndldmaaGreat
open Go.RowKit
set_option linter.unusedVariables false
set_option linter.unusedSimpArgs false

theorem zeroG (w : World) : (zeroValue 66).run Tryz.prog w = .ok (.agg #[.int .u8 0, .int .u32 0, .int .u64 0, .int .u64 0, .int .u32 0]) w := by kernel_rfl
/-- what a map of blocks tells of a block -/
theorem bk_look {w W : World} {mb n : Nat} {D : List Dg} (h : MapB w mb n (bkV D)) (hb : Below w.heap.size w W) {r i s : Int} (hd : okD ((r, i), s)) :
    (Instr.lookup 109 (.map (some mb)) (.agg #[.int .u8 r, .int .u32 i, .int .u64 s]) true).run Tryz.prog W = .ok (.tuple #[(bkV D ((r, i), s)).getD (.agg #[.int .u8 0, .int .u32 0, .int .u64 0, .int .u64 0, .int .u32 0]), .bool (bkV D ((r, i), s)).isSome]) W :=
  (h.below hb).look2 Tryz.underlying109 zeroG hd
/-- either there is none, or it is told -/
theorem bk_cases {D : List Dg} (h : D.Pairwise fun g h => ltD (keyG g) (keyG h)) (k : Dt) : (bkV D k = none ∧ hasK D k = false) ∨ ∃ e ∈ D, keyG e = k ∧ bkV D k = some (.agg (dgcell e).toArray) ∧ hasK D k = true := by
  cases hk : hasK D k with
  | true =>
    obtain ⟨e, he, rfl⟩ := hasK_iff.1 hk
    exact .inr ⟨e, he, rfl, bkV_some h he, rfl⟩
  | false =>
    refine .inl ⟨bkV_none fun g hg e => ?_, rfl⟩
    rw [hasK_iff.2 ⟨g, hg, e⟩] at hk
    cases hk
set_option maxRecDepth 100000 in
set_option maxHeartbeats 4000000 in
theorem unlike37_any (a b : Option Addr) (c d : Nat) (A B : List Dg) (w : World) (hA : GV w a c A) (hB : GV w b d B) (mA : MayDs A) (mB : MayDs B) (hU : noUn A B) (hl : A.length ≤ 1100000) (hm : B.length ≤ 1100000) :
    Calls Tryz.prog 21 #[.slice a A.length c, .slice b B.length d] w fun e w' => e = .returned (.slice none 0 0) ∧ Below w.heap.size w w' := by
  have HA := Lib.hid hA
  have HB := Lib.hid hB
  have MA := Lib.hid mA
  have MB := Lib.hid mB
  have HU := Lib.hid hU
  clear hA hB mA mB hU
  go_enter Tryz.func21, Tryz.ntmps21
  go_wp2_with fail
  refine (may37_any a c A _ HA.out MA.out hl).mono ?_
  rintro e w1 ⟨rfl, hb⟩
  have B1 := Lib.hid hb
  clear hb
  go_wp2_with fail
  refine (may37_any b d B _ (HB.out.below B1.out) MB.out hm).mono ?_
  rintro e w2 ⟨rfl, hb⟩
  have B2 := Lib.hid (below2 B1.out hb B1.out.size)
  clear hb B1
  go_wp2_with fail
  refine (blocks_any b d B _ (HB.out.below B2.out) MB.out hm).mono ?_
  rintro e w3 ⟨mb, rfl, hM, hb⟩
  have M3 := Lib.hid hM
  have B3 := Lib.hid (below2 B2.out hb B2.out.size)
  clear hb B2 hM
  go_wp2_with fail
  go_loopw [4, 22] (fun o j wr => o = .slice none 0 0 ∧ ∃ q : Nat, q ≤ A.length ∧ j = .int .i64 q ∧ Hid (Below w3.heap.size w3 wr)) (fun _ j _ => A.length - (intOf j).toNat)
  case atStart => exact ⟨rfl, 0, Nat.zero_le _, rfl, Lib.hid (Below.refl _ _)⟩
  case round =>
    obtain ⟨rfl, q, hq, rfl, Br⟩ := hrel
    by_cases hql : q < A.length
    · obtain ⟨g, hg⟩ : ∃ g, A[q]? = some g := ⟨A[q], by simp [hql]⟩
      have hgm := List.mem_of_getElem? hg
      obtain ⟨ad, had, ⟨g0, g1, g2, g3, g4⟩, hgz⟩ := (HA.out.below (B3.out.trans (Br.out.mono B3.out.size))).at_ hg
      subst had
      have HG := Lib.hid (MA.out.each g hgm)
      have HK := Lib.hid HG.out.okD
      have f1 := HG.out.low
      have f2 := HG.out.ord
      have f3 := HG.out.top
      have HN := Lib.hid (HU.out g hgm)
      obtain ⟨⟨r, i⟩, f, u, s⟩ := g
      dsimp only at g0 g1 g2 g3 g4 f1 f2 f3
      clear hg hgm
      have E0 := Lib.hid (BxG.new_ Br.out (dgcells r i f u s))
      go_upto_region 7 with (fail)
      clear g0 g1 g2 g3 g4 hgz
      generalize (wr.alloc (.cells (dgcells r i f u s) 66)) = wB at E0 ⊢
      generalize wr.heap.size = pb at E0 ⊢
      have e0 := cells_at E0.out.blk
      have ez := heap_lt E0.out.blk
      go_wp2_with fail
      refine (of37_any r i f _ f1 (by omega)).mono ?_
      rintro e w4 ⟨rfl, hb⟩
      have E1 := Lib.hid (E0.out.step hb)
      clear hb E0 e0 ez
      have e0 := cells_at E1.out.blk
      have ez := heap_lt E1.out.blk
      have hlk := bk_look M3.out E1.out.bel HK.out
      simp only [keyG] at hlk
      rcases bk_cases MB.out.rise (keyG ⟨(r, i), f, u, s⟩) with ⟨hn, _⟩ | ⟨x, hx, hxk, hs, _⟩
      · simp only [keyG] at hn
        rw [hn] at hlk
        simp only [Option.getD_none, Option.isSome_none] at hlk
        clear hn
        have E2 := Lib.hid (E1.out.step ((Below.refl _ _).alloc (Nat.le_refl _) (.cells (dgcells 0 0 0 0 0) 66)))
        go_upto_region 8 with (fail)
        clear hlk e0 ez
        have e0 := cells_at E2.out.blk
        have ez := heap_lt E2.out.blk
        go_wp2_with fail
        go_roundw
        case rel => exact ⟨rfl, q + 1, by omega, by go_num, Lib.hid E2.out.bel⟩
        case measure => simp [intOf]; omega
      · have hun := HN.out x hx hxk
        simp only [keyG] at hs
        rw [hs] at hlk
        obtain ⟨⟨r', i'⟩, f', u', s'⟩ := x
        simp only [Option.getD_some, Option.isSome_some, dgcell] at hlk
        clear hs hx hxk
        have E2 := Lib.hid (E1.out.step ((Below.refl _ _).alloc (Nat.le_refl _) (.cells (dgcells r' i' f' u' s') 66)))
        have X2 := Lib.hid (heap_new w4 (.cells (dgcells r' i' f' u' s') 66 (0, 0)))
        go_upto_region 8 with (fail)
        clear hlk e0 ez
        generalize (w4.alloc (.cells (dgcells r' i' f' u' s') 66)) = w5 at E2 X2 ⊢
        generalize w4.heap.size = px at X2 ⊢
        have e0 := cells_at E2.out.blk
        have ez := heap_lt E2.out.blk
        have d0 := cells_at X2.out
        have dz := heap_lt X2.out
        try dsimp only at hun
        by_cases hf : f' = f
        · subst hf
          have b1 : (f' == f') = true := by simp
          by_cases hu : u' = u
          · subst hu
            obtain rfl : s' = s := hun rfl rfl
            have b2 : (u' == u') = true := by simp
            have b3 : (s' != s') = false := by simp
            clear hun
            go_wp2_with fail
            go_roundw
            case rel => exact ⟨rfl, q + 1, by omega, by go_num, Lib.hid E2.out.bel⟩
            case measure => simp [intOf]; omega
          · have b2 : (u' == u) = false := by simpa using hu
            clear hun hu
            go_wp2_with fail
            go_roundw
            case rel => exact ⟨rfl, q + 1, by omega, by go_num, Lib.hid E2.out.bel⟩
            case measure => simp [intOf]; omega
        · have b1 : (f' == f) = false := by simpa using hf
          clear hun hf
          go_wp2_with fail
          go_roundw
          case rel => exact ⟨rfl, q + 1, by omega, by go_num, Lib.hid E2.out.bel⟩
          case measure => simp [intOf]; omega
    · go_wp2_with fail
      go_ret
      exact ⟨rfl, B3.out.trans (Br.out.mono B3.out.size)⟩
end Go.Proofs.YtaandcblndldmaaGreat

/- DigH -/
namespace Go.Proofs.YtaandcblndldmaaGreat
open Go.RowKit
set_option linter.unusedVariables false
set_option linter.unusedSimpArgs false

/-- what is apart among the first q -/
def apQ (A B : List Dg) (q : Nat) : List Dg := ((A.take q).filter fun g => !sameIn B g) ++ ((B.take (q - A.length)).filter fun e => !hasK A (keyG e))
theorem apQ_zero (A B : List Dg) : apQ A B 0 = [] := by simp [apQ]
theorem apQ_all (A B : List Dg) : apQ A B (A ++ B).length = apartL A B := by
  unfold apQ apartL
  rw [List.length_append, List.take_of_length_le (by omega), show A.length + B.length - A.length = B.length by omega, List.take_length]
theorem apQ_len (A B : List Dg) (q : Nat) : (apQ A B q).length ≤ A.length + B.length := by
  unfold apQ
  rw [List.length_append]
  have h1 := List.length_filter_le (fun g => !sameIn B g) (A.take q)
  have h2 := List.length_filter_le (fun e => !hasK A (keyG e)) (B.take (q - A.length))
  rw [List.length_take] at h1 h2
  omega
theorem apQ_lo {A B : List Dg} {q : Nat} {g : Dg} (hq : q < A.length) (hg : (A ++ B)[q]? = some g) : apQ A B (q + 1) = if sameIn B g = true then apQ A B q else apQ A B q ++ [g] := by
  rw [List.getElem?_append_left hq] at hg
  unfold apQ
  rw [show q + 1 - A.length = 0 by omega, show q - A.length = 0 by omega, take_snoc' hg, List.filter_append]
  cases h : sameIn B g <;> simp [h]
theorem apQ_hi {A B : List Dg} {q : Nat} {g : Dg} (hq : A.length ≤ q) (hg : (A ++ B)[q]? = some g) : apQ A B (q + 1) = if hasK A (keyG g) = true then apQ A B q else apQ A B q ++ [g] := by
  rw [List.getElem?_append_right hq] at hg
  unfold apQ
  rw [show q + 1 - A.length = (q - A.length) + 1 by omega, take_snoc' hg, List.filter_append, List.take_of_length_le (by omega : A.length ≤ q + 1), List.take_of_length_le hq]
  cases h : hasK A (keyG g) <;> simp [h]
/-- what a map of blocks tells of a block, in one word -/
theorem bk_tell {w : World} {mb n : Nat} {D : List Dg} (h : MapB w mb n (bkV D)) (hr : D.Pairwise fun g h => ltD (keyG g) (keyG h)) {k : Dt} (hd : okD k) :
    ∃ (x : Dg), (∀ W, Below w.heap.size w W → (Instr.lookup 109 (.map (some mb)) (.agg #[.int .u8 k.1.1, .int .u32 k.1.2, .int .u64 k.2]) true).run Tryz.prog W = .ok (.tuple #[.agg (dgcell x).toArray, .bool (hasK D k)]) W) ∧ (hasK D k = true → x ∈ D ∧ keyG x = k) := by
  rcases bk_cases hr k with ⟨hn, hh⟩ | ⟨x, hx, hxk, hs, hh⟩
  · refine ⟨⟨(0, 0), 0, 0, 0⟩, fun W hb => ?_, fun e => by rw [hh] at e; cases e⟩
    have := bk_look h hb (r := k.1.1) (i := k.1.2) (s := k.2) hd
    rw [show ((k.1.1, k.1.2), k.2) = k from rfl, hn] at this
    rw [hh]
    exact this
  · refine ⟨x, fun W hb => ?_, fun _ => ⟨hx, hxk⟩⟩
    have := bk_look h hb (r := k.1.1) (i := k.1.2) (s := k.2) hd
    rw [show ((k.1.1, k.1.2), k.2) = k from rfl, hs] at this
    rw [hh]
    exact this
theorem sameIn_key {B : List Dg} (hr : B.Pairwise fun g h => ltD (keyG g) (keyG h)) {x g : Dg} (hx : x ∈ B) (hk : keyG x = keyG g) : sameIn B g = (decide (x.fr = g.fr) && decide (x.up = g.up)) := by
  rw [Bool.eq_iff_iff, sameIn_iff, Bool.and_eq_true, decide_eq_true_iff, decide_eq_true_iff]
  constructor
  · rintro ⟨e, he, k1, k2⟩
    have : e = x := rise_inj hr he hx (k1.trans hk.symm)
    subst this
    exact k2
  · rintro ⟨h1, h2⟩
    exact ⟨x, hx, hk, h1, h2⟩
theorem sameIn_no {B : List Dg} {g : Dg} (h : hasK B (keyG g) = false) : sameIn B g = false := by
  rw [← Bool.not_eq_true, sameIn_iff]
  rintro ⟨e, he, k1, _⟩
  rw [hasK_iff.2 ⟨e, he, k1⟩] at h
  cases h
def ApTo (w : World) (A B : List Dg) (e : Ending) (w' : World) : Prop := ∃ (a : Option Addr) (c : Nat) (P : List Dg), e = .returned (.slice a P.length c) ∧ P.Perm (apartL A B) ∧ OwnG w' w.heap.size a c P ∧ Below w.heap.size w w'
/-- a block's box -/
theorem kbox (w : World) (C : Array Value) : (w.alloc (.cells C 104)).heap[w.heap.size]? = some (.cells C 104 (0, 0)) := heap_new _ _
set_option maxRecDepth 100000 in
set_option maxHeartbeats 8000000 in
theorem apart37_any (a b : Option Addr) (c d : Nat) (A B : List Dg) (w : World) (hA : GV w a c A) (hB : GV w b d B) (mA : MayDs A) (mB : MayDs B) (hl : A.length ≤ 100000) (hm : B.length ≤ 100000) :
    Calls Tryz.prog 22 #[.slice a A.length c, .slice b B.length d] w (ApTo w A B) := by
  have HA := Lib.hid hA
  have HB := Lib.hid hB
  have MA := Lib.hid mA
  have MB := Lib.hid mB
  clear hA hB mA mB
  go_enter Tryz.func22, Tryz.ntmps22
  go_wp2_with fail
  go_step3
  go_wp2_with fail
  refine (may37_any a c A _ HA.out MA.out (by omega)).mono ?_
  rintro e w1 ⟨rfl, hb⟩
  have B1 := Lib.hid hb
  clear hb
  go_wp2_with fail
  refine (may37_any b d B _ (HB.out.below B1.out) MB.out (by omega)).mono ?_
  rintro e w2 ⟨rfl, hb⟩
  have B2 := Lib.hid (below2 B1.out hb B1.out.size)
  clear hb B1
  go_wp2_with fail
  refine (blocks_any a c A _ (HA.out.below B2.out) MA.out (by omega)).mono ?_
  rintro e w4 ⟨ma, rfl, hM, hb⟩
  have M4 := Lib.hid hM
  have B4 := Lib.hid (below2 B2.out hb B2.out.size)
  clear hb B2 hM
  go_wp2_with fail
  refine (blocks_any b d B _ (HB.out.below B4.out) MB.out (by omega)).mono ?_
  rintro e w5 ⟨mb, rfl, hM, hb⟩
  have M5 := Lib.hid hM
  have N5 := Lib.hid (M4.out.below hb)
  have B5 := Lib.hid (below2 B4.out hb B4.out.size)
  clear hb B4 hM M4
  have hAl := (Below.refl w5.heap.size w5).alloc (Nat.le_refl _) (.cells #[.slice a A.length c, .slice b B.length d] 62)
  have B6 := Lib.hid (below2 B5.out hAl B5.out.size)
  have M6 := Lib.hid (M5.out.below hAl)
  have N6 := Lib.hid (N5.out.below hAl)
  clear hAl M5 N5 B5
  go_wp2_with fail
  go_step3
  go_wp2_with fail
  refine (concatG_any a b c d w5.heap.size A B _ (HA.out.below B6.out) (HB.out.below B6.out) (heap_new _ _) (by omega) (by omega)).mono ?_
  rintro e w3 ⟨xa, xc, X, rfl, hX, ho, hb⟩
  have HX := Lib.hid hX
  have HO := Lib.hid ho.gv
  have B3 := Lib.hid (below2 B6.out hb B6.out.size)
  have M3 := Lib.hid (M6.out.below hb)
  have N3 := Lib.hid (N6.out.below hb)
  have hXl : X.length = A.length + B.length := by rw [hX, List.length_append]
  have hXm : X.length ≤ 200000 := by omega
  have HXl := Lib.hid hXl
  clear hX ho hb B6 M6 N6 hXl
  have O0 : Hid (OwnG w3 w3.heap.size none 0 []) := Lib.hid (OwnG.nil _ _)
  go_wp2_with fail
  go_loopw [4, 31] (fun o j wr => ∃ (q : Nat) (P : List Dg) (oa : Option Addr) (oc : Nat), q ≤ X.length ∧ j = .int .i64 q ∧ o = .slice oa P.length oc ∧ Hid (P = apQ A B q) ∧ Hid (OwnG wr w3.heap.size oa oc P) ∧ Hid (Below w3.heap.size w3 wr)) (fun _ j _ => X.length - (intOf j).toNat)
  case atStart => exact ⟨0, [], none, 0, Nat.zero_le _, rfl, rfl, Lib.hid (apQ_zero A B).symm, O0, Lib.hid (Below.refl _ _)⟩
  case round =>
    obtain ⟨q, P, oa, oc, hq, rfl, rfl, HP, O, Br⟩ := hrel
    clear O0
    have hPl : P.length ≤ 200000 := by
      have := apQ_len A B q
      rw [← HP.out] at this
      omega
    by_cases hql : q < X.length
    · obtain ⟨g, hg⟩ : ∃ g, X[q]? = some g := ⟨X[q], by simp [hql]⟩
      obtain ⟨ad, had, ⟨g0, g1, g2, g3, g4⟩, hgz⟩ := (HO.out.below Br.out).at_ hg
      subst had
      rw [HX.out] at hg
      have HG : Hid (MayG g) := Lib.hid (by
        rcases List.mem_append.1 (List.mem_of_getElem? hg) with h | h
        · exact MA.out.each g h
        · exact MB.out.each g h)
      have f1 := HG.out.low
      have f2 := HG.out.ord
      have f3 := HG.out.top
      have Hg := Lib.hid hg
      obtain ⟨xb, hxb, hxb2⟩ := bk_tell M3.out MB.out.rise HG.out.okD
      obtain ⟨ya, hya, hya2⟩ := bk_tell N3.out MA.out.rise HG.out.okD
      have HXB := Lib.hid hxb
      have HYA := Lib.hid hya
      have HXB2 := Lib.hid hxb2
      obtain ⟨⟨r, i⟩, f, u, s⟩ := g
      dsimp only at g0 g1 g2 g3 g4 f1 f2 f3
      clear hg hxb hya hxb2 hya2
      have E0 := Lib.hid (BxG.new_ Br.out (dgcells r i f u s))
      have O1 := Lib.hid (O.out.below ((Below.refl wr.heap.size wr).alloc (Nat.le_refl _) (.cells (dgcells r i f u s) 66)))
      go_upto_region 7 with (fail)
      clear g0 g1 g2 g3 g4 hgz O Br
      generalize (wr.alloc (.cells (dgcells r i f u s) 66)) = wB at E0 O1 ⊢
      generalize wr.heap.size = pb at E0 ⊢
      have e0 := cells_at E0.out.blk
      have ez := heap_lt E0.out.blk
      go_wp2_with fail
      refine (of37_any r i f _ f1 (by omega)).mono ?_
      rintro e w7 ⟨rfl, hb⟩
      have O2 := Lib.hid (O1.out.below hb)
      clear O1
      have E1 := Lib.hid (E0.out.step hb)
      clear hb E0 e0 ez
      have e0 := cells_at E1.out.blk
      have ez := heap_lt E1.out.blk
      have hAl := (Below.refl w7.heap.size w7).alloc (Nat.le_refl _) (.cells #[.int .u8 r, .int .u32 i, .int .u64 ((f - 1) / 8)] 104)
      have E2 := Lib.hid (E1.out.step hAl)
      have O3 := Lib.hid (O2.out.below hAl)
      have K2 := Lib.hid (kbox w7 #[.int .u8 r, .int .u32 i, .int .u64 ((f - 1) / 8)])
      go_upto_region 8 with (fail)
      clear hAl e0 ez E1 O2
      generalize (w7.alloc (.cells #[.int .u8 r, .int .u32 i, .int .u64 ((f - 1) / 8)] 104)) = w8 at E2 O3 K2 ⊢
      generalize w7.heap.size = kb at K2 ⊢
      have k0 := cells_at K2.out
      have kz := heap_lt K2.out
      have hlk := HXB.out w8 E2.out.bel
      obtain ⟨⟨r', i'⟩, f', u', s'⟩ := xb
      simp only [keyG, dgcell] at hlk
      generalize hzb : hasK B (keyG ⟨(r, i), f, u, s⟩) = zb at HXB2
      simp only [keyG] at hzb
      rw [hzb] at hlk
      have Hzb := Lib.hid hzb
      clear hzb
      have hAl := (Below.refl w8.heap.size w8).alloc (Nat.le_refl _) (.cells (dgcells r' i' f' u' s') 66)
      have E3 := Lib.hid (E2.out.step hAl)
      have O4 := Lib.hid (O3.out.below hAl)
      have X3 := Lib.hid (heap_new w8 (.cells (dgcells r' i' f' u' s') 66 (0, 0)))
      have K3 := Lib.hid ((hAl.block _ kz).trans K2.out)
      go_upto_region 9 with (fail)
      clear hAl hlk k0 kz E2 O3 K2
      generalize (w8.alloc (.cells (dgcells r' i' f' u' s') 66)) = wC at E3 O4 X3 K3 ⊢
      generalize w8.heap.size = xb at X3 ⊢
      have k0 := cells_at K3.out
      have kz := heap_lt K3.out
      have hlk := HYA.out wC E3.out.bel
      obtain ⟨⟨r2, i2⟩, f2', u2', s2⟩ := ya
      simp only [keyG, dgcell] at hlk
      generalize hza : hasK A ((r, i), (f - 1) / 8) = za at hlk
      have Hza := Lib.hid hza
      clear hza
      have hAl := (Below.refl wC.heap.size wC).alloc (Nat.le_refl _) (.cells (dgcells r2 i2 f2' u2' s2) 66)
      have E4 := Lib.hid (E3.out.step hAl)
      have O5 := Lib.hid (O4.out.below hAl)
      have X4 := Lib.hid ((hAl.block _ (heap_lt X3.out)).trans X3.out)
      go_upto_region 10 with (fail)
      clear hAl hlk k0 kz E3 O4 X3 K3
      generalize (wC.alloc (.cells (dgcells r2 i2 f2' u2' s2) 66)) = w9 at E4 O5 X4 ⊢
      have E3 := E4
      have O := O5
      clear E4 O5
      have e0 := cells_at E3.out.blk
      have ez := heap_lt E3.out.blk
      have d0 := cells_at X4.out
      have dz := heap_lt X4.out
      by_cases hqA : q < A.length
      · have y1 : decide ((A.length : Int) ≤ (q : Int)) = false := decide_eq_false (by omega)
        have y2 : decide ((q : Int) < (A.length : Int)) = true := decide_eq_true (by omega)
        have HQ := Lib.hid (apQ_lo hqA Hg.out)
        cases zb with
        | false =>
          have hs := Lib.hid (sameIn_no (B := B) (g := ⟨(r, i), f, u, s⟩) Hzb.out)
          have hP : Hid (apQ A B (q + 1) = P ++ [⟨(r, i), f, u, s⟩]) := Lib.hid (by rw [HQ.out, if_neg (by rw [hs.out]; simp), ← HP.out])
          have hAl := (Below.refl w9.heap.size w9).alloc (Nat.le_refl _) (.cells (dgcells r i f u s) 66)
          have G0 : Hid (GV (w9.alloc (.cells (dgcells r i f u s) 66)) (some ⟨w9.heap.size, 0, none⟩) 1 [⟨(r, i), f, u, s⟩]) := Lib.hid (gv_one (heap_new _ _))
          have O1 := Lib.hid (O.out.below hAl)
          have Bz := Lib.hid (below2 E3.out.bel hAl E3.out.bel.size)
          have hsz := Bz.out.size
          clear hAl
          go_wp2_with (at_builtin; go_must (refine wpList_appG rfl _ _ rfl w3.heap.size oa oc P rfl O1.out (some ⟨w9.heap.size, 0, none⟩) 1 [⟨(r, i), f, u, s⟩] rfl G0.out (by simp; omega) hsz ?_))
          intro P9 a9 c9 w10 hP9 ho hb _ _
          have HP9 : Hid (P9 = apQ A B (q + 1)) := Lib.hid (by rw [hP9, hP.out])
          have O9 := Lib.hid ho
          have B9 := Lib.hid (Bz.out.trans hb)
          clear hP9 ho hb O1 Bz G0 hP hsz
          go_wp2_with fail
          go_roundw
          case rel => exact ⟨q + 1, P9, a9, c9, by omega, by go_num, rfl, HP9, O9, B9⟩
          case measure => simp [intOf]; omega
        | true =>
          obtain ⟨hx1, hx2⟩ := HXB2.out rfl
          have hs := sameIn_key MB.out.rise hx1 hx2
          dsimp only at hs
          clear hx1 hx2
          by_cases hf : f' = f
          · have b1 : (f' == f) = true := by simp [hf]
            by_cases hu : u' = u
            · have b2 : (u' == u) = true := by simp [hu]
              have Hs := Lib.hid (show sameIn B ⟨(r, i), f, u, s⟩ = true by rw [hs]; simp [hf, hu])
              clear hs hf hu
              have hP : Hid (P = apQ A B (q + 1)) := Lib.hid (by rw [HQ.out, if_pos Hs.out, ← HP.out])
              go_wp2_with fail
              go_roundw
              case rel => exact ⟨q + 1, P, oa, oc, by omega, by go_num, rfl, hP, Lib.hid (O.out), Lib.hid E3.out.bel⟩
              case measure => simp [intOf]; omega
            · have b2 : (u' == u) = false := by simpa using hu
              have Hs := Lib.hid (show sameIn B ⟨(r, i), f, u, s⟩ = false by rw [hs]; simp [hu])
              clear hs hf hu
              have hP : Hid (apQ A B (q + 1) = P ++ [⟨(r, i), f, u, s⟩]) := Lib.hid (by rw [HQ.out, if_neg (by rw [Hs.out]; simp), ← HP.out])
              have hAl := (Below.refl w9.heap.size w9).alloc (Nat.le_refl _) (.cells (dgcells r i f u s) 66)
              have G0 : Hid (GV (w9.alloc (.cells (dgcells r i f u s) 66)) (some ⟨w9.heap.size, 0, none⟩) 1 [⟨(r, i), f, u, s⟩]) := Lib.hid (gv_one (heap_new _ _))
              have O1 := Lib.hid (O.out.below hAl)
              have Bz := Lib.hid (below2 E3.out.bel hAl E3.out.bel.size)
              have hsz := Bz.out.size
              clear hAl
              go_wp2_with (at_builtin; go_must (refine wpList_appG rfl _ _ rfl w3.heap.size oa oc P rfl O1.out (some ⟨w9.heap.size, 0, none⟩) 1 [⟨(r, i), f, u, s⟩] rfl G0.out (by simp; omega) hsz ?_))
              intro P9 a9 c9 w10 hP9 ho hb _ _
              have HP9 : Hid (P9 = apQ A B (q + 1)) := Lib.hid (by rw [hP9, hP.out])
              have O9 := Lib.hid ho
              have B9 := Lib.hid (Bz.out.trans hb)
              clear hP9 ho hb O1 Bz G0 hP hsz
              go_wp2_with fail
              go_roundw
              case rel => exact ⟨q + 1, P9, a9, c9, by omega, by go_num, rfl, HP9, O9, B9⟩
              case measure => simp [intOf]; omega
          · have b1 : (f' == f) = false := by simpa using hf
            have Hs := Lib.hid (show sameIn B ⟨(r, i), f, u, s⟩ = false by rw [hs]; simp [hf])
            clear hs hf
            have hP : Hid (apQ A B (q + 1) = P ++ [⟨(r, i), f, u, s⟩]) := Lib.hid (by rw [HQ.out, if_neg (by rw [Hs.out]; simp), ← HP.out])
            have hAl := (Below.refl w9.heap.size w9).alloc (Nat.le_refl _) (.cells (dgcells r i f u s) 66)
            have G0 : Hid (GV (w9.alloc (.cells (dgcells r i f u s) 66)) (some ⟨w9.heap.size, 0, none⟩) 1 [⟨(r, i), f, u, s⟩]) := Lib.hid (gv_one (heap_new _ _))
            have O1 := Lib.hid (O.out.below hAl)
            have Bz := Lib.hid (below2 E3.out.bel hAl E3.out.bel.size)
            have hsz := Bz.out.size
            clear hAl
            go_wp2_with (at_builtin; go_must (refine wpList_appG rfl _ _ rfl w3.heap.size oa oc P rfl O1.out (some ⟨w9.heap.size, 0, none⟩) 1 [⟨(r, i), f, u, s⟩] rfl G0.out (by simp; omega) hsz ?_))
            intro P9 a9 c9 w10 hP9 ho hb _ _
            have HP9 : Hid (P9 = apQ A B (q + 1)) := Lib.hid (by rw [hP9, hP.out])
            have O9 := Lib.hid ho
            have B9 := Lib.hid (Bz.out.trans hb)
            clear hP9 ho hb O1 Bz G0 hP hsz
            go_wp2_with fail
            go_roundw
            case rel => exact ⟨q + 1, P9, a9, c9, by omega, by go_num, rfl, HP9, O9, B9⟩
            case measure => simp [intOf]; omega
      · have y1 : decide ((A.length : Int) ≤ (q : Int)) = true := decide_eq_true (by omega)
        have y2 : decide ((q : Int) < (A.length : Int)) = false := decide_eq_false (by omega)
        have y3 : ¬ (q : Int) < (A.length : Int) := by omega
        have HQ := Lib.hid (apQ_hi (show A.length ≤ q by omega) Hg.out)
        cases za with
        | true =>
          have hP : Hid (P = apQ A B (q + 1)) := Lib.hid (by rw [HQ.out, if_pos (show hasK A (keyG ⟨(r, i), f, u, s⟩) = true from Hza.out), ← HP.out])
          go_wp2_with fail
          go_roundw
          case rel => exact ⟨q + 1, P, oa, oc, by omega, by go_num, rfl, hP, Lib.hid (O.out), Lib.hid E3.out.bel⟩
          case measure => simp [intOf]; omega
        | false =>
          have hP : Hid (apQ A B (q + 1) = P ++ [⟨(r, i), f, u, s⟩]) := Lib.hid (by rw [HQ.out, if_neg (by rw [show hasK A (keyG ⟨(r, i), f, u, s⟩) = false from Hza.out]; simp), ← HP.out])
          have hAl := (Below.refl w9.heap.size w9).alloc (Nat.le_refl _) (.cells (dgcells r i f u s) 66)
          have G0 : Hid (GV (w9.alloc (.cells (dgcells r i f u s) 66)) (some ⟨w9.heap.size, 0, none⟩) 1 [⟨(r, i), f, u, s⟩]) := Lib.hid (gv_one (heap_new _ _))
          have O1 := Lib.hid (O.out.below hAl)
          have Bz := Lib.hid (below2 E3.out.bel hAl E3.out.bel.size)
          have hsz := Bz.out.size
          clear hAl
          go_wp2_with (at_builtin; go_must (refine wpList_appG rfl _ _ rfl w3.heap.size oa oc P rfl O1.out (some ⟨w9.heap.size, 0, none⟩) 1 [⟨(r, i), f, u, s⟩] rfl G0.out (by simp; omega) hsz ?_))
          intro P9 a9 c9 w10 hP9 ho hb _ _
          have HP9 : Hid (P9 = apQ A B (q + 1)) := Lib.hid (by rw [hP9, hP.out])
          have O9 := Lib.hid ho
          have B9 := Lib.hid (Bz.out.trans hb)
          clear hP9 ho hb O1 Bz G0 hP hsz
          go_wp2_with fail
          go_roundw
          case rel => exact ⟨q + 1, P9, a9, c9, by omega, by go_num, rfl, HP9, O9, B9⟩
          case measure => simp [intOf]; omega
    · have he := Lib.hid (show P = apartL A B by rw [HP.out, show q = (A ++ B).length by rw [List.length_append]; have := HXl.out; omega, apQ_all])
      go_wp2_with fail
      refine (sortG_any oa oc w3.heap.size P wr O.out (by omega)).mono ?_
      rintro e w11 ⟨rfl, P', hlen, hp, ho, hc⟩
      have Hlen := Lib.hid hlen
      have Hp := Lib.hid (show P'.Perm (apartL A B) by rw [← he.out]; exact hp)
      have Ho := Lib.hid ho
      have Hb := Lib.hid (B3.out.trans ((Br.out.trans (hc.below Br.out.size (fun k hk => (owns_lt O.out k hk).1))).mono B3.out.size))
      clear hlen hp ho hc
      go_wp2_with fail
      try rw [Exit.noGoto_ret]
      go_ret
      exact ⟨oa, oc, P', by rw [Hlen.out]; rfl, Hp.out, Ho.out.base B3.out.size, Hb.out⟩
end Go.Proofs.YtaandcblndldmaaGreat
