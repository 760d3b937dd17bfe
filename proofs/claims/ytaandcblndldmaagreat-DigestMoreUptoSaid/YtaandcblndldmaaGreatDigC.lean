/- crc.table, More, Sum: sums are told by plain functions. | digest.Of: the contract. (printed by wip/tools/gendigc.py) -/
import Derived.Test.YtaandcblndldmaaGreatBatC
import Derived.Laws.Tables
import Derived.Laws.Closers25b
import Derived.Test.YtaandcblndldmaaGreatDigB
import Derived.Test.YtaandcblndldmaaGreatBytD
import Derived.Test.YtaandcblndldmaaGreatLwL
/- CrcA -/
namespace Go.Proofs.YtaandcblndldmaaGreat
open Go.RowKit
set_option linter.unusedVariables false
set_option linter.unusedSimpArgs false

def turn1 (c : Int) : Int := bits BinOp.xor IntKind.u32 (c / 2) (bits BinOp.and IntKind.u32 3988292384 (-bits BinOp.and IntKind.u32 c 1 % 4294967296))
def turnN : Nat → Int → Int
  | 0, c => c
  | k + 1, c => turn1 (turnN k c)
set_option maxHeartbeats 1000000 in
theorem turned_any (x : Int) (w : World) : Calls Tryz.prog 167 #[.int .u32 x] w fun e w' => e = .returned (.int .u32 (turnN 8 x)) ∧ Below w.heap.size w w' := by
  go_enter Tryz.func167, Tryz.ntmps167
  go_wp2_with fail
  go_loopw [0, 3] (fun c j wr => ∃ k : Nat, k ≤ 8 ∧ j = .int .i64 k ∧ c = .int .u32 (turnN k x) ∧ Below w.heap.size w wr) (fun c j _ => 8 - (intOf j).toNat)
  case atStart => exact ⟨0, by omega, rfl, rfl, Below.refl _ _⟩
  case round =>
    obtain ⟨k, hk, rfl, rfl, hb⟩ := hrel
    by_cases h8 : k < 8
    · go_wp2_with fail
      go_roundw
      case rel => exact ⟨k + 1, by omega, by go_num, rfl, hb⟩
      case measure => simp [intOf]; omega
    · have : k = 8 := by omega
      subst this
      go_wp2_with fail
      go_ret
      exact ⟨rfl, hb⟩
/-- the table, as far as it is filled -/
def tabV (k : Nat) : Array Value := ((List.range 256).map fun i => Value.int .u32 (if i < k then turnN 8 (i : Int) else 0)).toArray
theorem tabV_size (k : Nat) : (tabV k).size = 256 := by unfold tabV; rw [List.size_toArray, List.length_map, List.length_range]
theorem tabV_at {k i : Nat} (h : i < 256) : (tabV k)[i]? = some (.int .u32 (if i < k then turnN 8 (i : Int) else 0)) := by
  unfold tabV
  rw [List.getElem?_toArray, List.getElem?_map, List.getElem?_range h]
  rfl
set_option maxRecDepth 100000 in
theorem tabV_zero : Tryz.zeroCells160 = tabV 0 := by kernel_rfl
theorem tabV_out {k i : Nat} (h : ¬ i < 256) : (tabV k)[i]? = none := Array.getElem?_eq_none (by rw [tabV_size]; omega)
theorem tabV_set {k : Nat} (h : k < 256) : (tabV k).setIfInBounds k (.int .u32 (turnN 8 (k : Int))) = tabV (k + 1) := by
  apply Array.ext_getElem?
  intro i
  rw [Array.getElem?_setIfInBounds, tabV_size]
  by_cases hi : i < 256
  · rw [tabV_at hi, tabV_at hi]
    by_cases e : k = i
    · subst e
      rw [if_pos rfl, if_pos h, if_pos (by omega)]
    · rw [if_neg e]
      by_cases hlt : i < k
      · rw [if_pos hlt, if_pos (by omega)]
      · rw [if_neg hlt, if_neg (by omega)]
  · rw [tabV_out hi, tabV_out hi, if_neg (by omega)]
structure TabE (w wr : World) (q k : Nat) : Prop where
  blk : wr.heap[q]? = some (.cells (tabV k) 160 (0, 0))
  bel : Below w.heap.size w wr
  low : w.heap.size ≤ q
theorem TabE.below {w wr w' : World} {q k : Nat} (h : TabE w wr q k) (hb : Below wr.heap.size wr w') : TabE w w' q k :=
  ⟨(hb.block _ (heap_lt h.blk)).trans h.blk, below2 h.bel hb h.bel.size, h.low⟩
theorem TabE.set {w wr : World} {q k : Nat} (h : TabE w wr q k) (hk : k < 256) : TabE w (wr.setCell ⟨q, k, none⟩ (.int .u32 (turnN 8 (k : Int)))) q (k + 1) := by
  have hC : Chg [q] wr (wr.setCell ⟨q, k, none⟩ (.int .u32 (turnN 8 (k : Int)))) := (Chg.refl _ _).put _ _ (by simp)
  refine ⟨?_, h.bel.trans (hC.below h.bel.size (by simpa using h.low)), h.low⟩
  rw [Go.heap_setCell_same wr q k _ _ _ h.blk, tabV_set hk]
theorem tabV_one (k : Nat) : (tabV k).all (·.oneCell') = true := by
  rw [Array.all_eq_true_iff_forall_mem]
  intro x hx
  unfold tabV at hx
  rw [List.mem_toArray, List.mem_map] at hx
  obtain ⟨i, _, rfl⟩ := hx
  rfl
theorem below_row {w wr : World} {q : Nat} {cs : Array Value} (h : Below w.heap.size w wr) (hq : w.heap.size ≤ q) : Below w.heap.size w (wr.setRow q cs) :=
  ⟨h.os, h.tape, h.output, by rw [size_setRow]; exact h.size, fun k hk => (setRow_other wr q k cs (by omega)).trans (h.block k hk)⟩
theorem TabE.row {w wr : World} {q k : Nat} (h : TabE w wr q k) : TabE w (wr.setRow q (tabV k)) q k :=
  ⟨setRow_heap wr q _ _ _ _ h.blk, below_row h.bel h.low, h.low⟩
set_option maxRecDepth 10000 in
set_option maxHeartbeats 1000000 in
theorem table_any (w : World) : Calls Tryz.prog 124 #[] w fun e w' => e = .returned (.agg (tabV 256)) ∧ Below w.heap.size w w' := by
  have E0 : Hid (TabE w (w.alloc (.cells Tryz.zeroCells160 160)) w.heap.size 0) := Lib.hid ⟨by rw [← tabV_zero]; exact heap_new _ _, (Below.refl _ _).alloc (Nat.le_refl _) _, Nat.le_refl _⟩
  go_enter Tryz.func124, Tryz.ntmps124
  go_upto_region 1 with (fail)
  generalize (w.alloc (.cells Tryz.zeroCells160 160)) = wa at E0 ⊢
  obtain ⟨q, hq⟩ : ∃ q, q = w.heap.size := ⟨_, rfl⟩
  rw [← hq] at E0 ⊢
  have z0 := heap_lt E0.out.blk
  clear hq
  go_wp2_with fail
  go_loopw [3] (fun j wr => ∃ k : Nat, k ≤ 256 ∧ j = .int .i64 k ∧ Hid (TabE w wr q k)) (fun j _ => 256 - (intOf j).toNat)
  case atStart => exact ⟨0, by omega, rfl, E0⟩
  case round =>
    obtain ⟨k, hk, rfl, E⟩ := hrel
    clear E0 z0
    by_cases h8 : k < 256
    · go_wp2_with fail
      refine (turned_any k wr).mono ?_
      rintro e w1 ⟨rfl, hb⟩
      have E1 := Lib.hid (E.out.below hb)
      clear hb E
      have c0 : w1.cell? ⟨q, k, none⟩ = some (.int .u32 0) := by
        rw [cells_at E1.out.blk, tabV_at h8, if_neg (Nat.lt_irrefl _)]
      have f0 := free_at E1.out.blk k
      have z0 := heap_lt E1.out.blk
      have E2 := Lib.hid (E1.out.set h8)
      go_wp2_with fail
      go_roundw
      case rel => exact ⟨k + 1, by omega, by go_num, E2⟩
      case measure => simp [intOf]; omega
    · have : k = 256 := by omega
      subst this
      have hi : (Tryz.prog.info? 160).map (·.size) = some (tabV 256).size := by rw [tabV_size]; kernel_rfl
      have E1 := Lib.hid E.out.row
      go_wp2_with (first | (refine wpList_load_row rfl _ _ rfl q rfl _ _ _ _ E.out.blk Tryz.underlying160 rfl hi ?_) | (refine wpList_store_row rfl _ _ _ rfl q (tabV 256) rfl rfl _ _ E.out.blk hi rfl (tabV_one _) ?_))
      exact bodyPost_ret (v := .agg (tabV 256)) (results_cell_row rfl _ _ q _ _ _ _ rfl E1.out.blk Tryz.underlying160 rfl hi) rfl ⟨rfl, E1.out.bel⟩
/-- what becomes of a register by a byte -/
def crc1 (c x : Int) : Int := bits BinOp.xor IntKind.u32 (turnN 8 (bits BinOp.xor IntKind.u8 (c % 256) x)) (c / 256)
def crcN (c : Int) : Int := bits BinOp.xor IntKind.u32 IntKind.u32.max c
def crcF (c : Int) (X : List UInt8) : Int := X.foldl (fun c x => crc1 c (x.toNat : Int)) c
def crcM (c : Int) (X : List UInt8) : Int := crcN (crcF (crcN c) X)
theorem crcF_snoc (c : Int) (X : List UInt8) (x : UInt8) : crcF c (X ++ [x]) = crc1 (crcF c X) (x.toNat : Int) := by simp [crcF, List.foldl_append]
set_option maxRecDepth 10000 in
set_option maxHeartbeats 1000000 in
theorem more_any (c : Int) (a : Option Addr) (cap : Nat) (X : List UInt8) (w : World) (h : Sl w 1 a X.length cap (u8s X)) : Calls Tryz.prog 61 #[.int .u32 c, .slice a X.length cap] w fun e w' => e = .returned (.int .u32 (crcM c X)) ∧ Below w.heap.size w w' := by
  have hsg : IntKind.u32.signed = false := rfl
  have H := Lib.hid h
  have b1 := h.2.1
  have b2 := h.2.2.1
  unfold maxLen at b2
  have hi : (Tryz.prog.info? 160).map (·.size) = some (tabV 256).size := by rw [tabV_size]; kernel_rfl
  have Hi := Lib.hid hi
  clear h hi
  go_enter Tryz.func61, Tryz.ntmps61
  go_wp2_with fail
  refine (table_any w).mono ?_
  rintro e w1 ⟨rfl, hb⟩
  have hs := hb.size
  have E1 : Hid (TabE w ((w1.alloc (.cells Tryz.zeroCells160 160)).setRow w1.heap.size (tabV 256)) w1.heap.size 256) := Lib.hid ⟨setRow_heap _ _ _ _ _ _ (heap_new _ _), below_row (hb.alloc hs _) hs, hs⟩
  clear hb
  go_wp2_with (refine wpList_store_row rfl _ _ _ rfl w1.heap.size (tabV 256) rfl rfl _ _ (heap_new _ _) Hi.out (by rw [tabV_zero, tabV_size, tabV_size]) (tabV_one _) ?_)
  generalize ((w1.alloc (.cells Tryz.zeroCells160 160)).setRow w1.heap.size (tabV 256)) = wa at E1 ⊢
  generalize w1.heap.size = q at E1 ⊢
  go_loopw [6, 14] (fun x j wr => ∃ k : Nat, k ≤ X.length ∧ j = .int .i64 k ∧ x = .int .u32 (crcF (crcN c) (X.take k)) ∧ Hid (TabE w wr q 256)) (fun _ j _ => X.length - (intOf j).toNat)
  case atStart => exact ⟨0, Nat.zero_le _, rfl, rfl, E1⟩
  case round =>
    obtain ⟨k, hk, rfl, rfl, E⟩ := hrel
    clear E1
    by_cases hlt : k < X.length
    · obtain ⟨x, hx⟩ : ∃ x, X[k]? = some x := ⟨X[k], by simp [hlt]⟩
      obtain ⟨ad, had, d0⟩ : ∃ ad, a = some ad ∧ wr.cell? (ad.add k) = some (.int .u8 (x.toNat : Int)) := by
        obtain ⟨_, _, _, ⟨_, h0, _⟩ | ⟨ad, rfl, hc⟩⟩ := Sl.below H.out E.out.bel
        · omega
        · exact ⟨ad, rfl, hc k _ (by simp [u8s, hx])⟩
      subst had
      have Hx := Lib.hid (take_snoc' hx)
      clear hx
      generalize hcc : crcF (crcN c) (X.take k) = cc
      have Hcc := Lib.hid hcc
      obtain ⟨m, hm, hm2⟩ : ∃ m : Nat, bits BinOp.xor IntKind.u8 (cc % 256) (x.toNat : Int) = (m : Int) ∧ m < 256 := by
        have h1 := Go.bits_lo_u8 BinOp.xor (cc % 256) (x.toNat : Int)
        have h2 := Go.bits_hi_u8 BinOp.xor (cc % 256) (x.toNat : Int)
        exact ⟨(bits BinOp.xor IntKind.u8 (cc % 256) (x.toNat : Int)).toNat, by omega, by omega⟩
      have c0 : wr.cell? ⟨q, m, none⟩ = some (.int .u32 (turnN 8 (m : Int))) := by
        rw [cells_at E.out.blk, tabV_at hm2, if_pos hm2]
      have z0 := heap_lt E.out.blk
      have Hm := Lib.hid hm
      clear hcc
      go_wp2_with fail
      go_roundw
      case rel => exact ⟨k + 1, by omega, by go_num, by rw [Hx.out, crcF_snoc, Hcc.out, crc1, Hm.out], E⟩
      case measure => simp [intOf]; omega
    · have He := Lib.hid (show crcF (crcN c) (X.take k) = crcF (crcN c) X by rw [List.take_of_length_le (by omega)])
      go_wp2_with fail
      go_ret
      exact ⟨by rw [He.out]; rfl, E.out.bel⟩
set_option maxHeartbeats 1000000 in
theorem sum_any (a : Option Addr) (cap : Nat) (X : List UInt8) (w : World) (h : Sl w 1 a X.length cap (u8s X)) : Calls Tryz.prog 62 #[.slice a X.length cap] w fun e w' => e = .returned (.int .u32 (crcM 0 X)) ∧ Below w.heap.size w w' := by
  go_enter Tryz.func62, Tryz.ntmps62
  go_wp2_with fail
  refine (more_any 0 a cap X w h).mono ?_
  rintro e w1 ⟨rfl, hb⟩
  have HB := Lib.hid hb
  clear hb
  go_wp2_with fail
  go_ret
  exact ⟨rfl, HB.out⟩
end Go.Proofs.YtaandcblndldmaaGreat

/- DigC -/
namespace Go.Proofs.YtaandcblndldmaaGreat
open Go.RowKit
set_option linter.unusedVariables false
set_option linter.unusedSimpArgs false

/-- what becomes of a sum by a commit -/
def moC (s : Int) (c : Cm) : Int := crcM s (cmG c)
structure DgE (w wr : World) (a : Option Addr) (c : Nat) (D : List Dg) : Prop where
  own : OwnG wr w.heap.size a c D
  bel : Below w.heap.size w wr
theorem DgE.below {w wr w' : World} {a : Option Addr} {c : Nat} {D : List Dg} (h : DgE w wr a c D) (hb : Below wr.heap.size wr w') : DgE w w' a c D := ⟨h.own.below hb, below2 h.bel hb h.bel.size⟩
theorem OwnG.ptr {w : World} {base : Nat} {a : Option Addr} {c : Nat} {M : List Dg} (h : OwnG w base a c M) (h0 : 0 < M.length) : ∃ g, a = some ⟨g, 0, none⟩ := by
  rcases h.2 with ⟨h1, h2⟩ | ⟨g, cap, cur, h1, _⟩
  · simp at h1; omega
  · simp at h1; exact ⟨g, h1.1⟩
def OfTo37 (w : World) (L : List Cm) (e : Ending) (w' : World) : Prop :=
  ∃ (a : Option Addr) (c : Nat) (S : List Cm) (D : List Dg), e = .returned (.slice a D.length c) ∧ S.Perm L ∧ S.Pairwise ltK ∧ D = digs moC S ∧ MayDs D ∧ OwnG w' w.heap.size a c D ∧ Below w.heap.size w w'
theorem OwnG.last {w : World} {base gb c : Nat} {D' : List Dg} {g : Dg} (h : OwnG w base (some ⟨gb, 0, none⟩) c (D' ++ [g])) (s v : Int) : OwnG ((w.setCell ⟨gb, D'.length * 5 + 3, none⟩ (.int .u64 s)).setCell ⟨gb, D'.length * 5 + 4, none⟩ (.int .u32 v)) base (some ⟨gb, 0, none⟩) c (D' ++ [⟨g.a, g.fr, s, v⟩]) := by
  have h1 := (World.ownsRow.stored (World.ownsRow.stored h (D'.length * 5 + 3) (.int .u64 s)).1 (D'.length * 5 + 4) (.int .u32 v)).1
  unfold OwnG
  have e1 : (D' ++ [(⟨g.a, g.fr, s, v⟩ : Dg)]).length = (D' ++ [g]).length := by simp
  have e2 : gsC (D' ++ [⟨g.a, g.fr, s, v⟩]) = ((gsC (D' ++ [g])).set (D'.length * 5 + 3) (.int .u64 s)).set (D'.length * 5 + 4) (.int .u32 v) := by
    have hl := gsC_len D'
    rw [gsC_append, gsC_append, List.set_append, if_neg (by omega), List.set_append, if_neg (by omega), hl, show D'.length * 5 + 3 - D'.length * 5 = 3 by omega, show D'.length * 5 + 4 - D'.length * 5 = 4 by omega]
    rfl
  rw [e1, e2]
  exact h1
theorem DgE.last {w wr : World} {gb c : Nat} {D D' : List Dg} {g : Dg} (h : DgE w wr (some ⟨gb, 0, none⟩) c D) (hD : D = D' ++ [g]) (hm : D.length = D'.length + 1) (s v : Int) : DgE w ((wr.setCell ⟨gb, (D.length - 1) * 5 + 3, none⟩ (.int .u64 s)).setCell ⟨gb, (D.length - 1) * 5 + 4, none⟩ (.int .u32 v)) (some ⟨gb, 0, none⟩) c (D' ++ [⟨g.a, g.fr, s, v⟩]) := by
  have hl := (owns_lt h.own gb (by simp [ob])).1
  rw [show D.length - 1 = D'.length by omega]
  refine ⟨OwnG.last (by rw [← hD]; exact h.own) s v, h.bel.trans (Chg.below (F := [gb]) (((Chg.refl [gb] wr).put _ _ (by simp)).put _ _ (by simp)) h.bel.size (fun x hx => by simp at hx; subst hx; exact hl))⟩
theorem DgE.last4 {w wr : World} {gb c : Nat} {D D' : List Dg} {g : Dg} (h : DgE w wr (some ⟨gb, 0, none⟩) c D) (hD : D = D' ++ [g]) (hm : D.length = D'.length + 1) :
    wr.cell? ⟨gb, (D.length - 1) * 5 + 4, none⟩ = some (.int .u32 g.sm) ∧ wr.cell? ⟨gb, (D.length - 1) * 5 + 3, none⟩ = some (.int .u64 g.up) ∧ wr.frozen? ⟨gb, (D.length - 1) * 5 + 3, none⟩ = false ∧ wr.frozen? ⟨gb, (D.length - 1) * 5 + 4, none⟩ = false ∧ gb < wr.heap.size := by
  obtain ⟨ad, had, hg, hz⟩ := h.own.gv.at_ (k := D'.length) (x := g) (by rw [hD]; simp)
  obtain rfl : ad = ⟨gb, 0, none⟩ := (Option.some.inj had).symm
  have hadd : (⟨gb, 0, none⟩ : Addr).add (D'.length * 5) = ⟨gb, (D.length - 1) * 5, none⟩ := by
    rw [show D'.length = D.length - 1 by omega]
    unfold Addr.add
    split <;> simp_all
  have g4 := hg.c4
  have g3 := hg.c3
  rw [hadd] at g4 g3
  exact ⟨g4, g3, World.ownsRow.frozenAt h.own _, World.ownsRow.frozenAt h.own _, hz⟩
theorem sortedK_of {l : List Cw} (hn : ((cms l).map (·.d)).Nodup) (h : l.Pairwise fun x y => lessD y.c.d x.c.d = false) : (cms l).Pairwise ltK := by
  unfold cms
  rw [List.pairwise_map]
  have h2 : l.Pairwise fun x y => x.c.d ≠ y.c.d := by
    have := hn
    unfold cms at this
    rw [List.map_map] at this
    exact List.pairwise_map.1 this
  refine (h.and h2).imp fun {x y} ⟨h1, h3⟩ => ?_
  rcases lessD_total h3 with e | e
  · exact e
  · rw [e] at h1; cases h1
theorem cms_gt37 {l : List Cw} {k : Nat} {u : Cw} (h : l[k]? = some u) : (cms l)[k]? = some u.c := by simp [cms, h]
set_option maxRecDepth 100000 in
set_option maxHeartbeats 8000000 in
theorem of37_G (g : Value) (L : List Cm) (w : World) (h : Coms w g L) : Calls Tryz.prog 20 #[g] w (OfTo37 w L) := by
  have H := Lib.hid h
  clear h
  go_enter Tryz.func20, Tryz.ntmps20
  go_wp2_with fail
  refine (H.out.coms w (Below.refl _ _)).mono ?_
  rintro e w1 ⟨la, lc, S0, rfl, hp, _, ho, hE, hb⟩
  have hl0 : S0.length ≤ 200 := by have h1 := hp.length_eq; have h2 := H.out.max; simp [cms] at h1; omega
  have Ho := Lib.hid ho
  have Hp := Lib.hid hp
  have HE := Lib.hid hE
  have Hb := Lib.hid hb
  clear hp ho hE hb
  go_wp2_with fail
  refine (sortK_any la lc w.heap.size S0 w1 Ho.out (by omega)).mono ?_
  rintro e w2 ⟨rfl, S, hlen, hp, hs, ho, hc⟩
  rw [← hlen] at hl0 ⊢
  have hno : NoRow w1 (ob la) := fun k hk C1 t1 f1 hh => by
    obtain ⟨C2, f2, q2⟩ := ob_row Ho.out k hk
    rw [q2] at hh
    injection hh with hh
    injection hh with _ hh _
    subst hh
    exact ⟨by decide, by decide⟩
  have hP : (cms S).Perm L := (hp.map _).trans Hp.out
  have HS : Hid (∀ v ∈ S, CwAt w2 v ∧ CmP v.c) := Lib.hid fun v hv => ⟨((HE.out v (hp.mem_iff.1 hv)).chg hc hno).at_, H.out.may _ (hP.mem_iff.1 (List.mem_map.2 ⟨v, hv, rfl⟩))⟩
  have hnd : ((cms S).map (·.d)).Nodup := (hP.map _).nodup_iff.2 H.out.nodup
  have HK := Lib.hid (sortedK_of hnd hs)
  have HP := Lib.hid hP
  have Hr := Lib.hid ho
  have HB2 := Lib.hid (Hb.out.trans (hc.below Hb.out.size (fun k hk => (owns_lt Ho.out k hk).1)))
  have HM : Hid (∀ q, MayDs (digs moC ((cms S).take q))) := Lib.hid fun q => digs_may moC (HK.out.sublist (List.take_sublist _ _)) (fun c hc => by
    obtain ⟨v, hv, rfl⟩ := List.mem_map.1 (List.mem_of_mem_take hc)
    exact (HS.out v hv).2.dot) (fun c hc => by
    obtain ⟨v, hv, rfl⟩ := List.mem_map.1 (List.mem_of_mem_take hc)
    exact (HS.out v hv).1.ok.d.1.1.1)
  clear hlen hp hs ho hc hno hP hnd Hp HE Ho Hb
  have E0 : Hid (DgE w2 w2 none 0 []) := Lib.hid ⟨OwnG.nil _ _, Below.refl _ _⟩
  go_wp2_with fail
  go_loopw [2, 15] (fun out j wr => ∃ (q : Nat) (D : List Dg) (a : Option Addr) (c : Nat), q ≤ S.length ∧ j = .int .i64 q ∧ out = .slice a D.length c ∧ Hid (D = digs moC ((cms S).take q)) ∧ Hid (DgE w2 wr a c D)) (fun _ j _ => S.length - (intOf j).toNat)
  case atStart => exact ⟨0, [], none, 0, Nat.zero_le _, rfl, rfl, Lib.hid rfl, E0⟩
  case round =>
    obtain ⟨q, D, a, c, hq, rfl, rfl, HD, E⟩ := hrel
    clear E0
    have hDl : D.length ≤ 200 := by
      have h1 := digs_len moC ((cms S).take q)
      rw [← HD.out] at h1
      simp [cms] at h1
      omega
    by_cases hql : q < S.length
    · obtain ⟨u, hu⟩ : ∃ u, S[q]? = some u := ⟨S[q], by simp [hql]⟩
      obtain ⟨gg, hgg⟩ := Hr.out.ptr (by omega)
      subst hgg
      have Hu := Lib.hid (HS.out u (List.mem_of_getElem? hu))
      have Hstep := Lib.hid (digs_take moC (cms_gt37 hu))
      have hrow := Hr.out.below E.out.bel
      have hseq := (may_iff _).1 Hu.out.2.dot
      obtain ⟨⟨⟨⟨r, i⟩, s⟩, ps, uu, t1, ⟨k, n, x9, p, ds⟩⟩, qa, qc, ua, uc, pa, pc, da, dc⟩ := u
      have c0 := OwnC.range hrow hu 0 _ rfl
      simp only [Nat.add_zero] at c0
      have c1 := OwnC.range hrow hu 1 _ rfl
      have c2 := OwnC.range hrow hu 2 _ rfl
      have c3 := OwnC.range hrow hu 3 _ rfl
      have c4 := OwnC.range hrow hu 4 _ rfl
      have c5 := OwnC.range hrow hu 5 _ rfl
      have c6 := OwnC.range hrow hu 6 _ rfl
      have c7 := OwnC.range hrow hu 7 _ rfl
      have c8 := OwnC.range hrow hu 8 _ rfl
      have c9 := OwnC.range hrow hu 9 _ rfl
      have c10 := OwnC.range hrow hu 10 _ rfl
      dsimp only at c0 c1 c2 c3 c4 c5 c6 c7 c8 c9 c10 hseq
      clear hu hrow
      go_upto_region 6 with (fail)
      clear c0 c1 c2 c3 c4 c5 c6 c7 c8 c9 c10
      have hAl : Below wr.heap.size wr (wr.alloc (.cells (ccells r i s qa ps.length qc ua uu.length uc t1 k pa p.length pc n x9 da ds.length dc) 54)) := (Below.refl _ _).alloc (Nat.le_refl _) _
      have CB := Lib.hid (heap_new wr (.cells (ccells r i s qa ps.length qc ua uu.length uc t1 k pa p.length pc n x9 da ds.length dc) 54 (0, 0)))
      have E1 := Lib.hid (E.out.below hAl)
      clear hAl
      generalize hwB : (wr.alloc (.cells (ccells r i s qa ps.length qc ua uu.length uc t1 k pa p.length pc n x9 da ds.length dc) 54)) = wB at CB E1 ⊢
      clear hwB
      generalize wr.heap.size = pb at CB ⊢
      have e0 := cells_at CB.out
      simp only [ccells] at e0
      have ez := heap_lt CB.out
      go_wp2_with fail
      refine (comBytes_any ⟨⟨⟨⟨r, i⟩, s⟩, ps, uu, t1, ⟨k, n, x9, p, ds⟩⟩, qa, qc, ua, uc, pa, pc, da, dc⟩ wB (Hu.out.1.below E1.out.bel) Hu.out.2).mono ?_
      rintro e w3 ⟨X, xa, xc, hX, rfl, hY, hb⟩
      have HX := Lib.hid hX
      have HY := Lib.hid (Sl.of_owns hY)
      have E3 := Lib.hid (E1.out.below hb)
      replace CB := Lib.hid ((hb.block _ ez).trans CB.out)
      clear hX hY hb e0 ez E1
      have e0 := cells_at CB.out
      simp only [ccells] at e0
      have ez := heap_lt CB.out
      go_upto_region 8 with (fail)
      have hdr : Below w3.heap.size w3 w3.drew := (Below.refl _ _).drew
      have E3d := Lib.hid (E3.out.below hdr)
      have CBd : Hid (w3.drew.heap[pb]? = _) := Lib.hid CB.out
      have HYd : Hid (Sl w3.drew 1 xa X.length xc (u8s X)) := Lib.hid (Sl.below HY.out hdr)
      rcases List.eq_nil_or_concat D with h0 | ⟨D', g, hDg⟩
      · have x0 : decide ((0 : Int) < (D.length : Int)) = false := by rw [h0]; rfl
        have x1 : ¬ 0 < D.length := by rw [h0]; simp
        have x2 : ¬ (0 : Int) < (D.length : Int) := by rw [h0]; simp
        have HD0 := Lib.hid h0
        clear h0
        refine region_text [([0, 1, 2, 3, 4, 5, 6, 7, 8, 9, 10, 11, 12, 13, 14, 16, 17, 18, 19, 20, 21], false), ([15], true), ([22, 23, 24], false)] mixed (by kernel_rfl) ?_
        simp only [wpSegs, List.map_cons, List.map_nil, List.getD_cons_succ, List.getD_cons_zero]
        go_wp2_with fail
        refine And.intro (Agree.refl _) ?_
        go_wp2_with fail
        refine And.intro (by kernel_rfl) ?_
        go_wp2_with fail
        have hdr : Below w3.drew.heap.size w3.drew w3.drew.drew := (Below.refl _ _).drew
        have E6 := Lib.hid (E3d.out.below hdr)
        have CB6 : Hid (w3.drew.drew.heap[pb]? = _) := Lib.hid CBd.out
        have HX6 := Lib.hid (Sl.below HYd.out hdr)
        clear hdr E3d CBd HYd
        have e0 := cells_at CB6.out
        simp only [ccells] at e0
        have ez := heap_lt CB6.out
        go_wp2_with fail
        refine region_text [([0, 1, 2, 3, 4, 5, 6, 7, 8, 9, 10], false), ([11], true), ([12, 13, 14, 15], false)] mixed (by kernel_rfl) ?_
        simp only [wpSegs, List.map_cons, List.map_nil, List.getD_cons_succ, List.getD_cons_zero]
        go_wp2_with fail
        refine (sum_any xa xc X _ HX6.out).mono ?_
        rintro e w7 ⟨rfl, hb⟩
        have F7 := Lib.hid (E6.out.below hb)
        have hAg := Agree.of_below hb
        clear hb E6 CB6 HX6 e0 ez
        go_wp2_with fail
        refine And.intro hAg ?_
        clear hAg
        have G0 : Hid (GV (w7.alloc (.cells (dgcells r i s s (crcM 0 X)) 66)) (some ⟨w7.heap.size, 0, none⟩) 1 [⟨(r, i), s, s, crcM 0 X⟩]) := Lib.hid (gv_one (heap_new _ _))
        have F8 := Lib.hid (F7.out.below ((Below.refl _ _).alloc (Nat.le_refl _) (.cells (dgcells r i s s (crcM 0 X)) 66)))
        have hsz : w2.heap.size ≤ (w7.alloc (.cells (dgcells r i s s (crcM 0 X)) 66)).heap.size := F8.out.bel.size
        go_wp2_with (at_builtin; go_must (refine wpList_appG rfl _ _ rfl w2.heap.size a c D rfl F8.out.own (some ⟨w7.heap.size, 0, none⟩) 1 [⟨(r, i), s, s, crcM 0 X⟩] rfl G0.out (by simp; omega) hsz ?_))
        intro D9 a9 c9 w9 hD9 ho hb _ _
        have F9 : Hid (DgE w2 w9 a9 c9 D9) := Lib.hid ⟨ho, F8.out.bel.trans hb⟩
        have HD9 : Hid (D9 = digs moC ((cms S).take (q + 1))) := Lib.hid (by rw [hD9, Hstep.out, ← HD.out, addDg_new moC (fun g hg => by rw [HD0.out] at hg; cases hg), HX.out]; rfl)
        clear hD9 ho hb F7 F8 G0 hsz
        go_wp2_with fail
        refine And.intro (by kernel_rfl) ?_
        go_wp2_with fail
        go_roundw
        case rel => exact ⟨q + 1, D9, a9, c9, by omega, by go_num, rfl, HD9, F9⟩
        case measure => simp [intOf]; omega

      · have hm : D.length = D'.length + 1 := by rw [hDg]; simp
        obtain ⟨gb, hgb⟩ := E3.out.own.ptr (by omega)
        subst hgb
        have hgm : D[D'.length]? = some g := by rw [hDg]; simp
        obtain ⟨ad, had, hg⟩ := E3.out.own.gv.at_ hgm
        obtain rfl : ad = ⟨gb, 0, none⟩ := (Option.some.inj had).symm
        obtain ⟨⟨g0, g1, g2, g3, g4⟩, hgz⟩ := hg
        have HG := Lib.hid ((HM.out q).each g (by rw [← HD.out, hDg]; simp))
        have hf1 := HG.out.low
        have hf2 := HG.out.ord
        have hf3 := HG.out.top
        have hD0 : 0 < D.length := by omega
        have x0 : decide ((0 : Int) < (D.length : Int)) = true := decide_eq_true (by omega)
        have hadd : (⟨gb, 0, none⟩ : Addr).add (D'.length * 5) = ⟨gb, (D.length - 1) * 5, none⟩ := by
          rw [show D'.length = D.length - 1 by omega]
          unfold Addr.add
          split <;> simp_all
        rw [hadd] at g0 g1 g2 g3 g4
        have Hm := Lib.hid hm
        have HDg := Lib.hid (show D = D' ++ [g] by rw [hDg]; simp)
        clear hm hDg hgm had hadd
        obtain ⟨⟨r', i'⟩, f', u', s'⟩ := g
        dsimp only at g0 g1 g2 g3 g4 hf1 hf2 hf3
        refine region_text [([0, 1, 2, 3, 4, 5, 6, 7, 8, 9, 10, 11, 12, 13, 14, 16, 17, 18, 19, 20, 21], false), ([15], true), ([22, 23, 24], false)] mixed (by kernel_rfl) ?_
        simp only [wpSegs, List.map_cons, List.map_nil, List.getD_cons_succ, List.getD_cons_zero]
        go_wp2_with fail
        refine (of37_any r' i' f' _ hf1 (by omega)).mono ?_
        rintro e w4 ⟨rfl, hb⟩
        have E4 := Lib.hid (E3d.out.below hb)
        have hAg := Agree.of_below hb
        have HX4 := Lib.hid (Sl.below HY.out (below2 hdr hb hdr.size))
        have CB4 := Lib.hid ((hb.block _ ez).trans CBd.out)
        clear hb hdr E3d E3 CB CBd HY e0 ez g0 g1 g2 g3 g4 hgz
        go_wp2_with fail
        refine And.intro hAg ?_
        clear hAg
        go_wp2_with fail
        refine (of37_any r i s _ hseq.2.1 (by omega)).mono ?_
        rintro e w5 ⟨rfl, hb⟩
        have E5 := Lib.hid (E4.out.below hb)
        have HX5 := Lib.hid (Sl.below HX4.out hb)
        have CB5 := Lib.hid ((hb.block _ (heap_lt CB4.out)).trans CB4.out)
        clear hb E4 HX4 CB4
        cases hk : eqD ((r', i'), (f' - 1) / 8) ((r, i), (s - 1) / 8) with
        | true =>
          go_wp2_with fail
          refine And.intro (by kernel_rfl) ?_
          have hdr : Below w5.heap.size w5 w5.drew := (Below.refl _ _).drew
          have E6 := Lib.hid (E5.out.below hdr)
          have HX6 := Lib.hid (Sl.below HX5.out hdr)
          have CB6 : Hid (w5.drew.heap[pb]? = _) := Lib.hid CB5.out
          clear hdr E5 HX5 CB5
          have e0 := cells_at CB6.out
          simp only [ccells] at e0
          have ez := heap_lt CB6.out
          obtain ⟨g4, _⟩ := E6.out.last4 HDg.out Hm.out
          have hKey := Lib.hid ((eqD_iff _ _).1 hk)
          clear hk
          go_wp2_with fail
          refine region_text [([0, 1, 2, 3, 4, 5, 6, 7, 8, 9, 10, 11, 12, 13, 14, 15], false), ([16], true), ([17, 18, 19, 20, 21, 22], false)] mixed (by kernel_rfl) ?_
          simp only [wpSegs, List.map_cons, List.map_nil, List.getD_cons_succ, List.getD_cons_zero]
          go_wp2_with fail
          refine (more_any s' xa xc X _ HX6.out).mono ?_
          rintro e w7 ⟨rfl, hb⟩
          have F7 := Lib.hid (E6.out.below hb)
          have hAg := Agree.of_below hb
          clear hb E6 HX6 CB6 e0 ez g4
          go_wp2_with fail
          refine And.intro hAg ?_
          clear hAg
          obtain ⟨g4, g3, f3, f4, z4⟩ := F7.out.last4 HDg.out Hm.out
          have F8 := Lib.hid (F7.out.last HDg.out Hm.out s (crcM s' X))
          go_wp2_with fail
          refine And.intro (by kernel_rfl) ?_
          go_wp2_with fail
          have hlen : D.length = (D' ++ [(⟨(r', i'), f', s, crcM s' X⟩ : Dg)]).length := by rw [HDg.out]; simp
          have HD9 : Hid (D' ++ [(⟨(r', i'), f', s, crcM s' X⟩ : Dg)] = digs moC ((cms S).take (q + 1))) := Lib.hid (by rw [Hstep.out, ← HD.out, HDg.out, addDg_old moC (g := ⟨(r', i'), f', u', s'⟩) (c := ⟨((r, i), s), ps, uu, t1, ⟨k, n, x9, p, ds⟩⟩) hKey.out, HX.out]; rfl)
          have Hlen := Lib.hid hlen
          clear hlen
          go_roundw
          case rel => exact ⟨q + 1, _, some ⟨gb, 0, none⟩, c, by omega, by go_num, by rw [Hlen.out], HD9, F8⟩
          case measure => simp [intOf]; omega
        | false =>
          have hKey := Lib.hid (show ¬ ((r', i'), (f' - 1) / 8) = ((r, i), (s - 1) / 8) from fun h => by rw [(eqD_iff _ _).2 h] at hk; cases hk)
          go_wp2_with fail
          refine And.intro (by kernel_rfl) ?_
          have hdr : Below w5.heap.size w5 w5.drew := (Below.refl _ _).drew
          have E6 := Lib.hid (E5.out.below hdr)
          have CB6 : Hid (w5.drew.heap[pb]? = _) := Lib.hid CB5.out
          have HX6 := Lib.hid (Sl.below HX5.out hdr)
          clear hdr E5 CB5 HX5
          have e0 := cells_at CB6.out
          simp only [ccells] at e0
          have ez := heap_lt CB6.out
          go_wp2_with fail
          refine region_text [([0, 1, 2, 3, 4, 5, 6, 7, 8, 9, 10], false), ([11], true), ([12, 13, 14, 15], false)] mixed (by kernel_rfl) ?_
          simp only [wpSegs, List.map_cons, List.map_nil, List.getD_cons_succ, List.getD_cons_zero]
          go_wp2_with fail
          refine (sum_any xa xc X _ HX6.out).mono ?_
          rintro e w7 ⟨rfl, hb⟩
          have F7 := Lib.hid (E6.out.below hb)
          have hAg := Agree.of_below hb
          clear hb E6 CB6 HX6 e0 ez
          go_wp2_with fail
          refine And.intro hAg ?_
          clear hAg
          have G0 : Hid (GV (w7.alloc (.cells (dgcells r i s s (crcM 0 X)) 66)) (some ⟨w7.heap.size, 0, none⟩) 1 [⟨(r, i), s, s, crcM 0 X⟩]) := Lib.hid (gv_one (heap_new _ _))
          have F8 := Lib.hid (F7.out.below ((Below.refl _ _).alloc (Nat.le_refl _) (.cells (dgcells r i s s (crcM 0 X)) 66)))
          have hsz : w2.heap.size ≤ (w7.alloc (.cells (dgcells r i s s (crcM 0 X)) 66)).heap.size := F8.out.bel.size
          go_wp2_with (at_builtin; go_must (refine wpList_appG rfl _ _ rfl w2.heap.size (some ⟨gb, 0, none⟩) c D rfl F8.out.own (some ⟨w7.heap.size, 0, none⟩) 1 [⟨(r, i), s, s, crcM 0 X⟩] rfl G0.out (by simp; omega) hsz ?_))
          intro D9 a9 c9 w9 hD9 ho hb _ _
          have F9 : Hid (DgE w2 w9 a9 c9 D9) := Lib.hid ⟨ho, F8.out.bel.trans hb⟩
          have HD9 : Hid (D9 = digs moC ((cms S).take (q + 1))) := Lib.hid (by rw [hD9, Hstep.out, ← HD.out, addDg_new moC (fun g hg => by rw [HDg.out] at hg; simp at hg; subst hg; exact hKey.out), HX.out]; rfl)
          clear hD9 ho hb F7 F8 G0 hsz
          go_wp2_with fail
          refine And.intro (by kernel_rfl) ?_
          go_wp2_with fail
          go_roundw
          case rel => exact ⟨q + 1, D9, a9, c9, by omega, by go_num, rfl, HD9, F9⟩
          case measure => simp [intOf]; omega

    · have hqq := Lib.hid (show (cms S).take q = cms S by rw [List.take_of_length_le (by simp [cms]; omega)])
      go_wp2_with fail
      go_ret
      exact ⟨a, c, cms S, D, rfl, HP.out, HK.out, by rw [HD.out, hqq.out], by rw [HD.out]; exact HM.out q, E.out.own.base HB2.out.size, HB2.out.trans (E.out.bel.mono HB2.out.size)⟩
end Go.Proofs.YtaandcblndldmaaGreat
