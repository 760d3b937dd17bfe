/- audit.Salvage's closure: it keeps the places of what is gone. | audit.Salvage: the contract. varvelaw36.great once more. | varveref17.WithinIncs, SameIncs (as in EpoF, alone). | What is saved, and lost, plainly; audit.Lost; varveref23.SameSnap of alike snapshots. | varveref23.SameSnap of alike snapshots. | varvelaw36.AuditSaves: the walk. -/
import Derived.Test.YtaandcblndldmaaGreatLwC
import Derived.Test.YtaandcblndldmaaGreatWitA
import Derived.Test.YtaandcblndldmaaGreatRgE
import Derived.Test.YtaandcblndldmaaGreatSamB
import Derived.Test.YtaandcblndldmaaGreatMatB
import Derived.Test.YtaandcblndldmaaGreatFilP
import Derived.Test.YtaandcblndldmaaGreatGraV
/- AudH -/
namespace Go.Proofs.YtaandcblndldmaaGreat
open Go.RowKit
set_option linter.unusedVariables false
set_option linter.unusedSimpArgs false

/-- whole numbers in memory of one's own -/
def ncells (l : List Int) : List Value := l.map fun x => .int .i64 x
theorem ncells_append (l m : List Int) : ncells (l ++ m) = ncells l ++ ncells m := List.map_append
theorem ncells_one : ∀ l : List Int, ∀ u ∈ ncells l, u.oneCell' = true := by
  intro l u hu
  obtain ⟨x, _, rfl⟩ := List.mem_map.1 hu
  rfl
theorem Tryz.info_int : (Tryz.prog.info? 3).map (fun i => (i.zero, i.size, i.bytes)) = some (some (.int .i64 0), 1, 8) := by kernel_rfl
def OwnNs (w : World) (base : Nat) (a : Option Addr) (c : Nat) (v : List Int) : Prop := w.ownsRow base 3 1 (.slice a v.length c) v.length (ncells v)
def NsV (w : World) (a : Option Addr) (c : Nat) (v : List Int) : Prop := Sl w 1 a v.length c (ncells v)
theorem OwnNs.nil (w : World) (base : Nat) : OwnNs w base none 0 [] := World.ownsRow_nil _ _ _ _
theorem OwnNs.below {w w' : World} {base : Nat} {a : Option Addr} {c : Nat} {v : List Int} (h : OwnNs w base a c v) (hb : Below w.heap.size w w') : OwnNs w' base a c v := owns_chg (F := []) h (Chg.of_below hb) (by simp)
theorem nsv_one {w : World} {b : Nat} {x : Int} (h : w.heap[b]? = some (.cells #[.int .i64 x] 3 (0, 0))) : NsV w (some ⟨b, 0, none⟩) 1 [x] :=
  Sl.blk (C := #[.int .i64 x]) h rfl (by simp [maxLen])
theorem OwnNs.ptr {w : World} {base : Nat} {a : Option Addr} {c : Nat} {M : List Int} (h : OwnNs w base a c M) (h0 : 0 < M.length) : ∃ g, a = some ⟨g, 0, none⟩ := by
  rcases h.2 with ⟨h1, h2⟩ | ⟨g, cap, cur, h1, _⟩
  · simp at h1; omega
  · simp at h1; exact ⟨g, h1.1⟩
theorem OwnNs.at {w : World} {base : Nat} {a : Option Addr} {c : Nat} {M : List Int} (h : OwnNs w base a c M) {i : Nat} {x : Int} (hx : M[i]? = some x) : ∃ g, a = some ⟨g, 0, none⟩ ∧ w.cell? ⟨g, i, none⟩ = some (.int .i64 x) ∧ g < w.heap.size := by
  have hi := (List.getElem?_eq_some_iff.1 hx).1
  obtain ⟨g, rfl⟩ := h.ptr (by omega)
  refine ⟨g, rfl, ?_, (owns_lt h g (by simp [ob])).2⟩
  rw [World.ownsRow.cellAt (g := g) h i (by omega)]
  unfold ncells
  rw [List.getElem?_map, hx]
  rfl
section
variable {w : World} {ops : Array Oper} {rest : List Oper} {o : Oper} {a : Act} {Q : Exit → Act → World → Prop}
theorem wpList_appNs (hgd : o.guard = none) (s x : Operand) (ho : o.op = .call { callee := .builtin .append, args := #[s, x], argTypes := #[78, 78] })
    (base : Nat) (va : Option Addr) (vc : Nat) (v : List Int) (hs : a.eval s = .slice va v.length vc) (hown : OwnNs w base va vc v)
    (sa : Option Addr) (c : Nat) (u : List Int) (hx : a.eval x = .slice sa u.length c) (hsl : NsV w sa c u) (hn : v.length + u.length ≤ 3000000) (hbase : base ≤ w.heap.size)
    (h : ∀ v' a' c' w', v' = v ++ u → OwnNs w' base a' c' v' → Below base w w' → Chg (ob va) w w' → (∀ k ∈ ob a', k ∈ ob va ∨ w.heap.size ≤ k) → wpList Tryz.prog ops Q rest (a.put o.dst (.slice a' v'.length c')) w') : wpList Tryz.prog ops Q (o :: rest) a w := by
  obtain ⟨i0, hi0, hz0, hz1, hz2⟩ := info_parts Tryz.info_int
  refine wpList_append_sl hgd s x 78 ho base 3 i0 (.int .i64 0) 1 8 Tryz.underlying78 hi0 hz0 hz1 hz2 rfl (by decide) va v.length vc (ncells v) hs hown sa u.length c (ncells u) hx hsl (ncells_one u) (by unfold maxLen; omega) (by omega) hbase fun a' c' w' h1 h2 h3 => ?_
  have := h (v ++ u) a' c' w' rfl (by unfold OwnNs; rw [ncells_append, List.length_append]; exact h1) (h2.below hbase fun k hk => (owns_lt hown k hk).1) h2 h3
  rwa [List.length_append] at this
end
/-- of what is told: the places of what is gone -/
def goneI (l : List Fw) : List Int := (l.filter fun x => x.2 != 16).map (·.1)
theorem goneI_snoc (l : List Fw) (i e : Int) : goneI (l ++ [(i, e)]) = if e = 16 then goneI l else goneI l ++ [i] := by
  unfold goneI
  rw [List.filter_append, List.map_append]
  by_cases h : e = 16
  · rw [if_pos h]; simp [h]
  · rw [if_neg h]; simp [h]
theorem goneI_len (l : List Fw) : (goneI l).length ≤ l.length := by unfold goneI; rw [List.length_map]; exact List.length_filter_le _ _
theorem insE_ne16 {F : List Dt} {fd : Fd} {n : Nat} {c : Cm} : insE F fd n c ≠ 16 := by
  unfold insE
  split
  · decide
  · split
    · decide
    · split
      · decide
      · split
        · decide
        · split <;> decide
theorem goneI_auF (F : List Dt) (cs : List Cm) : goneI (flw (auF F cs).fl) = (auF F cs).gone.map fun (k : Nat) => (k : Int) := by
  induction cs using snoc_rec with
  | h0 => rfl
  | h1 cs c ih =>
    rw [auF_snoc]
    by_cases hz : insE F (findC (auF F cs).L) (auF F cs).L.length c = 0
    · cases hb : auBad (auF F cs).last c with
      | true =>
        rw [(auS_bad hz hb).2, goneI_snoc, if_pos rfl, ih]
        try (unfold auStep; rw [if_pos hz])
      | false =>
        rw [(auS_ok hz hb).2, ih]
        try (unfold auStep; rw [if_pos hz])
    · rw [(auS_ne hz).2, goneI_snoc, if_neg insE_ne16, ih]
      unfold auStep; rw [if_neg hz]; simp
/-- what Salvage's closure keeps -/
def InvG (pb base : Nat) (K0 : List Nat) (N : Nat) (W : World) (l : List Fw) : Prop :=
  ∃ (a : Option Addr) (c : Nat), W.heap[pb]? = some (.cells #[.slice a (goneI l).length c] 78 (0, 0)) ∧ OwnNs W base a c (goneI l) ∧ ∀ k ∈ ob a, k ∈ K0 ∨ N ≤ k
theorem ob_int {w : World} {base : Nat} {a : Option Addr} {c : Nat} {l : List Int} (h : OwnNs w base a c l) {k : Nat} (hk : k ∈ ob a) : ∃ C fr, w.heap[k]? = some (.cells C 3 fr) := ob_row h k hk
theorem int_ne {w : World} {base : Nat} {a : Option Addr} {c : Nat} {l : List Int} (h : OwnNs w base a c l) {pb : Nat} {C : Array Value} {fr : Nat × Nat} (hb : w.heap[pb]? = some (.cells C 78 fr)) : pb ∉ ob a := fun hm => by
  obtain ⟨C1, f1, h1⟩ := ob_int h hm
  rw [hb] at h1
  injection h1 with h1
  injection h1 with _ h1 _
  exact absurd h1 (by decide)
set_option maxRecDepth 100000 in
set_option maxHeartbeats 4000000 in
theorem salv1_any (pb base : Nat) (K0 : List Nat) (hpb : pb ∈ K0) (N : Nat) (W : World) (l : List Fw) (i e : Int) (hI : InvG pb base K0 N W l) (hN : N ≤ W.heap.size) (hb0 : base ≤ W.heap.size) (hl : l.length ≤ 2000000) :
    Calls Tryz.prog 33 #[.int .i64 i, .int .i64 e, .pointer (some ⟨pb, 0, none⟩)] W (fun en W' => en = .returned (.tuple #[]) ∧ InvG pb base K0 N W' (l ++ [(i, e)]) ∧ ∃ F, Chg F W W' ∧ TellB W F ∧ ∀ k ∈ F, k ∈ K0 ∨ N ≤ k) := by
  by_cases he : e = 16
  · have y1 : (e != 16) = false := by rw [he]; rfl
    have HI := Lib.hid (show InvG pb base K0 N W (l ++ [(i, e)]) by unfold InvG; rw [goneI_snoc, if_pos he]; exact hI)
    clear hI
    go_enter Tryz.func33, Tryz.ntmps33
    go_wp2_with fail
    go_end0
    exact ⟨rfl, HI.out, [], Chg.refl _ _, fun k hk => (by cases hk), fun k hk => (by cases hk)⟩
  have y1 : (e != 16) = true := by rw [bne_iff_ne]; exact he
  have hgl := goneI_len l
  obtain ⟨a, c, hblk, hown, hob⟩ := hI
  have HG := Lib.hid (show goneI (l ++ [(i, e)]) = goneI l ++ [i] by rw [goneI_snoc, if_neg he])
  generalize goneI l = G at *
  have HB := Lib.hid hblk
  have HO := Lib.hid hown
  have Hob := Lib.hid hob
  have d0 := cells_at hblk
  have z0 := heap_lt hblk
  have hA := Lib.hid (show Below W.heap.size W (W.alloc (.cells #[.int .i64 i] 3)) from (Below.refl _ _).alloc (Nat.le_refl _) _)
  clear hblk hown hob
  go_enter Tryz.func33, Tryz.ntmps33
  go_wp2_with (at_builtin; go_must (refine wpList_appNs rfl _ _ rfl base a c G rfl ?o1 (some ⟨W.heap.size, 0, none⟩) 1 [i] rfl (nsv_one (heap_new _ _)) ?n1 ?b1 ?_))
  case o1 => exact HO.out.below hA.out
  case n1 => simp; omega
  case b1 => simp; omega
  intro v' a' c' w' hv ho hb hc hn
  have hx := int_ne (HO.out.below hA.out) ((hA.out.block _ z0).trans HB.out)
  have HB2 := Lib.hid (heap_chg ((hA.out.block _ z0).trans HB.out) hc hx)
  have Hv := Lib.hid hv
  have Ho := Lib.hid ho
  have Hc := Lib.hid hc
  have Hn := Lib.hid hn
  clear hv ho hb hc hn hx d0 z0
  have d0 := cells_at HB2.out
  have f0 := free_at HB2.out
  have z0 := heap_lt HB2.out
  go_wp2_with fail
  have hne : pb ∉ ob a' := int_ne Ho.out HB2.out
  have hfin : InvG pb base K0 N (w'.setCell ⟨pb, 0, none⟩ (.slice a' v'.length c')) (l ++ [(i, e)]) := by
    unfold InvG
    rw [HG.out, ← Hv.out]
    refine ⟨a', c', heap_setCell1 HB2.out, owns_chg Ho.out (Chg.setCell w' ⟨pb, 0, none⟩ _) (fun k hk hm => by simp at hm; subst hm; exact hne hk), fun k hk => ?_⟩
    rcases Hn.out k hk with h1 | h1
    · exact Hob.out k h1
    · have := hA.out.size
      exact .inr (by omega)
  have hcf : Chg (pb :: ob a) W (w'.setCell ⟨pb, 0, none⟩ (.slice a' v'.length c')) := by
    have h1 : Chg (pb :: ob a) W w' := (Chg.of_below hA.out).trans Hc.out (fun x hx _ => List.mem_cons_of_mem _ hx)
    exact h1.trans (Chg.setCell w' ⟨pb, 0, none⟩ _) (fun x hx _ => by simp at hx; subst hx; simp)
  have htb : TellB W (pb :: ob a) := fun k hk => by
    rcases List.mem_cons.1 hk with rfl | hk
    · exact ⟨_, _, _, HB.out, .inr (.inr (.inl rfl))⟩
    · obtain ⟨C1, f1, h1⟩ := ob_int HO.out hk
      exact ⟨C1, _, f1, h1, .inr (.inr (.inr rfl))⟩
  go_end0
  exact ⟨rfl, hfin, pb :: ob a, hcf, htb, fun k hk => by
    rcases List.mem_cons.1 hk with rfl | hk
    · exact .inl hpb
    · exact Hob.out k hk⟩
theorem tellG (pb base : Nat) (K0 : List Nat) (hpb : pb ∈ K0) (B : Nat) (hb : base ≤ B) (hK : ∀ k ∈ K0, k < B) : TellS 33 #[.pointer (some ⟨pb, 0, none⟩)] K0 B (InvG pb base K0) where
  enters := enters_of Tryz.func33 (by kernel_rfl) rfl
  low := hK
  chg := fun N W W' l G hI hc hG => by
    obtain ⟨a, c, h1, h2, h3⟩ := hI
    exact ⟨a, c, heap_chg h1 hc (fun hm => hG pb hm _ _ _ h1 (.inr (.inr (.inl rfl)))), owns_chg h2 hc (fun k hk hm => by
      obtain ⟨C1, f1, hh⟩ := ob_int h2 hk
      exact hG k hm _ _ _ hh (.inr (.inr (.inr rfl)))), h3⟩
  tell := fun N W l i e hI hN hB hl => salv1_any pb base K0 hpb N W l i e hI hN (by omega) hl
set_option maxRecDepth 100000 in
theorem lost1_any (N : Nat) (W : World) (i e : Int) : Calls Tryz.prog 46 #[.int .i64 i, .int .i64 e] W (fun en W' => en = .returned (.tuple #[]) ∧ W' = W) := by
  go_enter Tryz.func46, Tryz.ntmps46
  go_wp2_with fail
  go_end0
  exact ⟨rfl, rfl⟩
theorem tellN (B : Nat) : TellS 46 #[] [] B (fun _ _ _ => True) where
  enters := enters_of Tryz.func46 (by kernel_rfl) rfl
  low := fun k hk => (by cases hk)
  chg := fun N W W' l G hI hc hG => trivial
  tell := fun N W l i e hI hN hB hl => (lost1_any N W i e).mono fun en W' ⟨h1, h2⟩ => by subst h2; exact ⟨h1, trivial, [], Chg.refl _ _, fun k hk => (by cases hk), fun k hk => (by cases hk)⟩
end Go.Proofs.YtaandcblndldmaaGreat

/- AudI -/
namespace Go.Proofs.YtaandcblndldmaaGreat
open Go.RowKit
set_option linter.unusedVariables false
set_option linter.unnecessarySimpa false
set_option linter.unusedSimpArgs false

def FewB (w : World) (v : Sw) (e : Ending) (w' : World) : Prop := ∃ z : Bool, e = .returned (.bool z) ∧ (z = false → v.l.length ≤ 20) ∧ Below w.heap.size w w'
set_option maxRecDepth 100000 in
set_option maxHeartbeats 4000000 in
theorem great36F_any (v : Sw) (m : Nat) (w : World) (h : SwAt w m v) : Calls Tryz.prog 6 #[.agg (swcells v)] w (FewB w v) := by
  have H := Lib.hid h
  have n5 := h.cms.sl.2.1
  have n6 := h.cms.sl.2.2.1
  unfold maxLen at n6
  have B0 : Hid (BoxE 35 w (w.alloc (.cells (swcells v) 35)) (swcells v)) := Lib.hid ⟨heap_new _ _, (Below.refl _ _).alloc (Nat.le_refl _) _⟩
  clear h
  go_enter Tryz.func6, Tryz.ntmps6
  go_upto_region 1 with (fail)
  generalize (w.alloc (.cells (swcells v) 35)) = wa at B0 ⊢
  have d0 := cells_at B0.out.blk
  simp only [swcells, sncells] at d0
  have z0 := heap_lt B0.out.blk
  go_wp2_with fail
  refine (great23_any v m _ (H.out.below B0.out.bel)).mono ?_
  rintro e w1 ⟨z, rfl, hb⟩
  have B1 := Lib.hid (B0.out.step hb)
  clear hb d0 z0
  have d0 := cells_at B1.out.blk
  simp only [swcells, sncells] at d0
  have z0 := heap_lt B1.out.blk
  cases z
  case true =>
    go_wp2_with fail
    go_ret
    exact ⟨true, rfl, fun h => (by cases h), B1.out.bel⟩
  case false =>
    by_cases h20 : 20 < v.l.length
    · have y1 : decide ((20 : Int) < (v.l.length : Int)) = true := decide_eq_true (by omega)
      go_wp2_with fail
      go_ret
      exact ⟨true, rfl, fun h => (by cases h), B1.out.bel⟩
    · have y1 : decide ((20 : Int) < (v.l.length : Int)) = false := decide_eq_false (by omega)
      go_wp2_with fail
      go_ret
      exact ⟨false, rfl, fun _ => by omega, B1.out.bel⟩
/-- a snapshot in rows of one's own -/
structure SwOwn (w : World) (base : Nat) (x : Sw) : Prop where
  inc : w.ownsRow base 22 1 (.slice x.ia x.incs.length x.ic) x.incs.length (ucells x.incs)
  b : OwnB w base x.b
  row : OwnC w base x.la x.lc x.l
  each : ∀ u ∈ x.l, CwOwn w base u
theorem SwOwn.below {w w' : World} {base : Nat} {x : Sw} (h : SwOwn w base x) (hb : Below w.heap.size w w') : SwOwn w' base x :=
  ⟨owns_chg (F := []) h.inc (Chg.of_below hb) (by simp), h.b.chg (F := []) (Chg.of_below hb) (fun k hk => by cases hk), h.row.below hb, fun u hu => (h.each u hu).below hb⟩
theorem SwOwn.chg {w w' : World} {base b2 : Nat} {x : Sw} {F : List Nat} (h : SwOwn w base x) (hc : Chg F w w') (hF : ∀ k ∈ F, k < base) (hN : NoRow w F) (hb : b2 ≤ base) : SwOwn w' b2 x := by
  have hd : ∀ {e : TypeId} {size : Nat} {a : Option Addr} {n c m : Nat} {xs : List Value}, w.ownsRow base e size (.slice a n c) m xs → ∀ k ∈ ob a, k ∉ F := fun hr k hk hm => by have := (owns_lt hr k hk).1; have := hF k hm; omega
  have hB := h.b.chg hc hF
  exact ⟨owns_base (owns_chg h.inc hc (hd h.inc)) hb, ⟨hB.f.base hb, hB.tips.base hb, hB.tr.base hb⟩, OwnC.base (owns_chg h.row hc (hd h.row)) hb, fun u hu => ((h.each u hu).chg hc hN).base hb⟩
/-- what is saved of a snapshot, and what is not -/
structure SalvP (v x : Sw) (R : List Cw) : Prop where
  k : x.k = v.k
  ip : x.ip = v.ip
  incs : x.incs = v.incs
  base : SameBw v.b.b x.b.b
  perm : (cms x.l).Perm (auF v.b.b.f (cms v.l)).L
  sorted : SortedC (cms x.l)
  gone : cms R = (auF v.b.b.f (cms v.l)).gone.filterMap fun k => (cms v.l)[k]?
abbrev zero9 : Array Value := #[.int .u8 0, .int .u32 0, .slice none 0 0, .int .u64 0, .slice none 0 0, .slice none 0 0, .int .u64 0, .slice none 0 0, .slice none 0 0]
def SalvTo (w : World) (v : Sw) (e : Ending) (w' : World) : Prop :=
  (∃ code : Int, e = .returned (.tuple #[.agg zero9, .slice none 0 0, .int .i64 code]) ∧ ((whoB v = false ∧ code = 2) ∨ (whoB v = true ∧ ¬ BaseP v.b.b ∧ code = 4)) ∧ Below w.heap.size w w') ∨
  (whoB v = true ∧ BaseP v.b.b ∧ ∃ (x : Sw) (ga : Option Addr) (gc : Nat) (R : List Cw), e = .returned (.tuple #[.agg (swcells x), .slice ga (List.length R) gc, .int .i64 0]) ∧ SalvP v x R ∧ SwOwn w' w.heap.size x ∧ OwnC w' w.heap.size ga gc R ∧ (∀ u ∈ R, CwOwn w' w.heap.size u) ∧ Below w.heap.size w w')
theorem headL_code {x y : Bool} {L : List Fw} (h : L = headL x y) (hne : ¬ (x = true ∧ y = true)) : 0 < L.length ∧ ∃ code : Int, (fcells L)[1]? = some (.int .i64 code) ∧ ((x = false ∧ code = 2) ∨ (x = true ∧ y = false ∧ code = 4)) := by
  subst h
  cases x with
  | false => exact ⟨by cases y <;> decide, 2, by cases y <;> rfl, .inl ⟨rfl, rfl⟩⟩
  | true =>
    cases y with
    | false => exact ⟨by decide, 4, rfl, .inr ⟨rfl, rfl, rfl⟩⟩
    | true => exact absurd ⟨rfl, rfl⟩ hne
/-- facts that are carried through the making of what is saved -/
structure SvL (w wr : World) (v : Sw) (pb : Nat) (a2 : Option Addr) (c2 : Nat) (G : List Int) (pg mb : Nat) (w0 : World) (b : Bw) (L : List Cw) (va : Option Addr) (vc : Nat) (vv : List Dt) : Prop where
  box : wr.heap[w.heap.size]? = some (.cells (swcells v) 35 (0, 0))
  res : wr.heap[w.heap.size + 1]? = some (.cells zero9 35 (0, 0))
  cell : wr.heap[pb]? = some (.cells #[.slice a2 G.length c2] 78 (0, 0))
  nums : OwnNs wr w.heap.size a2 c2 G
  gr : GrAt wr pg mb w0 3 b L va vc vv
  bel : Below w.heap.size w wr
theorem SvL.below {w wr w' : World} {v : Sw} {pb : Nat} {a2 : Option Addr} {c2 : Nat} {G : List Int} {pg mb : Nat} {w0 : World} {b : Bw} {L : List Cw} {va : Option Addr} {vc : Nat} {vv : List Dt} (h : SvL w wr v pb a2 c2 G pg mb w0 b L va vc vv) (hb : Below wr.heap.size wr w') : SvL w w' v pb a2 c2 G pg mb w0 b L va vc vv :=
  ⟨(hb.block _ (heap_lt h.box)).trans h.box, (hb.block _ (heap_lt h.res)).trans h.res, (hb.block _ (heap_lt h.cell)).trans h.cell, h.nums.below hb, h.gr.below hb, below2 h.bel hb h.bel.size⟩
/-- what is saved lies at p8 -/
structure SvE (w wr : World) (v : Sw) (pb : Nat) (a2 : Option Addr) (c2 : Nat) (G : List Int) (p8 : Nat) (x : Sw) : Prop where
  box : wr.heap[w.heap.size]? = some (.cells (swcells v) 35 (0, 0))
  res : wr.heap[w.heap.size + 1]? = some (.cells zero9 35 (0, 0))
  cell : wr.heap[pb]? = some (.cells #[.slice a2 G.length c2] 78 (0, 0))
  nums : OwnNs wr w.heap.size a2 c2 G
  out : wr.heap[p8]? = some (.cells (swcells x) 35 (0, 0))
  own : SwOwn wr (w.heap.size + 2) x
  bel : Below w.heap.size w wr
theorem SvE.below {w wr w' : World} {v : Sw} {pb : Nat} {a2 : Option Addr} {c2 : Nat} {G : List Int} {p8 : Nat} {x : Sw} (h : SvE w wr v pb a2 c2 G p8 x) (hb : Below wr.heap.size wr w') : SvE w w' v pb a2 c2 G p8 x :=
  ⟨(hb.block _ (heap_lt h.box)).trans h.box, (hb.block _ (heap_lt h.res)).trans h.res, (hb.block _ (heap_lt h.cell)).trans h.cell, h.nums.below hb, (hb.block _ (heap_lt h.out)).trans h.out, h.own.below hb, below2 h.bel hb h.bel.size⟩
theorem set9 {w : World} {p : Nat} {C : Array Value} {t : TypeId} (h : w.heap[p]? = some (.cells C t (0, 0))) (hC : C.size = 9) (a0 a1 a2 a3 a4 a5 a6 a7 a8 : Value) :
    (((((((((w.setCell ⟨p, 0, none⟩ a0).setCell ⟨p, 1, none⟩ a1).setCell ⟨p, 2, none⟩ a2).setCell ⟨p, 3, none⟩ a3).setCell ⟨p, 4, none⟩ a4).setCell ⟨p, 5, none⟩ a5).setCell ⟨p, 6, none⟩ a6).setCell ⟨p, 7, none⟩ a7).setCell ⟨p, 8, none⟩ a8).heap[p]? = some (.cells #[a0, a1, a2, a3, a4, a5, a6, a7, a8] t (0, 0)) ∧
    Chg [p] w (((((((((w.setCell ⟨p, 0, none⟩ a0).setCell ⟨p, 1, none⟩ a1).setCell ⟨p, 2, none⟩ a2).setCell ⟨p, 3, none⟩ a3).setCell ⟨p, 4, none⟩ a4).setCell ⟨p, 5, none⟩ a5).setCell ⟨p, 6, none⟩ a6).setCell ⟨p, 7, none⟩ a7).setCell ⟨p, 8, none⟩ a8) := by
  constructor
  · obtain ⟨l⟩ := C
    match l, hC with
    | [b0, b1, b2, b3, b4, b5, b6, b7, b8], _ =>
      have h0 := heap_setC h 0 a0
      generalize w.setCell ⟨p, 0, none⟩ a0 = w0 at h0 ⊢
      have h1 := heap_setC h0 1 a1
      generalize w0.setCell ⟨p, 1, none⟩ a1 = w1 at h1 ⊢
      have h2 := heap_setC h1 2 a2
      generalize w1.setCell ⟨p, 2, none⟩ a2 = w2 at h2 ⊢
      have h3 := heap_setC h2 3 a3
      generalize w2.setCell ⟨p, 3, none⟩ a3 = w3 at h3 ⊢
      have h4 := heap_setC h3 4 a4
      generalize w3.setCell ⟨p, 4, none⟩ a4 = w4 at h4 ⊢
      have h5 := heap_setC h4 5 a5
      generalize w4.setCell ⟨p, 5, none⟩ a5 = w5 at h5 ⊢
      have h6 := heap_setC h5 6 a6
      generalize w5.setCell ⟨p, 6, none⟩ a6 = w6 at h6 ⊢
      have h7 := heap_setC h6 7 a7
      generalize w6.setCell ⟨p, 7, none⟩ a7 = w7 at h7 ⊢
      have h8 := heap_setC h7 8 a8
      generalize w7.setCell ⟨p, 8, none⟩ a8 = w8 at h8 ⊢
      simpa using h8
  · exact (((((((((Chg.refl _ _).put _ _ (by simp)).put _ _ (by simp)).put _ _ (by simp)).put _ _ (by simp)).put _ _ (by simp)).put _ _ (by simp)).put _ _ (by simp)).put _ _ (by simp)).put _ _ (by simp)

set_option maxRecDepth 100000 in
set_option maxHeartbeats 16000000 in
theorem salvage_any (v : Sw) (m : Nat) (w : World) (h : SwAt w m v) (hN : SwN v) (hfew : v.l.length ≤ 20) : Calls Tryz.prog 8 #[.agg (swcells v)] w (SalvTo w v) := by
  have H := Lib.hid h
  have HN := Lib.hid hN
  have m0 := h.cms.sl.2.1
  have m1 := h.cms.sl.2.2.1
  unfold maxLen at m1
  have n1 := hN.incs
  have E0 : Hid (((w.alloc (.cells (swcells v) 35)).alloc (.cells zero9 35)).heap[w.heap.size]? = some (.cells (swcells v) 35 (0, 0)) ∧ ((w.alloc (.cells (swcells v) 35)).alloc (.cells zero9 35)).heap[w.heap.size + 1]? = some (.cells zero9 35 (0, 0)) ∧ Below w.heap.size w ((w.alloc (.cells (swcells v) 35)).alloc (.cells zero9 35))) := Lib.hid ⟨(heap_old _ _ (by simp)).trans (heap_new _ _), heap_new2 _ _ _, ((Below.refl _ _).alloc (Nat.le_refl _) _).alloc (by simp) _⟩
  clear h hN
  go_enter Tryz.func8, Tryz.ntmps8
  go_upto_region 1 with (fail)
  generalize ((w.alloc (.cells (swcells v) 35)).alloc (.cells zero9 35)) = wa at E0 ⊢
  have d0 := cells_at E0.out.1
  have z0 := heap_lt E0.out.1
  have z1 := heap_lt E0.out.2.1
  simp only [swcells, sncells] at d0
  go_wp2_with fail
  refine (headA_any v m _ (H.out.below E0.out.2.2) HN.out).mono ?_
  rintro e w1 ⟨a, c, q, L, rfl, hL, hq, ho, hb⟩
  have X1 := Lib.hid ((hb.block _ z0).trans E0.out.1)
  have Y1 := Lib.hid ((hb.block _ z1).trans E0.out.2.1)
  have B1 := Lib.hid (below2 E0.out.2.2 hb E0.out.2.2.size)
  have HL := Lib.hid hL
  have Hq := Lib.hid hq
  have Ho := Lib.hid ho
  have hw1 := hb.size
  clear hb hL hq ho d0 z0 z1
  by_cases hok : ¬ (whoB v = true ∧ q = true)
  · obtain ⟨hlen, code, hcode, hwhy⟩ := headL_code HL.out hok
    obtain ⟨g, rfl⟩ := Ho.out.ptr hlen
    have hc1 : w1.cell? ⟨g, 1, none⟩ = some (.int .i64 code) := by rw [World.ownsRow.cellAt (g := g) Ho.out 1 (by omega)]; exact hcode
    have y1 : decide ((0 : Int) < (L.length : Int)) = true := decide_eq_true (by omega)
    have hg := owns_lt Ho.out g (by simp [ob])
    obtain ⟨Cg, fg, hgb⟩ := ob_flaw Ho.out (k := g) (by simp [ob])
    have d1 := cells_at Y1.out
    have f1 := free_at Y1.out
    have z1 := heap_lt Y1.out
    have hgne : g ≠ w.heap.size + 1 := fun e => by
      rw [e, Y1.out] at hgb
      injection hgb with hgb
      injection hgb with _ hgb _
      exact absurd hgb (by decide)
    have Hhy := Lib.hid hwhy
    have hS9 := Lib.hid (set9 Y1.out rfl (.int .u8 0) (.int .u32 0) (.slice none 0 0) (.int .u64 0) (.slice none 0 0) (.slice none 0 0) (.int .u64 0) (.slice none 0 0) (.slice none 0 0))
    have Hgb := Lib.hid hgb
    clear hwhy hcode hgb HL
    go_wp2_with fail
    refine region_tree_at (fun k => k = g) (sgOf [([0, 1, 2, 3, 4], false), ([5], true), ([6, 7], false)]) mixed (by kernel_rfl) ?_
    simp only [sgOf, wpSgB, List.map_cons, List.map_nil, List.getD_cons_succ, List.getD_cons_zero]
    go_wp2_with fail
    have h9 := hS9.out
    clear hS9
    generalize (((((((((w1.setCell ⟨w.heap.size + 1, 0, none⟩ (.int .u8 0)).setCell ⟨w.heap.size + 1, 1, none⟩ (.int .u32 0)).setCell ⟨w.heap.size + 1, 2, none⟩ (.slice none 0 0)).setCell ⟨w.heap.size + 1, 3, none⟩ (.int .u64 0)).setCell ⟨w.heap.size + 1, 4, none⟩ (.slice none 0 0)).setCell ⟨w.heap.size + 1, 5, none⟩ (.slice none 0 0)).setCell ⟨w.heap.size + 1, 6, none⟩ (.int .u64 0)).setCell ⟨w.heap.size + 1, 7, none⟩ (.slice none 0 0)).setCell ⟨w.heap.size + 1, 8, none⟩ (.slice none 0 0)) = w2 at h9 ⊢
    obtain ⟨h9, h9c⟩ := h9
    have hh := heap_chg Hgb.out h9c (by simpa using hgne)
    have hHe : Held (fun k => k = g) w1.drew w2.drew := held_new (show w1.drew.heap[g]? = _ from Hgb.out) (show w2.drew.heap[g]? = _ from hh)
    have B2 := Lib.hid (show Below w.heap.size w w2.drew from (B1.out.trans (h9c.below B1.out.size (by simp))).drew)
    refine And.intro hHe ?_
    clear hHe hc1 d1 f1 z1 hh
    go_wp2_with fail
    refine And.intro (And.intro (by kernel_rfl) (reads_of ?rds)) ?_
    case rds => exact ⟨trivial, trivial, trivial, trivial, rfl, trivial, trivial, trivial, trivial⟩
    go_wp2_with fail
    have d2 := cells_at (show w2.drew.heap[w.heap.size + 1]? = _ from h9)
    have hwhy2 : (whoB v = false ∧ code = 2) ∨ (whoB v = true ∧ ¬ BaseP v.b.b ∧ code = 4) := by
      rcases Hhy.out with ⟨e1, e2⟩ | ⟨e1, e2, e3⟩
      · exact .inl ⟨e1, e2⟩
      · refine .inr ⟨e1, fun hb => ?_, e3⟩
        have := Hq.out.2 hb
        rw [e2] at this; cases this
    exact bodyPost_ret (v := .tuple #[.agg zero9, .slice none 0 0, .int .i64 code]) (by simp [results, Tryz.results8, go_sem, d2]; try rfl) rfl (.inl ⟨code, rfl, hwhy2, B2.out⟩)
  obtain ⟨hwho, hqt⟩ : whoB v = true ∧ q = true := Classical.not_not.1 hok
  clear hok
  have HW := Lib.hid hwho
  have HP := Lib.hid (Hq.out.1 hqt)
  obtain rfl : L = [] := by rw [HL.out, hwho, hqt]; rfl
  clear HL Hq hwho hqt Ho
  have d0 := cells_at X1.out
  have z0 := heap_lt X1.out
  simp only [swcells, sncells] at d0
  go_upto_region 5 with (fail)
  clear d0 z0
  have hA : Below w1.heap.size w1 (w1.alloc (.cells #[.slice none 0 0] 78)) := (Below.refl _ _).alloc (Nat.le_refl _) _
  have hn1 : (w1.alloc (.cells #[.slice none 0 0] 78)).heap[w1.heap.size]? = some (.cells #[.slice none 0 0] 78 (0, 0)) := heap_new _ _
  have X2 := Lib.hid ((hA.block _ (heap_lt X1.out)).trans X1.out)
  have Y2 := Lib.hid ((hA.block _ (heap_lt Y1.out)).trans Y1.out)
  have B2 := Lib.hid (below2 B1.out hA B1.out.size)
  have Hn1 := Lib.hid hn1
  have hpl := heap_lt hn1
  have hpy : w.heap.size + 1 < w1.heap.size := heap_lt Y1.out
  clear hA hn1 X1 Y1 B1 hw1 E0
  generalize (w1.alloc (.cells #[.slice none 0 0] 78)) = w2 at X2 Y2 B2 Hn1 hpl ⊢
  generalize w1.heap.size = pb at Hn1 hpl hpy ⊢
  have d0 := cells_at X2.out
  have z0 := heap_lt X2.out
  simp only [swcells, sncells] at d0
  go_wp2_with fail
  refine (insertA_any v m w _ 33 #[.pointer (some ⟨pb, 0, none⟩)] [pb] (InvG pb w.heap.size [pb]) [] H.out B2.out HN.out (tellG pb w.heap.size [pb] (by simp) _ B2.out.size (fun k hk => by simp at hk; omega)) (fun k hk => by simp at hk; omega) (fun N => ⟨none, 0, Hn1.out, OwnNs.nil _ _, fun k hk => (by simp [ob] at hk)⟩) (by simp)).mono ?_
  intro e w3 hto
  rcases hto with ⟨hnb, _, _, _⟩ | ⟨_, pg, mb, w0, b, L2, va, vc, vv, rfl, hs, hG, hold, hcms, hi, hc, hhist⟩
  · exact absurd HP.out hnb
  obtain ⟨a2, c2, h1, h2, _⟩ := hi
  have hgn : goneI ([] ++ flw (auF v.b.b.f (cms v.l)).fl) = (auF v.b.b.f (cms v.l)).gone.map fun (k : Nat) => (k : Int) := goneI_auF _ _
  rw [hgn] at h1 h2
  have HS := Lib.hid hs
  have Hcm := Lib.hid hcms
  have HTr := Lib.hid (BdA.same HN.out.tr hs.tr)
  have SL : Hid (SvL w w3 v pb a2 c2 ((auF v.b.b.f (cms v.l)).gone.map fun (k : Nat) => (k : Int)) pg mb w0 b L2 va vc vv) := Lib.hid ⟨heap_chg X2.out hc (by simp; omega), heap_chg Y2.out hc (by simp; omega), h1, h2, hG, B2.out.trans (hc.below B2.out.size (fun k hk => by simp at hk; omega))⟩
  clear h1 h2 hgn hs hcms hG hc X2 Y2 B2 Hn1 hpl d0 z0 hold
  have Hgl := Lib.hid (show ∀ k ∈ (auF v.b.b.f (cms v.l)).gone, k < v.l.length from fun k hk => by have := (auF_P v.b.b.f (cms v.l)).each k hk; simpa [cms] using this)
  have hgn20 : (auF v.b.b.f (cms v.l)).gone.length ≤ 20 := by
    have h1 := (auF_P v.b.b.f (cms v.l)).len
    have h2 : (cms v.l).length = v.l.length := by simp [cms]
    omega
  have Hgn := Lib.hid hgn20
  clear hgn20
  generalize hgq : (auF v.b.b.f (cms v.l)).gone = Gn at SL Hgl Hgn
  have Hgq := Lib.hid hgq
  clear hgq
  generalize hG9 : (Gn.map fun (k : Nat) => (k : Int)) = G at SL
  have HG9 := Lib.hid hG9
  clear hG9
  have d0 := cells_at SL.out.box
  have z0 := heap_lt SL.out.box
  simp only [swcells, sncells] at d0
  have SD := Lib.hid (SL.out.below ((Below.refl w3.heap.size w3).drew))
  have hb3 := SL.out.bel.size
  go_wp2_with fail
  refine region_tree (.seg [0, 1, 2, 3, 5, 7] false (.fork (.seg [4] true (.fork (.seg [6] true (.fork (.seg [8] true (.seg [9, 10, 11] false .done)) (.seg [10] false (.seg [8] true (.seg [9, 11] false .done))))) (.seg [10] false (.seg [6] true (.seg [8] true (.seg [9, 11] false .done)))))) (.seg [10] false (.seg [4] true (.seg [6] true (.seg [8] true (.seg [9, 11] false .done))))))) mixed (by kernel_rfl) ?_
  simp only [wpSg, List.map_cons, List.map_nil, List.getD_cons_succ, List.getD_cons_zero]
  go_wp2_with fail
  have S3 := SD
  clear SD SL d0 z0
  refine And.intro ?L0 ?L1
  case' L0 =>
    go_wp2_with fail
    refine (clone_any v.ia v.ic v.incs _ (H.out.inc.below S3.out.bel) n1).mono ?_
    rintro e w4 ⟨ia', ic', rfl, hi, hb⟩
    have I4 := Lib.hid (owns_base hi (show w.heap.size + 2 ≤ _ from heap_lt S3.out.res))
    have S4 := Lib.hid (S3.out.below hb)
    have hAg := Agree.of_below hb
    clear hb hi
    go_wp2_with fail
    refine And.intro hAg ?_
    clear hAg
    refine And.intro ?L00 ?L01
    case' L00 =>
      go_wp2_with fail
      refine (base_G pg mb w0 3 b L2 va vc vv _ S4.out.gr S4.out.gr.base.tr HTr.out).mono ?_
      rintro e w5 ⟨⟨⟨num', F', tips', t', tr'⟩, fa', fc', ta', tc', ra', rc'⟩, rfl, hsb, hob, hb⟩
      have hs2 : w.heap.size + 2 ≤ _ := heap_lt S4.out.res
      have O5 := Lib.hid (show OwnB w5 (w.heap.size + 2) _ from ⟨hob.f.base hs2, hob.tips.base hs2, hob.tr.base hs2⟩)
      have Hsb := Lib.hid hsb
      have S5 := Lib.hid (S4.out.below hb)
      have I5 := Lib.hid (owns_chg (F := []) I4.out (Chg.of_below hb) (by simp))
      have hAg := Agree.of_below hb
      clear hb hsb hob
      go_wp2_with fail
      refine And.intro hAg ?_
      clear hAg
      refine And.intro ?L000 ?L001
      case' L000 =>
        go_wp2_with fail
        refine (commits_G pg mb w0 3 b L2 va vc vv _ S5.out.gr).mono ?_
        rintro e w6 ⟨la', lc', ss, rfl, hp, hso, ho, hcw, hb⟩
        have HPm := Lib.hid hp
        have HSo := Lib.hid hso
        have hs3 : w.heap.size + 2 ≤ _ := heap_lt S5.out.res
        have Hrow := Lib.hid (OwnC.base ho hs3)
        have Heach := Lib.hid (fun u hu => (hcw u hu).base hs3)
        have S6 := Lib.hid (S5.out.below hb)
        have I6 := Lib.hid (owns_chg (F := []) I5.out (Chg.of_below hb) (by simp))
        have O6 := Lib.hid (O5.out.chg (F := []) (Chg.of_below hb) (fun k hk => by cases hk))
        have hAg := Agree.of_below hb
        clear hb hp hso ho hcw
        go_wp2_with fail
        refine And.intro hAg ?_
        clear hAg
        simp only [bwcells]
        go_wp2_with fail
        refine And.intro (by kernel_rfl) ?_
        have hAq : Below w6.heap.size w6 (w6.alloc (.cells #[.int .u8 v.k, .int .u32 v.ip, .slice ia' v.incs.length ic', .int .u64 num', .slice fa' F'.length fc', .slice ta' tips'.length tc', .int .u64 t', .slice ra' tr'.length rc', .slice la' ss.length lc'] 35)) := (Below.refl _ _).alloc (Nat.le_refl _) _
        have hnq : (w6.alloc (.cells #[.int .u8 v.k, .int .u32 v.ip, .slice ia' v.incs.length ic', .int .u64 num', .slice fa' F'.length fc', .slice ta' tips'.length tc', .int .u64 t', .slice ra' tr'.length rc', .slice la' ss.length lc'] 35)).heap[w6.heap.size]? = some (.cells #[.int .u8 v.k, .int .u32 v.ip, .slice ia' v.incs.length ic', .int .u64 num', .slice fa' F'.length fc', .slice ta' tips'.length tc', .int .u64 t', .slice ra' tr'.length rc', .slice la' ss.length lc'] 35 (0, 0)) := heap_new _ _
        have hpz : w.heap.size + 1 < w6.heap.size := heap_lt S6.out.res
        generalize (w6.alloc (.cells #[.int .u8 v.k, .int .u32 v.ip, .slice ia' v.incs.length ic', .int .u64 num', .slice fa' F'.length fc', .slice ta' tips'.length tc', .int .u64 t', .slice ra' tr'.length rc', .slice la' ss.length lc'] 35)) = wq at hAq hnq ⊢
        have SE : Hid (SvE w wq v pb a2 c2 G w6.heap.size (⟨v.k, v.ip, ia', ic', v.incs, ⟨⟨num', F', tips', t', tr'⟩, fa', fc', ta', tc', ra', rc'⟩, la', lc', ss⟩ : Sw)) := Lib.hid (by
          have SS := S6.out.below hAq
          exact ⟨SS.box, SS.res, SS.cell, SS.nums, hnq, SwOwn.below ⟨I6.out, O6.out, Hrow.out, Heach.out⟩ hAq, SS.bel⟩)
        generalize w6.heap.size = p8 at SE hpz ⊢
      case' L001 =>
        have hAl5a : Below w5.heap.size w5 (w5.alloc (.cells zero9 35)) := (Below.refl _ _).alloc (Nat.le_refl _) _
        have S5a := Lib.hid (S5.out.below hAl5a)
        have I5a := Lib.hid (owns_chg (F := []) I5.out (Chg.of_below hAl5a) (by simp))
        have O5a := Lib.hid (O5.out.chg (F := []) (Chg.of_below hAl5a) (fun k hk => by cases hk))
        have Bz5a := Lib.hid hAl5a
        have Z5a : Hid ((w5.alloc (.cells zero9 35)).heap[w5.heap.size]? = some (.cells zero9 35 (0, 0))) := Lib.hid (heap_new _ _)
        go_wp2_with fail
        refine (commits_G pg mb w0 3 b L2 va vc vv _ S5a.out.gr).mono ?_
        rintro e w7 ⟨la', lc', ss, rfl, hp, hso, ho, hcw, hb⟩
        have HPm := Lib.hid hp
        have HSo := Lib.hid hso
        have hs3 : w.heap.size + 2 ≤ _ := heap_lt S5a.out.res
        have Hrow := Lib.hid (OwnC.base ho hs3)
        have Heach := Lib.hid (fun u hu => (hcw u hu).base hs3)
        have S7 := Lib.hid (S5a.out.below hb)
        have I7 := Lib.hid (owns_chg (F := []) I5a.out (Chg.of_below hb) (by simp))
        have O7 := Lib.hid (O5a.out.chg (F := []) (Chg.of_below hb) (fun k hk => by cases hk))
        have Bz7 := Lib.hid (below2 Bz5a.out hb Bz5a.out.size)
        have Z7 := Lib.hid ((hb.block _ (heap_lt Z5a.out)).trans Z5a.out)
        have hAg := Agree.of_below hb
        clear hb hp hso ho hcw
        go_wp2_with fail
        refine And.intro hAg ?_
        clear hAg
        have e0 := cells_at Z7.out
        have f0 := free_at Z7.out
        have zz := heap_lt Z7.out
        have hpz : w.heap.size + 1 < w5.heap.size := heap_lt S5.out.res
        have h9 := set9 Z7.out rfl (.int .u8 v.k) (.int .u32 v.ip) (.slice ia' v.incs.length ic') (.int .u64 num') (.slice fa' F'.length fc') (.slice ta' tips'.length tc') (.int .u64 t') (.slice ra' tr'.length rc') (.slice la' ss.length lc')
        have H9 := Lib.hid h9
        clear h9
        simp only [bwcells]
        go_wp2_with fail
        refine And.intro (by kernel_rfl) ?_
        clear e0 f0 zz
        have h9 := H9.out
        clear H9
        generalize (((((((((w7.setCell ⟨w5.heap.size, 0, none⟩ (.int .u8 v.k)).setCell ⟨w5.heap.size, 1, none⟩ (.int .u32 v.ip)).setCell ⟨w5.heap.size, 2, none⟩ (.slice ia' v.incs.length ic')).setCell ⟨w5.heap.size, 3, none⟩ (.int .u64 num')).setCell ⟨w5.heap.size, 4, none⟩ (.slice fa' F'.length fc')).setCell ⟨w5.heap.size, 5, none⟩ (.slice ta' tips'.length tc')).setCell ⟨w5.heap.size, 6, none⟩ (.int .u64 t')).setCell ⟨w5.heap.size, 7, none⟩ (.slice ra' tr'.length rc')).setCell ⟨w5.heap.size, 8, none⟩ (.slice la' ss.length lc')) = wq at h9 ⊢
        obtain ⟨h9, h9c⟩ := h9
        have hne : ∀ {k : Nat} {C : Array Value} {t : TypeId} {fr : Nat × Nat}, w7.heap[k]? = some (.cells C t fr) → t ≠ 35 → k ∉ [w5.heap.size] := fun {k C t fr} hk ht hm => by
          rw [List.mem_singleton] at hm
          subst hm
          rw [Z7.out] at hk
          injection hk with hk
          injection hk with _ hk _
          exact ht hk.symm
        have SE : Hid (SvE w wq v pb a2 c2 G w5.heap.size (⟨v.k, v.ip, ia', ic', v.incs, ⟨⟨num', F', tips', t', tr'⟩, fa', fc', ta', tc', ra', rc'⟩, la', lc', ss⟩ : Sw)) := Lib.hid (by
          have SS := S7.out
          have hrow : ∀ {base : Nat} {e : TypeId} {size : Nat} {a : Option Addr} {n c k : Nat} {xs : List Value}, w7.ownsRow base e size (.slice a n c) k xs → e ≠ 35 → wq.ownsRow base e size (.slice a n c) k xs := fun {base e size a n c k xs} hr ht => owns_chg hr h9c (fun q hq => by
            obtain ⟨C1, f1, hh⟩ := ob_row hr q hq
            exact hne hh ht)
          exact ⟨(h9c.block _ (heap_lt SS.box) (by simp; omega)).trans SS.box, (h9c.block _ (heap_lt SS.res) (by simp; omega)).trans SS.res, heap_chg SS.cell h9c (hne SS.cell (by decide)), hrow SS.nums (by decide), h9, ⟨hrow I7.out (by decide), O5.out.chg (F := []) (Chg.of_below (Bz7.out.trans (h9c.below Bz7.out.size (by simp)))) (fun k hk => by cases hk), hrow Hrow.out (by decide), fun u hu => (Heach.out u hu).chg h9c (fun q hq C1 t1 f1 hh => by
            rw [List.mem_singleton] at hq
            subst hq
            rw [Z7.out] at hh
            injection hh with hh
            injection hh with _ hh _
            subst hh
            exact ⟨by decide, by decide⟩)⟩, SS.bel.trans (h9c.below SS.bel.size (by simp; omega))⟩)
        generalize w5.heap.size = p8 at SE hpz ⊢
    case' L01 =>
      have hAl4a : Below w4.heap.size w4 (w4.alloc (.cells zero9 35)) := (Below.refl _ _).alloc (Nat.le_refl _) _
      have S4a := Lib.hid (S4.out.below hAl4a)
      have I4a := Lib.hid (owns_chg (F := []) I4.out (Chg.of_below hAl4a) (by simp))
      have Bz4a := Lib.hid hAl4a
      have Z4a : Hid ((w4.alloc (.cells zero9 35)).heap[w4.heap.size]? = some (.cells zero9 35 (0, 0))) := Lib.hid (heap_new _ _)
      go_wp2_with fail
      refine (base_G pg mb w0 3 b L2 va vc vv _ S4a.out.gr S4a.out.gr.base.tr HTr.out).mono ?_
      rintro e w8 ⟨⟨⟨num', F', tips', t', tr'⟩, fa', fc', ta', tc', ra', rc'⟩, rfl, hsb, hob, hb⟩
      have hs2 : w.heap.size + 2 ≤ _ := heap_lt S4a.out.res
      have O8 := Lib.hid (show OwnB w8 (w.heap.size + 2) _ from ⟨hob.f.base hs2, hob.tips.base hs2, hob.tr.base hs2⟩)
      have Hsb := Lib.hid hsb
      have hzb := heap_lt Z4a.out
      have OS8 := Lib.hid hob
      have hzs : w.heap.size + 2 ≤ _ := heap_lt S4a.out.res
      have S8 := Lib.hid (S4a.out.below hb)
      have I8 := Lib.hid (owns_chg (F := []) I4a.out (Chg.of_below hb) (by simp))
      have Bz8 := Lib.hid (below2 Bz4a.out hb Bz4a.out.size)
      have Z8 := Lib.hid ((hb.block _ (heap_lt Z4a.out)).trans Z4a.out)
      have hAg := Agree.of_below hb
      clear hb hsb hob
      go_wp2_with fail
      refine And.intro hAg ?_
      clear hAg
      go_wp2_with fail
      refine (commits_G pg mb w0 3 b L2 va vc vv _ S8.out.gr).mono ?_
      rintro e w9 ⟨la', lc', ss, rfl, hp, hso, ho, hcw, hb⟩
      have HPm := Lib.hid hp
      have HSo := Lib.hid hso
      have hs3 : w.heap.size + 2 ≤ _ := heap_lt S8.out.res
      have Hrow := Lib.hid (OwnC.base ho hs3)
      have Heach := Lib.hid (fun u hu => (hcw u hu).base hs3)
      have S9 := Lib.hid (S8.out.below hb)
      have I9 := Lib.hid (owns_chg (F := []) I8.out (Chg.of_below hb) (by simp))
      have OS9 := Lib.hid (OS8.out.chg (F := []) (Chg.of_below hb) (fun k hk => by cases hk))
      have O9 := Lib.hid (O8.out.chg (F := []) (Chg.of_below hb) (fun k hk => by cases hk))
      have Bz9 := Lib.hid (below2 Bz8.out hb Bz8.out.size)
      have Z9 := Lib.hid ((hb.block _ (heap_lt Z8.out)).trans Z8.out)
      have hAg := Agree.of_below hb
      clear hb hp hso ho hcw
      go_wp2_with fail
      refine And.intro hAg ?_
      clear hAg
      have e0 := cells_at Z9.out
      have f0 := free_at Z9.out
      have zz := heap_lt Z9.out
      have hpz : w.heap.size + 1 < w4.heap.size := heap_lt S4.out.res
      have h9 := set9 Z9.out rfl (.int .u8 v.k) (.int .u32 v.ip) (.slice ia' v.incs.length ic') (.int .u64 num') (.slice fa' F'.length fc') (.slice ta' tips'.length tc') (.int .u64 t') (.slice ra' tr'.length rc') (.slice la' ss.length lc')
      have H9 := Lib.hid h9
      clear h9
      simp only [bwcells]
      go_wp2_with fail
      refine And.intro (by kernel_rfl) ?_
      clear e0 f0 zz
      have h9 := H9.out
      clear H9
      generalize (((((((((w9.setCell ⟨w4.heap.size, 0, none⟩ (.int .u8 v.k)).setCell ⟨w4.heap.size, 1, none⟩ (.int .u32 v.ip)).setCell ⟨w4.heap.size, 2, none⟩ (.slice ia' v.incs.length ic')).setCell ⟨w4.heap.size, 3, none⟩ (.int .u64 num')).setCell ⟨w4.heap.size, 4, none⟩ (.slice fa' F'.length fc')).setCell ⟨w4.heap.size, 5, none⟩ (.slice ta' tips'.length tc')).setCell ⟨w4.heap.size, 6, none⟩ (.int .u64 t')).setCell ⟨w4.heap.size, 7, none⟩ (.slice ra' tr'.length rc')).setCell ⟨w4.heap.size, 8, none⟩ (.slice la' ss.length lc')) = wq at h9 ⊢
      obtain ⟨h9, h9c⟩ := h9
      have hne : ∀ {k : Nat} {C : Array Value} {t : TypeId} {fr : Nat × Nat}, w9.heap[k]? = some (.cells C t fr) → t ≠ 35 → k ∉ [w4.heap.size] := fun {k C t fr} hk ht hm => by
        rw [List.mem_singleton] at hm
        subst hm
        rw [Z9.out] at hk
        injection hk with hk
        injection hk with _ hk _
        exact ht hk.symm
      have SE : Hid (SvE w wq v pb a2 c2 G w4.heap.size (⟨v.k, v.ip, ia', ic', v.incs, ⟨⟨num', F', tips', t', tr'⟩, fa', fc', ta', tc', ra', rc'⟩, la', lc', ss⟩ : Sw)) := Lib.hid (by
        have SS := S9.out
        have hrow : ∀ {base : Nat} {e : TypeId} {size : Nat} {a : Option Addr} {n c k : Nat} {xs : List Value}, w9.ownsRow base e size (.slice a n c) k xs → e ≠ 35 → wq.ownsRow base e size (.slice a n c) k xs := fun {base e size a n c k xs} hr ht => owns_chg hr h9c (fun q hq => by
          obtain ⟨C1, f1, hh⟩ := ob_row hr q hq
          exact hne hh ht)
        exact ⟨(h9c.block _ (heap_lt SS.box) (by simp; omega)).trans SS.box, (h9c.block _ (heap_lt SS.res) (by simp; omega)).trans SS.res, heap_chg SS.cell h9c (hne SS.cell (by decide)), hrow SS.nums (by decide), h9, ⟨hrow I9.out (by decide), ⟨(OS9.out.chg h9c (fun k hk => by rw [List.mem_singleton] at hk; subst hk; first | exact hzb | simp)).f.base hzs, (OS9.out.chg h9c (fun k hk => by rw [List.mem_singleton] at hk; subst hk; first | exact hzb | simp)).tips.base hzs, (OS9.out.chg h9c (fun k hk => by rw [List.mem_singleton] at hk; subst hk; first | exact hzb | simp)).tr.base hzs⟩, hrow Hrow.out (by decide), fun u hu => (Heach.out u hu).chg h9c (fun q hq C1 t1 f1 hh => by
          rw [List.mem_singleton] at hq
          subst hq
          rw [Z9.out] at hh
          injection hh with hh
          injection hh with _ hh _
          subst hh
          exact ⟨by decide, by decide⟩)⟩, SS.bel.trans (h9c.below SS.bel.size (by simp; omega))⟩)
      generalize w4.heap.size = p8 at SE hpz ⊢
  case' L1 =>
    have hAl3a : Below w3.drew.heap.size w3.drew (w3.drew.alloc (.cells zero9 35)) := (Below.refl _ _).alloc (Nat.le_refl _) _
    have S3a := Lib.hid (S3.out.below hAl3a)
    have Bz3a := Lib.hid hAl3a
    have Z3a : Hid ((w3.drew.alloc (.cells zero9 35)).heap[w3.heap.size]? = some (.cells zero9 35 (0, 0))) := Lib.hid (heap_new _ _)
    go_wp2_with fail
    refine (clone_any v.ia v.ic v.incs _ (H.out.inc.below S3a.out.bel) n1).mono ?_
    rintro e w10 ⟨ia', ic', rfl, hi, hb⟩
    have I10 := Lib.hid (owns_base hi (show w.heap.size + 2 ≤ _ from heap_lt S3a.out.res))
    have S10 := Lib.hid (S3a.out.below hb)
    have Bz10 := Lib.hid (below2 Bz3a.out hb Bz3a.out.size)
    have Z10 := Lib.hid ((hb.block _ (heap_lt Z3a.out)).trans Z3a.out)
    have hAg := Agree.of_below hb
    clear hb hi
    go_wp2_with fail
    refine And.intro hAg ?_
    clear hAg
    go_wp2_with fail
    refine (base_G pg mb w0 3 b L2 va vc vv _ S10.out.gr S10.out.gr.base.tr HTr.out).mono ?_
    rintro e w11 ⟨⟨⟨num', F', tips', t', tr'⟩, fa', fc', ta', tc', ra', rc'⟩, rfl, hsb, hob, hb⟩
    have hs2 : w.heap.size + 2 ≤ _ := heap_lt S10.out.res
    have O11 := Lib.hid (show OwnB w11 (w.heap.size + 2) _ from ⟨hob.f.base hs2, hob.tips.base hs2, hob.tr.base hs2⟩)
    have Hsb := Lib.hid hsb
    have hzb := heap_lt Z10.out
    have OS11 := Lib.hid hob
    have hzs : w.heap.size + 2 ≤ _ := heap_lt S10.out.res
    have S11 := Lib.hid (S10.out.below hb)
    have I11 := Lib.hid (owns_chg (F := []) I10.out (Chg.of_below hb) (by simp))
    have Bz11 := Lib.hid (below2 Bz10.out hb Bz10.out.size)
    have Z11 := Lib.hid ((hb.block _ (heap_lt Z10.out)).trans Z10.out)
    have hAg := Agree.of_below hb
    clear hb hsb hob
    go_wp2_with fail
    refine And.intro hAg ?_
    clear hAg
    go_wp2_with fail
    refine (commits_G pg mb w0 3 b L2 va vc vv _ S11.out.gr).mono ?_
    rintro e w12 ⟨la', lc', ss, rfl, hp, hso, ho, hcw, hb⟩
    have HPm := Lib.hid hp
    have HSo := Lib.hid hso
    have hs3 : w.heap.size + 2 ≤ _ := heap_lt S11.out.res
    have Hrow := Lib.hid (OwnC.base ho hs3)
    have Heach := Lib.hid (fun u hu => (hcw u hu).base hs3)
    have S12 := Lib.hid (S11.out.below hb)
    have I12 := Lib.hid (owns_chg (F := []) I11.out (Chg.of_below hb) (by simp))
    have OS12 := Lib.hid (OS11.out.chg (F := []) (Chg.of_below hb) (fun k hk => by cases hk))
    have O12 := Lib.hid (O11.out.chg (F := []) (Chg.of_below hb) (fun k hk => by cases hk))
    have Bz12 := Lib.hid (below2 Bz11.out hb Bz11.out.size)
    have Z12 := Lib.hid ((hb.block _ (heap_lt Z11.out)).trans Z11.out)
    have hAg := Agree.of_below hb
    clear hb hp hso ho hcw
    go_wp2_with fail
    refine And.intro hAg ?_
    clear hAg
    have e0 := cells_at Z12.out
    have f0 := free_at Z12.out
    have zz := heap_lt Z12.out
    have hpz : w.heap.size + 1 < w3.heap.size := heap_lt S3.out.res
    have h9 := set9 Z12.out rfl (.int .u8 v.k) (.int .u32 v.ip) (.slice ia' v.incs.length ic') (.int .u64 num') (.slice fa' F'.length fc') (.slice ta' tips'.length tc') (.int .u64 t') (.slice ra' tr'.length rc') (.slice la' ss.length lc')
    have H9 := Lib.hid h9
    clear h9
    simp only [bwcells]
    go_wp2_with fail
    refine And.intro (by kernel_rfl) ?_
    clear e0 f0 zz
    have h9 := H9.out
    clear H9
    generalize (((((((((w12.setCell ⟨w3.heap.size, 0, none⟩ (.int .u8 v.k)).setCell ⟨w3.heap.size, 1, none⟩ (.int .u32 v.ip)).setCell ⟨w3.heap.size, 2, none⟩ (.slice ia' v.incs.length ic')).setCell ⟨w3.heap.size, 3, none⟩ (.int .u64 num')).setCell ⟨w3.heap.size, 4, none⟩ (.slice fa' F'.length fc')).setCell ⟨w3.heap.size, 5, none⟩ (.slice ta' tips'.length tc')).setCell ⟨w3.heap.size, 6, none⟩ (.int .u64 t')).setCell ⟨w3.heap.size, 7, none⟩ (.slice ra' tr'.length rc')).setCell ⟨w3.heap.size, 8, none⟩ (.slice la' ss.length lc')) = wq at h9 ⊢
    obtain ⟨h9, h9c⟩ := h9
    have hne : ∀ {k : Nat} {C : Array Value} {t : TypeId} {fr : Nat × Nat}, w12.heap[k]? = some (.cells C t fr) → t ≠ 35 → k ∉ [w3.heap.size] := fun {k C t fr} hk ht hm => by
      rw [List.mem_singleton] at hm
      subst hm
      rw [Z12.out] at hk
      injection hk with hk
      injection hk with _ hk _
      exact ht hk.symm
    have SE : Hid (SvE w wq v pb a2 c2 G w3.heap.size (⟨v.k, v.ip, ia', ic', v.incs, ⟨⟨num', F', tips', t', tr'⟩, fa', fc', ta', tc', ra', rc'⟩, la', lc', ss⟩ : Sw)) := Lib.hid (by
      have SS := S12.out
      have hrow : ∀ {base : Nat} {e : TypeId} {size : Nat} {a : Option Addr} {n c k : Nat} {xs : List Value}, w12.ownsRow base e size (.slice a n c) k xs → e ≠ 35 → wq.ownsRow base e size (.slice a n c) k xs := fun {base e size a n c k xs} hr ht => owns_chg hr h9c (fun q hq => by
        obtain ⟨C1, f1, hh⟩ := ob_row hr q hq
        exact hne hh ht)
      exact ⟨(h9c.block _ (heap_lt SS.box) (by simp; omega)).trans SS.box, (h9c.block _ (heap_lt SS.res) (by simp; omega)).trans SS.res, heap_chg SS.cell h9c (hne SS.cell (by decide)), hrow SS.nums (by decide), h9, ⟨hrow I12.out (by decide), ⟨(OS12.out.chg h9c (fun k hk => by rw [List.mem_singleton] at hk; subst hk; first | exact hzb | simp)).f.base hzs, (OS12.out.chg h9c (fun k hk => by rw [List.mem_singleton] at hk; subst hk; first | exact hzb | simp)).tips.base hzs, (OS12.out.chg h9c (fun k hk => by rw [List.mem_singleton] at hk; subst hk; first | exact hzb | simp)).tr.base hzs⟩, hrow Hrow.out (by decide), fun u hu => (Heach.out u hu).chg h9c (fun q hq C1 t1 f1 hh => by
        rw [List.mem_singleton] at hq
        subst hq
        rw [Z12.out] at hh
        injection hh with hh
        injection hh with _ hh _
        subst hh
        exact ⟨by decide, by decide⟩)⟩, SS.bel.trans (h9c.below SS.bel.size (by simp; omega))⟩)
    generalize w3.heap.size = p8 at SE hpz ⊢
  all_goals
    have HSP := Lib.hid (fun (R : List Cw) (hR : cms R = Gn.filterMap fun k => (cms v.l)[k]?) => (⟨rfl, rfl, rfl, HS.out.trans Hsb.out, by rw [← Hcm.out]; exact HPm.out, HSo.out, by rw [Hgq.out]; exact hR⟩ : SalvP v (⟨v.k, v.ip, ia', ic', v.incs, ⟨⟨num', F', tips', t', tr'⟩, fa', fc', ta', tc', ra', rc'⟩, la', lc', ss⟩ : Sw) R))
    generalize (⟨v.k, v.ip, ia', ic', v.incs, ⟨⟨num', F', tips', t', tr'⟩, fa', fc', ta', tc', ra', rc'⟩, la', lc', ss⟩ : Sw) = x at SE HSP
    clear HS Hsb Hcm HPm HSo Hgq HTr Hrow Heach
    have hgl0 : G.length ≤ 20 := by rw [← HG9.out, List.length_map]; exact Hgn.out
    have HGn := Lib.hid (show G.length = Gn.length by rw [← HG9.out, List.length_map])
    have d0 := cells_at SE.out.cell
    have z0 := heap_lt SE.out.cell
    go_wp2_with fail
    clear d0 z0
    go_loopw [38, 9] (fun j rv wr => ∃ (q : Nat) (R : List Cw) (ga : Option Addr) (gc : Nat), q ≤ G.length ∧ j = .int .i64 q ∧ rv = .slice ga R.length gc ∧ R.length ≤ q ∧ Hid (cms R = (Gn.take q).filterMap fun k => (cms v.l)[k]?) ∧ Hid (OwnC wr wq.heap.size ga gc R) ∧ Hid (∀ u ∈ R, CwOwn wr wq.heap.size u) ∧ Hid (Below wq.heap.size wq wr)) (fun j _ _ => G.length - (intOf j).toNat)
    case atStart => exact ⟨0, [], none, 0, Nat.zero_le _, rfl, rfl, Nat.le_refl _, Lib.hid rfl, Lib.hid (OwnC.nil _ _), Lib.hid (fun u hu => (by cases hu)), Lib.hid (Below.refl _ _)⟩
    case round =>
      obtain ⟨q, R, ga, gc, hq, rfl, rfl, hRq, HR, HRo, HRe, BR⟩ := hrel
      have SR := Lib.hid (SE.out.below BR.out)
      by_cases hlt : q < G.length
      rotate_left
      · have HRf := Lib.hid (HSP.out R (by have h1 := HR.out; rwa [List.take_of_length_le (by have := HGn.out; omega)] at h1))
        have d0 := cells_at SR.out.out
        have z0 := heap_lt SR.out.out
        have d1 := cells_at SR.out.res
        have f1 := free_at SR.out.res
        have z1 := heap_lt SR.out.res
        simp only [swcells, sncells] at d0
        have h9 := set9 SR.out.res rfl (.int .u8 x.k) (.int .u32 x.ip) (.slice x.ia x.incs.length x.ic) (.int .u64 x.b.b.num) (.slice x.b.fa x.b.b.f.length x.b.fc) (.slice x.b.ta x.b.b.tips.length x.b.tc) (.int .u64 x.b.b.t) (.slice x.b.ra x.b.b.tr.length x.b.rc) (.slice x.la x.l.length x.lc)
        have H9 := Lib.hid h9
        clear h9
        have hno : NoRow wr [w.heap.size + 1] := fun k hk C1 t1 f1 hh => by
          rw [List.mem_singleton] at hk
          subst hk
          rw [SR.out.res] at hh
          injection hh with hh
          injection hh with _ hh _
          subst hh
          exact ⟨by decide, by decide⟩
        have hbq : w.heap.size + 2 ≤ wq.heap.size := heap_lt SE.out.res
        go_wp2_with fail
        have h9 := H9.out
        clear H9
        generalize (((((((((wr.setCell ⟨w.heap.size + 1, 0, none⟩ (.int .u8 x.k)).setCell ⟨w.heap.size + 1, 1, none⟩ (.int .u32 x.ip)).setCell ⟨w.heap.size + 1, 2, none⟩ (.slice x.ia x.incs.length x.ic)).setCell ⟨w.heap.size + 1, 3, none⟩ (.int .u64 x.b.b.num)).setCell ⟨w.heap.size + 1, 4, none⟩ (.slice x.b.fa x.b.b.f.length x.b.fc)).setCell ⟨w.heap.size + 1, 5, none⟩ (.slice x.b.ta x.b.b.tips.length x.b.tc)).setCell ⟨w.heap.size + 1, 6, none⟩ (.int .u64 x.b.b.t)).setCell ⟨w.heap.size + 1, 7, none⟩ (.slice x.b.ra x.b.b.tr.length x.b.rc)).setCell ⟨w.heap.size + 1, 8, none⟩ (.slice x.la x.l.length x.lc)) = w9 at h9 ⊢
        obtain ⟨h9, h9c⟩ := h9
        have d9 := cells_at h9
        have hown := SR.out.own.chg h9c (fun k hk => by simp at hk; omega) hno (show w.heap.size ≤ w.heap.size + 2 by omega)
        have hrow : OwnC w9 w.heap.size ga gc R := OwnC.base (owns_chg HRo.out h9c (fun k hk hm => by have := (owns_lt HRo.out k hk).1; simp at hm; omega)) (by omega)
        have heach : ∀ u ∈ R, CwOwn w9 w.heap.size u := fun u hu => ((HRe.out u hu).chg h9c hno).base (by omega)
        have hbel := SR.out.bel.trans (h9c.below SR.out.bel.size (by simp))
        exact bodyPost_ret (v := .tuple #[.agg (swcells x), .slice ga R.length gc, .int .i64 0]) (by simp [results, Tryz.results8, go_sem, d9]; try rfl) rfl (.inr ⟨HW.out, HP.out, x, ga, gc, R, rfl, HRf.out, hown, hrow, heach, hbel⟩)
      obtain ⟨k, hk⟩ : ∃ k, Gn[q]? = some k := ⟨Gn[q]'(by rw [← HGn.out]; exact hlt), by simp⟩
      have hkl := Hgl.out k (List.mem_of_getElem? hk)
      obtain ⟨u, hu⟩ : ∃ u, v.l[k]? = some u := ⟨v.l[k], by simp [hkl]⟩
      have hGq : G[q]? = some (k : Int) := by rw [← HG9.out, List.getElem?_map, hk]; rfl
      obtain ⟨g, hga, hgc, hgz⟩ := SR.out.nums.at hGq
      subst hga
      have Hnx := Lib.hid (show (Gn.take (q + 1)).filterMap (fun k => (cms v.l)[k]?) = (Gn.take q).filterMap (fun k => (cms v.l)[k]?) ++ [u.c] by
        rw [take_snoc' hk, List.filterMap_append]
        congr 1
        show [k].filterMap _ = _
        simp [cms_i hu])
      obtain ⟨ae, hae, ⟨c0, c1, c2', c3, c4, c5, c6, c7, c8, c9, c10⟩, hlb⟩ := (H.out.cms.below SR.out.bel).at_ hu
      have Hat := Lib.hid (H.out.cms.each u (List.mem_of_getElem? hu))
      have Hn := Lib.hid (HN.out.each u (List.mem_of_getElem? hu))
      have d0 := cells_at SR.out.box
      have z0 := heap_lt SR.out.box
      simp only [swcells, sncells] at d0
      rw [hae] at d0
      have Hae := Lib.hid hae
      clear hae
      clear hk hu hGq
      obtain ⟨⟨⟨⟨r, i⟩, s⟩, ps, uu, t1, ⟨kk, n, x1, p, ds⟩⟩, qa, qc, ua, uc, pa, pc, da, dc⟩ := u
      dsimp only at c0 c1 c2' c3 c4 c5 c6 c7 c8 c9 c10
      obtain ⟨h1, h2, h3, h4⟩ := Hn.out
      dsimp only at h1 h2 h3 h4
      go_upto_region 12 with (fail)
      have hA : Below wr.heap.size wr (wr.alloc (.cells (ccells r i s qa ps.length qc ua uu.length uc t1 kk pa p.length pc n x1 da ds.length dc) 54)) := (Below.refl _ _).alloc (Nat.le_refl _) _
      have hnA : (wr.alloc (.cells (ccells r i s qa ps.length qc ua uu.length uc t1 kk pa p.length pc n x1 da ds.length dc) 54)).heap[wr.heap.size]? = some (.cells (ccells r i s qa ps.length qc ua uu.length uc t1 kk pa p.length pc n x1 da ds.length dc) 54 (0, 0)) := heap_new _ _
      have hpq : wq.heap.size ≤ wr.heap.size := BR.out.size
      have HA := Lib.hid hA
      have X0 := Lib.hid hnA
      clear hA hnA c0 c1 c2' c3 c4 c5 c6 c7 c8 c9 c10 hlb d0 z0 hgc hgz
      generalize (wr.alloc (.cells (ccells r i s qa ps.length qc ua uu.length uc t1 kk pa p.length pc n x1 da ds.length dc) 54)) = wB at HA X0 ⊢
      generalize hpcb : wr.heap.size = pcb at X0 hpq ⊢
      have hpb2 : pcb < wB.heap.size := heap_lt X0.out
      have HAd := Lib.hid (show Below wr.heap.size wr wB.drew from HA.out.drew)
      have d0 := cells_at X0.out
      have z0 := heap_lt X0.out
      simp only [ccells] at d0
      refine region_text [([0, 1, 3, 4], false), ([2], true), ([6, 5, 7, 8, 9], false)] mixed (by kernel_rfl) ?_
      simp only [wpSegs, List.map_cons, List.map_nil, List.getD_cons_succ, List.getD_cons_zero]
      go_wp2_with fail
      refine (cloneD_any qa qc ps _ (Hat.out.ps.below (below2 SR.out.bel HAd.out SR.out.bel.size)) h1).mono ?_
      rintro e w21 ⟨b1, e1, p1, rfl, hp1, ho1, hb1⟩
      have hp1' := hp1.symm
      subst hp1'
      have Ho1 := Lib.hid (OwnD.base (base' := pcb + 1) ho1 hpb2)
      have X1 := Lib.hid ((hb1.block _ z0).trans (show wB.drew.heap[pcb]? = _ from X0.out))
      have BB1 := Lib.hid (below2 HAd.out hb1 HAd.out.size)
      have hAg := Agree.of_below hb1
      have hz1 : pcb + 1 ≤ w21.heap.size := heap_lt X1.out
      clear hp1 ho1 hb1 d0 z0
      go_wp2_with fail
      refine And.intro hAg ?_
      clear hAg
      go_wp2_with fail
      refine (cloneV_any ua uc uu _ (Hat.out.vv.below (below2 SR.out.bel BB1.out SR.out.bel.size)) h2).mono ?_
      rintro e w22 ⟨b2, e2, v2, rfl, hv2, ho2, hb2⟩
      have hv2' := hv2.symm
      subst hv2'
      have Ho1' := Lib.hid (Ho1.out.below hb2)
      have Ho2 := Lib.hid (OwnD.base (base' := pcb + 1) ho2 hz1)
      have X2 := Lib.hid ((hb2.block _ (heap_lt X1.out)).trans X1.out)
      have BB2 := Lib.hid (below2 BB1.out hb2 BB1.out.size)
      clear hv2 ho2 hb2 Ho1 X1 BB1
      have d0 := cells_at X2.out
      have f0 := free_at X2.out
      have z0 := heap_lt X2.out
      go_wp2_with fail
      refine And.intro (by kernel_rfl) ?_
      have hC1 : Chg [pcb] w22 ((w22.setCell ⟨pcb, 3, none⟩ (.slice b1 ps.length e1)).setCell ⟨pcb, 4, none⟩ (.slice b2 uu.length e2)) := ((Chg.refl _ _).put _ _ (by simp)).put _ _ (by simp)
      have x3 : ((w22.setCell ⟨pcb, 3, none⟩ (.slice b1 ps.length e1)).setCell ⟨pcb, 4, none⟩ (.slice b2 uu.length e2)).heap[pcb]? = some (.cells (ccells r i s b1 ps.length e1 b2 uu.length e2 t1 kk pa p.length pc n x1 da ds.length dc) 54 (0, 0)) := heap_setC (heap_setC X2.out 3 _) 4 _
      generalize (w22.setCell ⟨pcb, 3, none⟩ (.slice b1 ps.length e1)).setCell ⟨pcb, 4, none⟩ (.slice b2 uu.length e2) = w23 at hC1 x3 ⊢
      have dis : ∀ k, pcb + 1 ≤ k → k ∉ [pcb] := fun k hk hm => by simp at hm; omega
      have Ho1 := Lib.hid (show OwnD w23 (pcb + 1) b1 e1 ps from owns_chg Ho1'.out hC1 (fun k hk => dis k (owns_lt Ho1'.out k hk).1))
      have Ho2' := Lib.hid (show OwnD w23 (pcb + 1) b2 e2 uu from owns_chg Ho2.out hC1 (fun k hk => dis k (owns_lt Ho2.out k hk).1))
      have BB3 := Lib.hid (show Below wr.heap.size wr w23 from BB2.out.trans (hC1.below BB2.out.size (fun k hk => by simp at hk; omega)))
      have X3 := Lib.hid x3
      clear hC1 x3 d0 f0 z0 X2 BB2 Ho1' Ho2
      have hz3 : pcb + 1 ≤ w23.heap.size := heap_lt X3.out
      have d0 := cells_at X3.out
      simp only [ccells] at d0
      have z0 := heap_lt X3.out
      have BB3d := Lib.hid (show Below wr.heap.size wr w23.drew from BB3.out.drew)
      go_wp2_with fail
      refine region_text [([0, 1, 2, 4, 5, 6], false), ([3], true), ([8, 9, 7, 10, 11, 12, 13], false)] mixed (by kernel_rfl) ?_
      simp only [wpSegs, List.map_cons, List.map_nil, List.getD_cons_succ, List.getD_cons_zero]
      go_wp2_with fail
      refine (cloneS_any pa pc p _ (Hat.out.pt.below (below2 SR.out.bel BB3d.out SR.out.bel.size)) h3).mono ?_
      rintro e w24 ⟨b3, e3, p3, rfl, hp3, ho3, hb4⟩
      have hp3' := hp3.symm
      subst hp3'
      have hb4' : Below w23.heap.size w23 w24 := ((Below.refl _ _).drew).trans hb4
      have Ho1a := Lib.hid (Ho1.out.below hb4')
      have Ho2a := Lib.hid (Ho2'.out.below hb4')
      have Ho3 := Lib.hid (OwnS.base (base' := pcb + 1) ho3 hz3)
      have X4 := Lib.hid ((hb4'.block _ (heap_lt X3.out)).trans X3.out)
      have BB4 := Lib.hid (below2 BB3.out hb4' BB3.out.size)
      have hAg := Agree.of_below hb4
      have hz4 : pcb + 1 ≤ w24.heap.size := heap_lt X4.out
      clear hp3 ho3 hb4 hb4' d0 z0 Ho1 Ho2' X3 BB3
      have d0 := cells_at X4.out
      simp only [ccells] at d0
      have z0 := heap_lt X4.out
      go_wp2_with fail
      refine And.intro hAg ?_
      clear hAg
      go_wp2_with fail
      refine (cloneD_any da dc ds _ (Hat.out.ds.below (below2 SR.out.bel BB4.out SR.out.bel.size)) h4).mono ?_
      rintro e w25 ⟨b4, e4, d4, rfl, hd4, ho4, hb5⟩
      have hd4' := hd4.symm
      subst hd4'
      have Ho1b := Lib.hid (Ho1a.out.below hb5)
      have Ho2b := Lib.hid (Ho2a.out.below hb5)
      have Ho3b := Lib.hid (Ho3.out.below hb5)
      have Ho4 := Lib.hid (OwnD.base (base' := pcb + 1) ho4 hz4)
      have X5 := Lib.hid ((hb5.block _ (heap_lt X4.out)).trans X4.out)
      have BB5 := Lib.hid (below2 BB4.out hb5 BB4.out.size)
      clear hd4 ho4 hb5 d0 z0 Ho1a Ho2a Ho3 X4 BB4
      have d0 := cells_at X5.out
      have f0 := free_at X5.out
      have z0 := heap_lt X5.out
      go_wp2_with fail
      refine And.intro (by kernel_rfl) ?_
      have hC2 : Chg [pcb] w25 ((w25.setCell ⟨pcb, 7, none⟩ (.slice b3 p.length e3)).setCell ⟨pcb, 10, none⟩ (.slice b4 ds.length e4)) := ((Chg.refl _ _).put _ _ (by simp)).put _ _ (by simp)
      have x6 : ((w25.setCell ⟨pcb, 7, none⟩ (.slice b3 p.length e3)).setCell ⟨pcb, 10, none⟩ (.slice b4 ds.length e4)).heap[pcb]? = some (.cells (ccells r i s b1 ps.length e1 b2 uu.length e2 t1 kk b3 p.length e3 n x1 b4 ds.length e4) 54 (0, 0)) := heap_setC (heap_setC X5.out 7 _) 10 _
      generalize (w25.setCell ⟨pcb, 7, none⟩ (.slice b3 p.length e3)).setCell ⟨pcb, 10, none⟩ (.slice b4 ds.length e4) = w26 at hC2 x6 ⊢
      have Hu := Lib.hid (show CwOwn w26 wq.heap.size ⟨⟨((r, i), s), ps, uu, t1, ⟨kk, n, x1, p, ds⟩⟩, b1, e1, b2, e2, b3, e3, b4, e4⟩ from
        ⟨OwnD.base (owns_chg Ho1b.out hC2 (fun k hk => dis k (owns_lt Ho1b.out k hk).1)) (by omega), OwnD.base (owns_chg Ho2b.out hC2 (fun k hk => dis k (owns_lt Ho2b.out k hk).1)) (by omega), OwnS.base (owns_chg Ho3b.out hC2 (fun k hk => dis k (owns_lt Ho3b.out k hk).1)) (by omega), OwnD.base (owns_chg Ho4.out hC2 (fun k hk => dis k (owns_lt Ho4.out k hk).1)) (by omega), Hat.out.ok⟩)
      have BB6 := Lib.hid (show Below wr.heap.size wr w26 from BB5.out.trans (hC2.below BB5.out.size (fun k hk => by simp at hk; omega)))
      have X6 := Lib.hid x6
      clear hC2 x6 d0 f0 z0 X5 BB5 Ho1b Ho2b Ho3b Ho4 dis Hat Hn h1 h2 h3 h4
      have d0 := cells_at X6.out
      simp only [ccells] at d0
      have z0 := heap_lt X6.out
      have hAl : Below w26.heap.size w26 (w26.alloc (.cells (ccells r i s b1 ps.length e1 b2 uu.length e2 t1 kk b3 p.length e3 n x1 b4 ds.length e4) 54)) := (Below.refl _ _).alloc (Nat.le_refl _) _
      have HAl := Lib.hid hAl
      clear hAl
      go_wp2_with (at_builtin; go_must (refine wpList_appC rfl _ _ rfl wq.heap.size ga gc R rfl ?o1 (some ⟨w26.heap.size, 0, none⟩) 1 [⟨⟨((r, i), s), ps, uu, t1, ⟨kk, n, x1, p, ds⟩⟩, b1, e1, b2, e2, b3, e3, b4, e4⟩] rfl (cm_one ⟨⟨((r, i), s), ps, uu, t1, ⟨kk, n, x1, p, ds⟩⟩, b1, e1, b2, e2, b3, e3, b4, e4⟩ (heap_new _ _)) ?n1 ?b1 ?_))
      case o1 => exact (HRo.out.below BB6.out).below HAl.out
      case n1 => simp; omega
      case b1 => have := BB6.out.size; simp; omega
      intro v9 aq cq w9 hv9 ho9 hb9 hc9 hn9
      have HR9 := Lib.hid (show cms v9 = (Gn.take (q + 1)).filterMap (fun k => (cms v.l)[k]?) by rw [Hnx.out, ← HR.out, hv9]; simp [cms])
      have HO9 := Lib.hid ho9
      have hno : NoRow (w26.alloc (.cells (ccells r i s b1 ps.length e1 b2 uu.length e2 t1 kk b3 p.length e3 n x1 b4 ds.length e4) 54)) (ob ga) := fun k hk C1 t1 f1 hh => by
        obtain ⟨C2, f2, h2⟩ := ob_row ((HRo.out.below BB6.out).below HAl.out) k hk
        rw [hh] at h2
        injection h2 with h2
        injection h2 with _ h2 _
        subst h2
        exact ⟨by decide, by decide⟩
      have HE9 := Lib.hid (show ∀ u ∈ v9, CwOwn w9 wq.heap.size u from fun u hu => by
        rw [hv9] at hu
        rcases List.mem_append.1 hu with h1 | h1
        · exact (((HRe.out u h1).below BB6.out).below HAl.out).chg hc9 hno
        · rw [List.mem_singleton] at h1
          subst h1
          exact (Hu.out.below HAl.out).chg hc9 hno)
      have BR9 := Lib.hid (show Below wq.heap.size wq w9 from (below2 (below2 BR.out BB6.out BR.out.size) HAl.out (below2 BR.out BB6.out BR.out.size).size).trans hb9)
      have hlv : v9.length ≤ q + 1 := by rw [hv9]; simp; omega
      clear hv9 ho9 hb9 hc9 hn9 d0 z0 hno
      go_wp2_with fail
      go_roundw
      case rel => exact ⟨q + 1, v9, aq, cq, by omega, by go_num, rfl, hlv, HR9, HO9, HE9, BR9⟩
      case measure => simp [intOf]; omega
end Go.Proofs.YtaandcblndldmaaGreat

/- SamI -/
namespace Go.Proofs.YtaandcblndldmaaGreat
open Go.RowKit
set_option linter.unusedVariables false
set_option linter.unusedSimpArgs false

set_option maxHeartbeats 1000000 in
theorem rwithinI_any (a b : Option Addr) (c d : Nat) (l m : List Int) (w : World) (hv : U32 w a c l) (hu : U32 w b d m) (hn : l.length ≤ 1100000) (hm : m.length ≤ 1100000) :
    Calls Tryz.prog 101 #[.slice a l.length c, .slice b m.length d] w fun e w' => e = .returned (.bool (withinI l m)) ∧ Below w.heap.size w w' := by
  have Hv := Lib.hid hv
  have Hu := Lib.hid hu
  clear hv hu
  by_cases hl : l.length = m.length
  · have Hl := Lib.hid hl
    rw [← hl]
    clear hl
    go_enter Tryz.func101, Tryz.ntmps101
    go_wp2_with fail
    go_loopw [5] (fun j wr => ∃ k : Nat, k ≤ l.length ∧ j = .int .i64 k ∧ Hid (upToI l m k) ∧ Below w.heap.size w wr) (fun j _ => l.length - (intOf j).toNat)
    case atStart => exact ⟨0, Nat.zero_le _, rfl, Lib.hid (fun j _ _ h => absurd h (Nat.not_lt_zero _)), Below.refl _ _⟩
    case round =>
      obtain ⟨k, hk, rfl, hle, hb⟩ := hrel
      have Hb := Lib.hid hb
      clear hb
      by_cases hlt : k < l.length
      · have hlm : k < m.length := by have := Hl.out; omega
        obtain ⟨x, hx⟩ : ∃ x, l[k]? = some x := ⟨l[k], by simp [hlt]⟩
        obtain ⟨y, hy⟩ : ∃ y, m[k]? = some y := ⟨m[k], by simp [hlm]⟩
        obtain ⟨ad, had, c0, hl0⟩ := (Hv.out.below Hb.out).at hx
        obtain ⟨ae, hae, c1, hl1⟩ := (Hu.out.below Hb.out).at hy
        subst had hae
        have Hx := Lib.hid hx
        have Hy := Lib.hid hy
        clear hx hy
        by_cases hxy : y < x
        · have He := Lib.hid (withinI_false Hx.out Hy.out (by omega))
          go_wp2_with fail
          refine region_text [([0, 1, 2, 3, 4, 5, 6, 7, 8], false)] mixed (by kernel_rfl) ?_
          simp only [wpSegs, List.map_cons, List.map_nil, List.getD_cons_succ, List.getD_cons_zero]
          go_wp2_with fail
          refine And.intro (by kernel_rfl) ?_
          go_wp2_with fail
          go_ret
          exact ⟨by rw [He.out]; rfl, below_drewN Hb.out _⟩
        · have hxy' : decide (y < x) = false := by simpa using hxy
          go_wp2_with fail
          refine region_text [([0, 1, 2, 3, 4, 5, 6, 7, 8], false)] mixed (by kernel_rfl) ?_
          simp only [wpSegs, List.map_cons, List.map_nil, List.getD_cons_succ, List.getD_cons_zero]
          go_wp2_with fail
          refine And.intro (by kernel_rfl) ?_
          go_wp2_with fail
          go_roundw
          case rel => exact ⟨k + 1, by omega, by go_num, Lib.hid (hle.out.snoc Hx.out Hy.out (by omega)), below_drewN Hb.out _⟩
          case measure => simp [intOf]; omega
      · have He := Lib.hid (show withinI l m = true by rw [hle.out.all (by omega)]; exact decide_eq_true Hl.out)
        go_wp2_with fail
        go_ret
        exact ⟨by rw [He.out]; rfl, Hb.out⟩
  · have He := Lib.hid (withinI_short hl)
    have hl' : ((l.length : Int) == (m.length : Int)) = false := by simp; omega
    go_enter Tryz.func101, Tryz.ntmps101
    go_wp2_with fail
    go_ret
    exact ⟨by rw [He.out]; rfl, Below.refl _ _⟩

theorem sameI_eq (l m : List Int) : (withinI l m && withinI m l) = decide (l = m) := by
  by_cases h : l = m
  · subst h; simp [withinI_refl]
  · rw [decide_eq_false h]
    cases h1 : withinI l m with
    | false => rfl
    | true =>
      cases h2 : withinI m l with
      | false => rfl
      | true => exact absurd (withinI_anti h1 h2) h
theorem rsameI_any (a b : Option Addr) (c d : Nat) (l m : List Int) (w : World) (hv : U32 w a c l) (hu : U32 w b d m) (hn : l.length ≤ 1100000) (hm : m.length ≤ 1100000) :
    Calls Tryz.prog 43 #[.slice a l.length c, .slice b m.length d] w fun e w' => e = .returned (.bool (decide (l = m))) ∧ Below w.heap.size w w' := by
  have Hv := Lib.hid hv
  have Hu := Lib.hid hu
  clear hv hu
  rw [← sameI_eq]
  go_enter Tryz.func43, Tryz.ntmps43
  go_wp2_with fail
  refine (rwithinI_any a b c d l m w Hv.out Hu.out hn hm).mono ?_
  rintro e w1 ⟨rfl, hb⟩
  have Hb := Lib.hid hb
  clear hb
  cases h1 : withinI l m with
  | false =>
    go_wp2_with fail
    go_ret
    exact ⟨by rw [h1]; rfl, Hb.out⟩
  | true =>
    go_wp2_with fail
    refine (rwithinI_any b a d c m l w1 (Hu.out.below Hb.out) (Hv.out.below Hb.out) hm hn).mono ?_
    rintro e w2 ⟨rfl, hb⟩
    have Hb2 := Lib.hid (Hb.out.trans (hb.mono Hb.out.size))
    clear hb
    go_wp2_with fail
    go_ret
    exact ⟨by rw [h1]; simp, Hb2.out⟩
end Go.Proofs.YtaandcblndldmaaGreat

/- AudJ -/
namespace Go.Proofs.YtaandcblndldmaaGreat
open Go.RowKit
set_option linter.unusedVariables false
set_option linter.unusedSimpArgs false

theorem auF_hist {F : List Dt} (hF : okV F) (hc : canonV F = F) (cs : List Cm) (h : ∀ c ∈ cs, okV c.vv) : HistI F (auF F cs).L ∧ ∃ vv, okV vv ∧ HistP F (auF F cs).L vv := by
  induction cs using snoc_rec with
  | h0 => exact ⟨HistI.start F, F, hF, HistP.start hF hc⟩
  | h1 cs c ih =>
    obtain ⟨h1, vv, h2, h3⟩ := ih fun x hx => h x (List.mem_append_left _ hx)
    have hok := h c (by simp)
    rw [auF_snoc]
    unfold auStep
    split
    · rename_i hz
      exact ⟨h1.step hz, _, okV_joinV h2 hok, h3.step h2 hok hz⟩
    · exact ⟨h1, vv, h2, h3⟩
theorem auF_all {F : List Dt} {S : List Cm} (h : ∀ q c, S[q]? = some c → insE F (findC (S.take q)) q c = 0) : ∀ n, n ≤ S.length → (auF F (S.take n)).gone = [] ∧ (auF F (S.take n)).L = S.take n
  | 0, _ => ⟨rfl, rfl⟩
  | n + 1, hn => by
    obtain ⟨h1, h2⟩ := auF_all h n (by omega)
    obtain ⟨c, hc⟩ : ∃ c, S[n]? = some c := ⟨S[n]'(by omega), by simp⟩
    have hz := h n c hc
    have hl : (S.take n).length = n := by rw [List.length_take]; omega
    rw [auF_take F hc]
    unfold auStep
    rw [h2, hl, if_pos hz]
    exact ⟨h1, by rw [take_snoc' hc]⟩
/-- what was inserted goes in once more, in order -/
theorem auF_sorted {F : List Dt} (hF : okV F) (hc : canonV F = F) {cs S : List Cm} (h : ∀ c ∈ cs, okV c.vv) (hp : S.Perm (auF F cs).L) (hs : SortedC S) (hl : S.length ≤ 200) : (auF F S).gone = [] ∧ (auF F S).L = S := by
  obtain ⟨h1, vv, h2, h3⟩ := auF_hist hF hc cs h
  have hi := h1.perm hp.symm (auF_P F cs).nodup
  have hh := h3.perm hp.symm
  have := auF_all (F := F) (S := S) (fun q c hq => ins_prefix hi hh hs hq (by have := (List.getElem?_eq_some_iff.1 hq).1; omega)) S.length (Nat.le_refl _)
  rwa [List.take_length] at this
open Classical in
noncomputable def allV (cs : List Cm) : List Dt := cs.foldl (fun v c => if CmP c then joinV v c.vv else v) []
theorem allV_yes {cs : List Cm} {c : Cm} (h : CmP c) : allV (cs ++ [c]) = joinV (allV cs) c.vv := by unfold allV; rw [List.foldl_append]; simp only [List.foldl_cons, List.foldl_nil]; rw [if_pos h]
theorem allV_no {cs : List Cm} {c : Cm} (h : ¬ CmP c) : allV (cs ++ [c]) = allV cs := by unfold allV; rw [List.foldl_append]; simp only [List.foldl_cons, List.foldl_nil]; rw [if_neg h]
theorem allV_ok (cs : List Cm) (h : ∀ c ∈ cs, okV c.vv) : okV (allV cs) ∧ (allV cs).length ≤ 64 ∧ ∀ d ∈ allV cs, d.2 = getN (allV cs) d.1 := by
  induction cs using snoc_rec with
  | h0 => exact ⟨fun d hd => (by cases hd), Nat.zero_le _, fun d hd => (by cases hd)⟩
  | h1 cs c ih =>
    obtain ⟨h1, h2, h3⟩ := ih fun x hx => h x (List.mem_append_left _ hx)
    have hok := h c (by simp)
    by_cases hC : CmP c
    · rw [allV_yes hC]
      refine ⟨okV_joinV h1 hok, vecOf_length _, fun d hd => ?_⟩
      rw [getN_joinV h1 hok]
      exact ((mem_vecOf (okN_max (okN_getN h1) (okN_getN hok)) d).1 hd).2
    · rw [allV_no hC]; exact ⟨h1, h2, h3⟩
def lostF (vv : List Dt) (l : List Dt) : List Dt := l.filter fun d => decide (getN vv d.1 < d.2)
def LostTo (w : World) (v : Sw) (e : Ending) (w' : World) : Prop :=
  ∃ (a : Option Addr) (c : Nat) (V : List Dt), e = .returned (.slice a (List.length V) c) ∧ OwnD w' w.heap.size a c V ∧ Below w.heap.size w w' ∧ ((¬ (whoB v = true ∧ BaseP v.b.b) ∧ V = []) ∨ (whoB v = true ∧ BaseP v.b.b ∧ ∃ vv, HistP v.b.b.f (auF v.b.b.f (cms v.l)).L vv ∧ V = lostF vv (allV (cms v.l))))
theorem headL_nil {x y : Bool} {L : List Fw} (h : L = headL x y) : (x = true ∧ y = true ∧ L = []) ∨ (¬ (x = true ∧ y = true) ∧ 0 < L.length) := by
  subst h
  cases x <;> cases y <;> simp [headL]

set_option maxRecDepth 100000 in
set_option maxHeartbeats 16000000 in
theorem lost_any (v : Sw) (m : Nat) (w : World) (h : SwAt w m v) (hN : SwN v) : Calls Tryz.prog 16 #[.agg (swcells v)] w (LostTo w v) := by
  obtain ⟨k0, ip, ia, ic, incs, ⟨⟨num, F, tips, tt, tr⟩, fa, fc, ta, tc, ra, rc⟩, la, lc, l⟩ := v
  have H := Lib.hid h
  have HN := Lib.hid hN
  have m0 := h.cms.sl.2.1
  have m1 := h.cms.sl.2.2.1
  unfold maxLen at m1
  have B0 : Hid (BoxE 35 w (w.alloc (.cells (sncells k0 ip ia incs.length ic num fa F.length fc ta tips.length tc tt ra tr.length rc la l.length lc) 35)) (sncells k0 ip ia incs.length ic num fa F.length fc ta tips.length tc tt ra tr.length rc la l.length lc)) := Lib.hid ⟨heap_new _ _, (Below.refl _ _).alloc (Nat.le_refl _) _⟩
  have Hokc : Hid (∀ q, ∀ c ∈ (cms l).take q, okV c.vv) := Lib.hid (fun q c hc => by
    obtain ⟨u, hu, rfl⟩ := List.mem_map.1 (List.mem_of_mem_take hc)
    exact (h.cms.each u hu).ok.vv)
  dsimp only at m0 m1
  clear h hN
  simp only [swcells]
  go_enter Tryz.func16, Tryz.ntmps16
  go_upto_region 1 with (fail)
  generalize (w.alloc (.cells (sncells k0 ip ia incs.length ic num fa F.length fc ta tips.length tc tt ra tr.length rc la l.length lc) 35)) = wa at B0 ⊢
  have d0 := cells_at B0.out.blk
  have z0 := heap_lt B0.out.blk
  simp only [sncells] at d0
  go_wp2_with fail
  refine (headA_any ⟨k0, ip, ia, ic, incs, ⟨⟨num, F, tips, tt, tr⟩, fa, fc, ta, tc, ra, rc⟩, la, lc, l⟩ m _ (H.out.below B0.out.bel) HN.out).mono ?_
  rintro e w1 ⟨a, c, q, L, rfl, hL, hq, ho, hb⟩
  have B1 := Lib.hid (B0.out.step hb)
  have Hq := Lib.hid hq
  rcases headL_nil hL with ⟨hw, hqt, hLn⟩ | ⟨hw, hLp⟩
  rotate_left
  · have y1 : decide ((0 : Int) < (L.length : Int)) = true := decide_eq_true (by omega)
    have Hw := Lib.hid (show ¬ (whoB ⟨k0, ip, ia, ic, incs, ⟨⟨num, F, tips, tt, tr⟩, fa, fc, ta, tc, ra, rc⟩, la, lc, l⟩ = true ∧ BaseP (⟨num, F, tips, tt, tr⟩ : Bs)) from fun h => hw ⟨h.1, hq.2 h.2⟩)
    clear hb hq ho hw d0 z0 hL
    go_wp2_with fail
    go_ret
    exact ⟨none, 0, [], rfl, OwnD.nil _ _, B1.out.bel, .inl ⟨Hw.out, rfl⟩⟩
  have HW := Lib.hid hw
  have HP := Lib.hid (hq.1 hqt)
  subst hLn
  clear hb hq ho hw hqt d0 z0 hL Hq
  have d0 := cells_at B1.out.blk
  have z0 := heap_lt B1.out.blk
  simp only [sncells] at d0
  go_wp2_with fail
  refine (insertA_any ⟨k0, ip, ia, ic, incs, ⟨⟨num, F, tips, tt, tr⟩, fa, fc, ta, tc, ra, rc⟩, la, lc, l⟩ m w _ 46 #[] [] (fun _ _ _ => True) [] H.out B1.out.bel HN.out (tellN _) (fun k hk => by cases hk) (fun _ => trivial) (by simp)).mono ?_
  intro e w3 hto
  rcases hto with ⟨hnb, _, _, _⟩ | ⟨_, pg, mb, w0, b, L2, va, vc, vv, rfl, hs, hG, hold, hcms, _, hc, hhist⟩
  · exact absurd HP.out hnb
  have HG := Lib.hid hG
  have hbel : Below w1.heap.size w1 w3 := hc.below (Nat.le_refl _) (fun k hk => by cases hk)
  have B3 := Lib.hid (B1.out.step hbel)
  have Hh := Lib.hid (show HistP F (auF F (cms l)).L vv by
    have e1 : b.b.f = F := hs.f
    have e2 : cms L2 = (auF F (cms l)).L := hcms
    rw [← e2, ← e1]; exact hhist)
  have hvm := hG.vmax
  have Hokv := Lib.hid hG.okv
  clear hs hG hold hcms hc hhist hbel d0 z0
  go_wp2_with fail
  refine (vv_G pg mb w0 3 b L2 va vc vv _ HG.out).mono ?_
  rintro e w4 ⟨na, nc, rfl, ho, hb⟩
  have B4 := Lib.hid (B3.out.step hb)
  have HV := Lib.hid ho.vec
  clear ho hb HG B3
  have d0 := cells_at B4.out.blk
  have z0 := heap_lt B4.out.blk
  simp only [sncells] at d0
  go_wp2_with fail
  clear d0 z0
  go_loopw [21, 5] (fun j rv wr => ∃ (q : Nat) (aa : Option Addr) (ac : Nat), q ≤ l.length ∧ j = .int .i64 q ∧ rv = .slice aa (allV ((cms l).take q)).length ac ∧ Hid (Vec wr aa ac (allV ((cms l).take q))) ∧ Hid (Below w4.heap.size w4 wr)) (fun j _ _ => l.length - (intOf j).toNat)
  case atStart => exact ⟨0, none, 0, Nat.zero_le _, rfl, rfl, Lib.hid (Sl.nil _ _), Lib.hid (Below.refl _ _)⟩
  case round =>
    obtain ⟨q, aa, ac, hq, rfl, rfl, HA, BR⟩ := hrel
    have BS := Lib.hid (B4.out.step BR.out)
    have hA1 := (allV_ok ((cms l).take q) (Hokc.out q)).2.1
    have HA2 := Lib.hid (allV_ok ((cms l).take q) (Hokc.out q)).1
    by_cases hlt : q < l.length
    · obtain ⟨u, hu⟩ : ∃ u, l[q]? = some u := ⟨l[q], by simp [hlt]⟩
      obtain ⟨ae, hae, ⟨c0, c1, c2, c3, c4, c5, c6, c7, c8, c9, c10⟩, hlb⟩ := (H.out.cms.below BS.out.bel).at_ hu
      dsimp only at hae
      subst hae
      have Hat := Lib.hid (H.out.cms.each u (List.mem_of_getElem? hu))
      have Hn := Lib.hid (HN.out.each u (List.mem_of_getElem? hu))
      have Hcu := Lib.hid (cms_i hu)
      clear hu
      obtain ⟨⟨⟨⟨r, i⟩, s⟩, ps, uu, t1, ⟨kk, n, x1, p, ds⟩⟩, qa, qc, ua, uc, pa, pc, da, dc⟩ := u
      dsimp only at c0 c1 c2 c3 c4 c5 c6 c7 c8 c9 c10
      have hn2 := Hn.out.2.1
      dsimp only at hn2
      have HBx : Hid (BoxE 54 wr (wr.alloc (.cells (ccells r i s qa ps.length qc ua uu.length uc t1 kk pa p.length pc n x1 da ds.length dc) 54)) (ccells r i s qa ps.length qc ua uu.length uc t1 kk pa p.length pc n x1 da ds.length dc)) := Lib.hid ⟨heap_new _ _, (Below.refl _ _).alloc (Nat.le_refl _) _⟩
      have BA := Lib.hid (below2 BS.out.bel HBx.out.bel BS.out.bel.size)
      go_upto_region 9 with (fail)
      clear c0 c1 c2 c3 c4 c5 c6 c7 c8 c9 c10 hlb
      generalize (wr.alloc (.cells (ccells r i s qa ps.length qc ua uu.length uc t1 kk pa p.length pc n x1 da ds.length dc) 54)) = wB at HBx BA ⊢
      have d0 := cells_at HBx.out.blk
      have z0 := heap_lt HBx.out.blk
      simp only [ccells] at d0
      go_wp2_with fail
      refine (mayC_any ⟨⟨((r, i), s), ps, uu, t1, ⟨kk, n, x1, p, ds⟩⟩, qa, qc, ua, uc, pa, pc, da, dc⟩ _ (Hat.out.below BA.out) (by dsimp only; omega)).mono ?_
      rintro e w5 ⟨z, rfl, hz, hb⟩
      have Hz := Lib.hid hz
      have HB5 := Lib.hid (HBx.out.step hb)
      clear hb hz d0 z0
      have d0 := cells_at HB5.out.blk
      have z0 := heap_lt HB5.out.blk
      simp only [ccells] at d0
      cases z
      case false =>
        have hnx := Lib.hid (show allV ((cms l).take (q + 1)) = allV ((cms l).take q) by
          rw [take_snoc' Hcu.out]; exact allV_no (fun hc => by have := Hz.out.2 hc; cases this))
        have BR5 := Lib.hid (below2 BR.out HB5.out.bel BR.out.size)
        have HA5 := Lib.hid (HA.out.below HB5.out.bel)
        go_wp2_with fail
        go_roundw
        case rel => exact ⟨q + 1, aa, ac, by omega, by go_num, by rw [hnx.out], by rw [hnx.out]; exact HA5, BR5⟩
        case measure => simp [intOf]; omega
      case true =>
        have hC := Lib.hid (Hz.out.1 rfl)
        have hul : uu.length ≤ 64 := by have h1 := hC.out.canon; dsimp only at h1; rw [← h1]; exact vecOf_length _
        have hnx := Lib.hid (show allV ((cms l).take (q + 1)) = joinV (allV ((cms l).take q)) uu by
          rw [take_snoc' Hcu.out]; exact allV_yes hC.out)
        have HA5 := Lib.hid (HA.out.below HB5.out.bel)
        go_wp2_with fail
        refine (join_any aa ua ac uc (allV ((cms l).take q)) uu _ HA5.out (Hat.out.vv.below (below2 BS.out.bel HB5.out.bel BS.out.bel.size)) HA2.out Hat.out.ok.vv (by omega) (by omega)).mono ?_
        rintro e w6 ⟨ja, jc, rfl, ho, hb⟩
        have BR6 := Lib.hid (below2 BR.out (below2 HB5.out.bel hb HB5.out.bel.size) BR.out.size)
        have HJ := Lib.hid (vec_of ho)
        clear ho hb d0 z0
        go_wp2_with fail
        go_roundw
        case rel => exact ⟨q + 1, ja, jc, by omega, by go_num, by rw [hnx.out], by rw [hnx.out]; exact HJ, BR6⟩
        case measure => simp [intOf]; omega
    · have hall := Lib.hid (show (cms l).take q = cms l from List.take_of_length_le (by unfold cms; simp; omega))
      have HAf := Lib.hid (show Vec wr aa ac (allV (cms l)) by rw [← hall.out]; exact HA.out)
      have hal := hA1
      rw [hall.out] at hal ⊢
      have Hokv2 := Lib.hid (show okV (allV (cms l)) from (allV_ok (cms l) (fun c hc => Hokc.out q c (by rw [hall.out]; exact hc))).1)
      clear hA1 HA HA2
      generalize hA9 : allV (cms l) = A at HAf hal Hokv2 ⊢
      have HA9 := Lib.hid hA9
      clear hA9
      have HV2 := Lib.hid (HV.out.below BR.out)
      obtain ⟨wm, hwm⟩ : ∃ wm, wm = wr := ⟨_, rfl⟩
      rw [← hwm] at HAf HV2 BS BR
      go_wp2_with fail
      rw [← hwm]
      clear hwm
      go_loopw [34, 2] (fun j rv wx => ∃ (y : Nat) (V : List Dt) (oa : Option Addr) (oc : Nat), y ≤ A.length ∧ j = .int .i64 y ∧ rv = .slice oa V.length oc ∧ V.length ≤ y ∧ Hid (V = lostF vv (A.take y)) ∧ Hid (OwnD wx wm.heap.size oa oc V) ∧ Hid (Below wm.heap.size wm wx)) (fun j _ _ => A.length - (intOf j).toNat)
      case atStart => exact ⟨0, [], none, 0, Nat.zero_le _, rfl, rfl, Nat.le_refl _, Lib.hid rfl, Lib.hid (OwnD.nil _ _), Lib.hid (Below.refl _ _)⟩
      case round =>
        obtain ⟨y, V, oa, oc, hy, rfl, rfl, hVy, HVl, HVo, BX⟩ := hrel
        by_cases hlt2 : y < A.length
        rotate_left
        · have BF := Lib.hid (below2 BS.out.bel BX.out BS.out.bel.size)
          have HF := Lib.hid (show V = lostF vv (allV (cms l)) by rw [HA9.out]; have h1 := HVl.out; rwa [List.take_of_length_le (by omega)] at h1)
          have HOf := Lib.hid (OwnD.base HVo.out BS.out.bel.size)
          go_wp2_with fail
          go_ret
          exact ⟨oa, oc, V, rfl, HOf.out, BF.out, .inr ⟨HW.out, HP.out, vv, Hh.out, HF.out⟩⟩
        obtain ⟨⟨⟨r, i⟩, s⟩, hx⟩ : ∃ x, A[y]? = some x := ⟨A[y], by simp [hlt2]⟩
        obtain ⟨ad, had, c0, c1, c2, hl0⟩ := (HAf.out.below BX.out).at hx
        dsimp only at c0 c1 c2
        subst had
        have Hx := Lib.hid hx
        have hoA : okA (r, i) := (Hokv2.out _ (List.mem_of_getElem? hx)).1
        have HBx : Hid (BoxE 49 wr (wr.alloc (.cells #[.int .u8 r, .int .u32 i, .int .u64 s] 49)) #[.int .u8 r, .int .u32 i, .int .u64 s]) := Lib.hid ⟨heap_new _ _, (Below.refl _ _).alloc (Nat.le_refl _) _⟩
        clear hx
        go_upto_region 15 with (fail)
        clear c0 c1 c2 hl0
        generalize (wr.alloc (.cells #[.int .u8 r, .int .u32 i, .int .u64 s] 49)) = wB at HBx ⊢
        have HBd := Lib.hid (HBx.out.step (Below.refl _ _).drew)
        have d0 := cells_at HBx.out.blk
        have z0 := heap_lt HBx.out.blk
        refine region_text [([0, 1, 2, 3, 4], false), ([5], true), ([6], false)] mixed (by kernel_rfl) ?_
        simp only [wpSegs, List.map_cons, List.map_nil, List.getD_cons_succ, List.getD_cons_zero]
        go_wp2_with fail
        refine (get_any na nc vv r i _ ((HV2.out.below BX.out).below HBd.out.bel) Hokv.out (by omega) hoA).mono ?_
        rintro e w7 ⟨rfl, hb⟩
        have hAg := Agree.of_below hb
        have HB7 := Lib.hid (HBd.out.step hb)
        clear hb d0 z0
        have d0 := cells_at HB7.out.blk
        have z0 := heap_lt HB7.out.blk
        go_wp2_with fail
        refine And.intro hAg ?_
        clear hAg
        obtain ⟨gn, hgn⟩ : ∃ gn, gn = getN vv (r, i) := ⟨_, rfl⟩
        rw [← hgn]
        have Hgn := Lib.hid hgn
        clear hgn
        have BX7 := Lib.hid (below2 BX.out HB7.out.bel BX.out.size)
        have HVo7 := Lib.hid (HVo.out.below HB7.out.bel)
        by_cases hgt : gn < s
        · have y1 : decide (gn < s) = true := decide_eq_true hgt
          have hnx := Lib.hid (show lostF vv (A.take (y + 1)) = V ++ [((r, i), s)] by
            rw [take_snoc' Hx.out, HVl.out]; unfold lostF; rw [List.filter_append]; congr 1; simp [← Hgn.out, hgt])
          go_wp2_with fail
          refine And.intro (by kernel_rfl) ?_
          go_wp2_with (at_builtin; go_must (refine wpList_appV rfl _ _ rfl wm.heap.size oa oc V rfl ?o1 (some ⟨w7.heap.size, 0, none⟩) 1 [((r, i), s)] rfl (vec_one (heap_new _ _)) ?n1 ?b1 ?_))
          case o1 => exact HVo7.out.below ((Below.refl _ _).alloc (Nat.le_refl _) _)
          case n1 => simp; omega
          case b1 => have := BX7.out.size; simp; omega
          intro v9 aq cq w9 hv9 ho9 hb9 hc9
          have HF9 := Lib.hid (show v9 = lostF vv (A.take (y + 1)) by rw [hnx.out, hv9])
          have HO9 := Lib.hid ho9
          have BX9 := Lib.hid ((BX7.out.alloc BX7.out.size _).trans hb9)
          have hlv : v9.length ≤ y + 1 := by rw [hv9]; simp; omega
          clear hv9 ho9 hb9 hc9 d0 z0
          go_wp2_with fail
          go_roundw
          case rel => exact ⟨y + 1, v9, aq, cq, by omega, by go_num, rfl, hlv, HF9, HO9, BX9⟩
          case measure => simp [intOf]; omega
        · have y1 : decide (gn < s) = false := decide_eq_false hgt
          have hnx := Lib.hid (show V = lostF vv (A.take (y + 1)) by
            rw [take_snoc' Hx.out, HVl.out]; unfold lostF; rw [List.filter_append]; simp [← Hgn.out]; omega)
          go_wp2_with fail
          refine And.intro (by kernel_rfl) ?_
          go_wp2_with fail
          go_roundw
          case rel => exact ⟨y + 1, V, oa, oc, by omega, by go_num, rfl, by omega, hnx, HVo7, BX7⟩
          case measure => simp [intOf]; omega
end Go.Proofs.YtaandcblndldmaaGreat

/- AudK -/
namespace Go.Proofs.YtaandcblndldmaaGreat
open Go.RowKit
set_option linter.unusedVariables false
set_option linter.unusedSimpArgs false

/-- alike -/
structure SameSw (u v : Sw) : Prop where
  k : u.k = v.k
  ip : u.ip = v.ip
  incs : u.incs = v.incs
  base : SameBw u.b.b v.b.b
  l : cms u.l = cms v.l

set_option maxRecDepth 100000 in
set_option maxHeartbeats 8000000 in
theorem sameSnap_any (u v : Sw) (m m' : Nat) (w : World) (hu : SwAt w m u) (hv : SwAt w m' v) (hs : SameSw u v) (hN : SwN u) (hfew : u.l.length ≤ 1000) : Calls Tryz.prog 13 #[.agg (swcells u), .agg (swcells v)] w fun e w' => e = .returned (.bool true) ∧ Below w.heap.size w w' := by
  obtain ⟨k, ip, ia, ic, incs, ⟨⟨num, F, tips, t, tr⟩, fa, fc, ta, tc, ra, rc⟩, la, lc, l⟩ := u
  obtain ⟨k', ip', ia', ic', incs', ⟨⟨num', F', tips', t', tr'⟩, fa', fc', ta', tc', ra', rc'⟩, la', lc', l'⟩ := v
  obtain ⟨e1, e2, e3, ⟨e4, e5, e6, e7, e8⟩, e9⟩ := hs
  dsimp only at e1 e2 e3 e4 e5 e6 e7 e8 e9
  replace e4 := e4.symm
  replace e5 := e5.symm
  replace e6 := e6.symm
  replace e7 := e7.symm
  subst e1 e2 e3 e4 e5 e6 e7
  have HU := Lib.hid hu
  have HV := Lib.hid hv
  have HN := Lib.hid hN
  have HT := Lib.hid e8
  have HL := Lib.hid e9
  have n1 := hN.incs
  dsimp only at n1 hfew
  clear hu hv hN e8 e9
  have E : Hid (((w.alloc (.cells (sncells k ip ia incs.length ic num fa F.length fc ta tips.length tc t ra tr.length rc la l.length lc) 35)).alloc (.cells (sncells k ip ia' incs.length ic' num fa' F.length fc' ta' tips.length tc' t ra' tr'.length rc' la' l'.length lc') 35)).heap[w.heap.size]? = some (.cells (sncells k ip ia incs.length ic num fa F.length fc ta tips.length tc t ra tr.length rc la l.length lc) 35 (0, 0)) ∧ ((w.alloc (.cells (sncells k ip ia incs.length ic num fa F.length fc ta tips.length tc t ra tr.length rc la l.length lc) 35)).alloc (.cells (sncells k ip ia' incs.length ic' num fa' F.length fc' ta' tips.length tc' t ra' tr'.length rc' la' l'.length lc') 35)).heap[w.heap.size + 1]? = some (.cells (sncells k ip ia' incs.length ic' num fa' F.length fc' ta' tips.length tc' t ra' tr'.length rc' la' l'.length lc') 35 (0, 0)) ∧ Below w.heap.size w ((w.alloc (.cells (sncells k ip ia incs.length ic num fa F.length fc ta tips.length tc t ra tr.length rc la l.length lc) 35)).alloc (.cells (sncells k ip ia' incs.length ic' num fa' F.length fc' ta' tips.length tc' t ra' tr'.length rc' la' l'.length lc') 35))) := Lib.hid ⟨(heap_old _ _ (by simp)).trans (heap_new _ _), heap_new2 _ _ _, ((Below.refl _ _).alloc (Nat.le_refl _) _).alloc (by simp) _⟩
  simp only [swcells]
  go_enter Tryz.func13, Tryz.ntmps13
  go_upto_region 1 with (fail)
  generalize ((w.alloc (.cells (sncells k ip ia incs.length ic num fa F.length fc ta tips.length tc t ra tr.length rc la l.length lc) 35)).alloc (.cells (sncells k ip ia' incs.length ic' num fa' F.length fc' ta' tips.length tc' t ra' tr'.length rc' la' l'.length lc') 35)) = wa at E ⊢
  have x0 := heap_lt E.out.1
  have x1 := heap_lt E.out.2.1
  have d0 := cells_at E.out.1
  have d1 := cells_at E.out.2.1
  simp only [sncells] at d0 d1
  have y2 : decide (incs = incs) = true := decide_eq_true rfl
  go_wp2_with fail
  refine (rsameI_any ia ia' ic ic' incs incs _ (HU.out.inc.below E.out.2.2) (HV.out.inc.below E.out.2.2) n1 n1).mono ?_
  rintro e w1 ⟨rfl, hb⟩
  have W1 := Lib.hid hb
  clear hb d0 d1
  have d0 := cells_at ((W1.out.block _ x0).trans E.out.1)
  have d1 := cells_at ((W1.out.block _ x1).trans E.out.2.1)
  have z0 := heap_lt ((W1.out.block _ x0).trans E.out.1)
  have z1 := heap_lt ((W1.out.block _ x1).trans E.out.2.1)
  simp only [sncells] at d0 d1
  have B1 := Lib.hid (below2 E.out.2.2 W1.out E.out.2.2.size)
  go_wp2_with fail
  refine (sameBase_any ⟨⟨num, F, tips, t, tr⟩, fa, fc, ta, tc, ra, rc⟩ ⟨⟨num, F, tips, t, tr'⟩, fa', fc', ta', tc', ra', rc'⟩ m m' _ (HU.out.b.below B1.out) (HV.out.b.below B1.out) ⟨rfl, rfl, rfl, rfl, HT.out⟩ HN.out.tr HN.out.f HN.out.tips).mono ?_
  rintro e w2 ⟨rfl, hb⟩
  have W2 := Lib.hid (below2 W1.out hb W1.out.size)
  clear hb d0 d1 z0 z1
  have d0 := cells_at ((W2.out.block _ x0).trans E.out.1)
  have d1 := cells_at ((W2.out.block _ x1).trans E.out.2.1)
  have z0 := heap_lt ((W2.out.block _ x0).trans E.out.1)
  have z1 := heap_lt ((W2.out.block _ x1).trans E.out.2.1)
  simp only [sncells] at d0 d1
  have B2 := Lib.hid (below2 E.out.2.2 W2.out E.out.2.2.size)
  go_wp2_with fail
  refine (sameAll11_any la la' lc lc' l l' _ (HU.out.cms.below B2.out) (HV.out.cms.below B2.out) HN.out.each HL.out hfew).mono ?_
  rintro e w3 ⟨rfl, hb⟩
  have B3 := Lib.hid (below2 B2.out hb B2.out.size)
  clear hb d0 d1 z0 z1
  go_wp2_with fail
  go_ret
  exact ⟨rfl, B3.out⟩
end Go.Proofs.YtaandcblndldmaaGreat

/- LwV -/
namespace Go.Proofs.YtaandcblndldmaaGreat
open Go.RowKit
set_option linter.unusedVariables false
set_option linter.unusedSimpArgs false

theorem SwOwn.at_ {w w0 : World} {base m : Nat} {v x : Sw} {R : List Cw} (h : SwOwn w base x) (hS : SalvP v x R) (hv : SwAt w0 m v) : SwAt w 3 x :=
  ⟨Sl.of_owns h.inc, ⟨h.b.f.vec, h.b.tips.vec, OwnT.rd h.b.tr, by rw [hS.base.f]; exact hv.b.okf, by rw [hS.base.tips]; exact hv.b.okt, by rw [hS.base.num]; exact hv.b.num, by rw [hS.base.t]; exact hv.b.t⟩, ⟨h.row.cms, fun u hu => (h.each u hu).at_⟩, by rw [hS.k]; exact hv.k, by rw [hS.ip]; exact hv.ip⟩
theorem filterMap_len {cs : List Cm} : ∀ {g : List Nat}, (∀ k ∈ g, k < cs.length) → (g.filterMap fun k => cs[k]?).length = g.length
  | [], _ => rfl
  | k :: g, h => by
    have h1 := h k (by simp)
    have h2 := filterMap_len (cs := cs) (g := g) (fun x hx => h x (List.mem_cons_of_mem _ hx))
    rw [List.filterMap_cons]
    have h3 : cs[k]? = some (cs[k]'h1) := by simp
    rw [h3]
    simp [h2]
/-- what holds of what is saved -/
structure SavP (v x : Sw) (R : List Cw) : Prop where
  may_ : RecP x
  gone : (auF x.b.b.f (cms x.l)).gone = []
  n : SwN x
  few : x.l.length ≤ 20
  len : x.l.length + R.length = v.l.length
  none : R = [] → (auF v.b.b.f (cms v.l)).gone = []
theorem SalvP.sav {v x : Sw} {R : List Cw} (h : SalvP v x R) {w0 : World} {m : Nat} (hv : SwAt w0 m v) (hN : SwN v) (hw : whoB v = true) (hP : BaseP v.b.b) (hfew : v.l.length ≤ 20) : SavP v x R := by
  have hok : ∀ c ∈ cms v.l, okV c.vv := fun c hc => by
    obtain ⟨u, hu, rfl⟩ := List.mem_map.1 hc
    exact (hv.cms.each u hu).ok.vv
  have hA := auF_P v.b.b.f (cms v.l)
  have hcl : (cms v.l).length = v.l.length := by simp [cms]
  have hxl : (cms x.l).length = x.l.length := by simp [cms]
  have hpl := h.perm.length_eq
  have hal := hA.len
  obtain ⟨hi, vv, hvv, hh⟩ := auF_hist hv.b.okf hP.canon (cms v.l) hok
  have hf := h.base.f
  have hg : (auF x.b.b.f (cms x.l)).gone = [] := by rw [hf]; exact (auF_sorted hv.b.okf hP.canon hok h.perm h.sorted (by omega)).1
  have hR : R.length = (auF v.b.b.f (cms v.l)).gone.length := by
    have h1 := congrArg List.length h.gone
    rw [filterMap_len (fun k hk => hA.each k hk)] at h1
    simpa [cms] using h1
  refine ⟨⟨?_, SameBw.base h.base hP, hg, h.sorted⟩, hg, ⟨by rw [h.incs]; exact hN.incs, by rw [hf]; exact hN.f, by rw [h.base.tips]; exact hN.tips, BdA.same hN.tr h.base.tr, by omega, fun u hu => ?_⟩, by omega, by omega, fun e => ?_⟩
  · show mayK ⟨x.k, x.ip, x.incs, []⟩ x.incs.length = true
    rw [h.k, h.ip, h.incs]; exact hw
  · exact CmP.b (hh.may u.c (h.perm.mem_iff.1 (List.mem_map.2 ⟨u, hu, rfl⟩)))
  · rw [e] at hR
    exact List.eq_nil_of_length_eq_zero hR.symm
end Go.Proofs.YtaandcblndldmaaGreat
