/- batch.both; slices.Clone of dots. | Strings, operations in memory of one's own; Clone of strings. | batch.own. | slices.Equal of strings. | what batch asks of an operation that waits: add$1, set$1, put$1, drop$1. | drop$1. | like$1, for each question. (printed by wip/tools/genlike.py) -/
import Derived.Test.YtmabjghjkgicgaaGreatBatA
import Derived.Test.YtmabjghjkgicgaaGreatFuseG
/- BatC -/
namespace Go.Proofs.YtmabjghjkgicgaaGreat
open Go.RowKit
set_option linter.unusedVariables false
set_option linter.unusedSimpArgs false

def BothD (w : World) (l m : List Dt) (e : Ending) (w' : World) : Prop := ∃ a' c' v', e = .returned (.slice a' (List.length v') c') ∧ TombsOf l m v' ∧ OwnD w' w.heap.size a' c' v' ∧ Below w.heap.size w w'
set_option maxRecDepth 100000 in
set_option maxHeartbeats 2000000 in
theorem bothD_any (a b : Option Addr) (c d : Nat) (l m : List Dt) (w : World) (hv : Vec w a c l) (hu : Vec w b d m) (hn : l.length ≤ 1000000) (hm : m.length ≤ 1000000) :
    Calls Tryz.prog 44 #[.slice a l.length c, .slice b m.length d] w (BothD w l m) := by
  have Hv := Lib.hid hv
  have Hu := Lib.hid hu
  clear hv hu
  go_enter Tryz.func44, Tryz.ntmps44
  go_wp2_with fail
  refine (concatD_any a b c d w.heap.size l m _ (Hv.out.below ?h1) (Hu.out.below ?h2) (heap_new w _) hn hm).mono ?_
  case h1 => exact (Below.refl _ _).alloc (Nat.le_refl _) _
  case h2 => exact (Below.refl _ _).alloc (Nat.le_refl _) _
  rintro e w1 ⟨ca, cc, all, rfl, hall, hoK, hbK⟩
  have hlen : all.length ≤ 2000000 := by rw [hall]; simp; omega
  have Hok := Lib.hid (hoK.base (base' := w.heap.size) (by simp))
  have Hall := Lib.hid hall
  have HB := Lib.hid (new1 hbK).2.2
  clear hall hoK hbK
  go_wp2_with fail
  refine (sortD_any ca cc w.heap.size all _ Hok.out (by omega)).mono ?_
  rintro e w2 ⟨rfl, l2, hl2, hp2, hs2, ho2, hC2⟩
  have HB2 : Hid (Below w.heap.size w w2) := Lib.hid (HB.out.trans (hC2.below HB.out.size (fun q hq => (owns_lt Hok.out q hq).1)))
  have Hp2 := Lib.hid (show l2.Perm (l ++ m) by rw [← Hall.out]; exact hp2)
  have Hs2 := Lib.hid (show upS l2 from hs2)
  have Ho2 := Lib.hid ho2
  have hlen2 : l2.length ≤ 2000000 := by omega
  rw [← hl2]
  clear hp2 hs2 ho2 hC2 HB hl2
  go_wp2_with fail
  refine (compact_any ca cc w.heap.size l2 _ Ho2.out Hs2.out (by omega)).mono ?_
  rintro e w3 ⟨v3, rfl, hup3, hmem3, ho3, hC3⟩
  have HB3 : Hid (Below w.heap.size w w3) := Lib.hid (HB2.out.trans (hC3.below HB2.out.size (fun q hq => (owns_lt Ho2.out q hq).1)))
  have HT := Lib.hid (tombs_sorted Hp2.out hup3 hmem3)
  have Ho3 := Lib.hid ho3
  clear hup3 hmem3 ho3 hC3
  go_wp2_with fail
  go_ret
  exact ⟨ca, cc, v3, rfl, HT.out, Ho3.out, HB3.out⟩
set_option maxRecDepth 100000 in
set_option maxHeartbeats 1000000 in
theorem cloneD_any (a : Option Addr) (c : Nat) (l : List Dt) (w : World) (hv : Vec w a c l) (hn : l.length ≤ 1000000) :
    Calls Tryz.prog 71 #[.slice a l.length c] w fun e w' => ∃ a' c' v', e = .returned (.slice a' (List.length v') c') ∧ v' = l ∧ OwnD w' w.heap.size a' c' v' ∧ Below w.heap.size w w' := by
  have Hv := Lib.hid hv
  have heq := fun (w : World) (a : Option Addr) (n c : Nat) => Lib.run_eql_slice_nil (P := Tryz.prog) w 46 44 a n c 0 0 Tryz.underlying46
  cases a with
  | none =>
    obtain ⟨h1, h2, h3, ⟨_, h4, h5⟩ | ⟨b, hb, _⟩⟩ := hv
    · subst h5
      obtain rfl : l = [] := List.eq_nil_of_length_eq_zero h4
      clear h1 h2 h3 h4 Hv
      go_enter Tryz.func71, Tryz.ntmps71
      go_wp2_with fail
      go_ret
      exact ⟨none, 0, [], rfl, rfl, OwnD.nil _ _, Below.refl _ _⟩
    · cases hb
  | some ad =>
    clear hv
    go_enter Tryz.func71, Tryz.ntmps71
    go_wp2_with (at_builtin; go_must (refine wpList_appD rfl _ _ rfl w.heap.size (some ⟨w.heap.size, 0, none⟩) 0 [] rfl (OwnD.made w (Nat.le_refl _)) (some ad) c l rfl (Hv.out.below ((Below.refl _ _).alloc (Nat.le_refl _) _)) ?n1 ?b1 ?_))
    case n1 => simp; omega
    case b1 => simp
    intro v' a' c' w2 hv' ho2 hb2 _
    have Hv' := Lib.hid hv'
    have HB2 : Hid (Below w.heap.size w w2) := Lib.hid (((Below.refl _ _).alloc (Nat.le_refl _) _).trans hb2)
    have Ho2 := Lib.hid ho2
    clear hv' ho2 hb2
    go_wp2_with fail
    go_ret
    exact ⟨a', c', v', rfl, by rw [Hv'.out], Ho2.out, HB2.out⟩
end Go.Proofs.YtmabjghjkgicgaaGreat

/- BatD -/
namespace Go.Proofs.YtmabjghjkgicgaaGreat
open Go.RowKit
set_option linter.unusedVariables false
set_option linter.unusedSimpArgs false

theorem Tryz.info_str : (Tryz.prog.info? 9).map (fun i => (i.zero, i.size, i.bytes)) = some (some (.string ⟨#[]⟩), 1, 16) := by kernel_rfl
theorem Tryz.info_op : (Tryz.prog.info? 59).map (fun i => (i.zero, i.size, i.bytes)) = some (some (.agg #[.int .u8 0, .slice none 0 0, .int .i64 0, .string ⟨#[]⟩, .slice none 0 0]), 5, 80) := by kernel_rfl
theorem scells_one (l : List ByteArray) : ∀ u ∈ scells l, u.oneCell' = true := by
  intro u hu
  simp only [scells, List.mem_map] at hu
  obtain ⟨x, _, rfl⟩ := hu
  rfl
theorem scells_append (l m : List ByteArray) : scells (l ++ m) = scells l ++ scells m := by simp [scells]
/-- strings in memory of one's own -/
def OwnS (w : World) (base : Nat) (a : Option Addr) (c : Nat) (v : List ByteArray) : Prop := w.ownsRow base 9 1 (.slice a v.length c) v.length (scells v)
theorem OwnS.strs {w : World} {base : Nat} {a : Option Addr} {c : Nat} {v : List ByteArray} (h : OwnS w base a c v) : Strs w a c v := Sl.of_owns h
theorem OwnS.nil (w : World) (base : Nat) : OwnS w base none 0 [] := World.ownsRow_nil _ _ _ _
theorem OwnS.made (w : World) {base : Nat} (h : base ≤ w.heap.size) : OwnS (w.alloc (.cells #[] 9)) base (some ⟨w.heap.size, 0, none⟩) 0 [] := World.ownsRow_made w #[] 0 h (by decide) rfl
theorem OwnS.base {w : World} {base base' : Nat} {a : Option Addr} {c : Nat} {v : List ByteArray} (h : OwnS w base a c v) (hb : base' ≤ base) : OwnS w base' a c v := owns_base h hb
theorem OwnS.below {w w' : World} {base : Nat} {a : Option Addr} {c : Nat} {v : List ByteArray} (h : OwnS w base a c v) (hb : Below w.heap.size w w') : OwnS w' base a c v := owns_chg (F := []) h (Chg.of_below hb) (by simp)
/-- cells of operations -/
def opcells (V : List Ow) : List Value := V.flatMap (fun v => (owcells v).toList)
theorem opcells_one (V : List Ow) : ∀ u ∈ opcells V, u.oneCell' = true := by
  intro u hu
  simp only [opcells, List.mem_flatMap] at hu
  obtain ⟨x, _, hx⟩ := hu
  simp [owcells, ocells] at hx
  rcases hx with rfl | rfl | rfl | rfl | rfl <;> rfl
theorem opcells_append (l m : List Ow) : opcells (l ++ m) = opcells l ++ opcells m := by simp [opcells]
/-- operations in memory of one's own -/
def OwnO (w : World) (base : Nat) (a : Option Addr) (c : Nat) (V : List Ow) : Prop := w.ownsRow base 59 5 (.slice a V.length c) V.length (opcells V)
theorem OwnO.sl {w : World} {base : Nat} {a : Option Addr} {c : Nat} {V : List Ow} (h : OwnO w base a c V) : Sl w 5 a V.length c (opcells V) := Sl.of_owns h
theorem OwnO.nil (w : World) (base : Nat) : OwnO w base none 0 [] := World.ownsRow_nil _ _ _ _
theorem OwnO.base {w : World} {base base' : Nat} {a : Option Addr} {c : Nat} {V : List Ow} (h : OwnO w base a c V) (hb : base' ≤ base) : OwnO w base' a c V := owns_base h hb
theorem OwnO.below {w w' : World} {base : Nat} {a : Option Addr} {c : Nat} {V : List Ow} (h : OwnO w base a c V) (hb : Below w.heap.size w w') : OwnO w' base a c V := owns_chg (F := []) h (Chg.of_below hb) (by simp)
section
variable {w : World} {ops : Array Oper} {rest : List Oper} {o : Oper} {a : Act} {Q : Exit → Act → World → Prop}
theorem wpList_appS (hgd : o.guard = none) (s x : Operand) (ho : o.op = .call { callee := .builtin .append, args := #[s, x], argTypes := #[39, 39] })
    (base : Nat) (va : Option Addr) (vc : Nat) (v : List ByteArray) (hs : a.eval s = .slice va v.length vc) (hown : OwnS w base va vc v)
    (sa : Option Addr) (c : Nat) (u : List ByteArray) (hx : a.eval x = .slice sa u.length c) (hsl : Strs w sa c u) (hn : v.length + u.length ≤ 3000000) (hbase : base ≤ w.heap.size)
    (h : ∀ v' a' c' w', v' = v ++ u → OwnS w' base a' c' v' → Below base w w' → Chg (ob va) w w' → wpList Tryz.prog ops Q rest (a.put o.dst (.slice a' (List.length v') c')) w') : wpList Tryz.prog ops Q (o :: rest) a w := by
  obtain ⟨i0, hi0, hz0, hz1, hz2⟩ := info_parts Tryz.info_str
  refine wpList_append_sl hgd s x 39 ho base 9 i0 (.string ⟨#[]⟩) 1 16 Tryz.underlying39 hi0 hz0 hz1 hz2 rfl (by decide) va v.length vc (scells v) hs hown sa u.length c (scells u) hx hsl (scells_one u) (by unfold maxLen; omega) (by omega) hbase fun a' c' w' h1 h2 h3 => ?_
  have := h (v ++ u) a' c' w' rfl (by unfold OwnS; rw [scells_append, List.length_append]; exact h1) (h2.below hbase fun k hk => (owns_lt hown k hk).1) h2
  rwa [List.length_append] at this
theorem wpList_appO (hgd : o.guard = none) (s x : Operand) (ho : o.op = .call { callee := .builtin .append, args := #[s, x], argTypes := #[24, 24] })
    (base : Nat) (va : Option Addr) (vc : Nat) (v : List Ow) (hs : a.eval s = .slice va v.length vc) (hown : OwnO w base va vc v)
    (sa : Option Addr) (c : Nat) (u : List Ow) (hx : a.eval x = .slice sa u.length c) (hsl : Sl w 5 sa u.length c (opcells u)) (hn : v.length + u.length ≤ 3000000) (hbase : base ≤ w.heap.size)
    (h : ∀ v' a' c' w', v' = v ++ u → OwnO w' base a' c' v' → Below base w w' → Chg (ob va) w w' → wpList Tryz.prog ops Q rest (a.put o.dst (.slice a' (List.length v') c')) w') : wpList Tryz.prog ops Q (o :: rest) a w := by
  obtain ⟨i0, hi0, hz0, hz1, hz2⟩ := info_parts Tryz.info_op
  refine wpList_append_sl hgd s x 24 ho base 59 i0 (.agg #[.int .u8 0, .slice none 0 0, .int .i64 0, .string ⟨#[]⟩, .slice none 0 0]) 5 80 Tryz.underlying24 hi0 hz0 hz1 hz2 rfl (by decide) va v.length vc (opcells v) hs hown sa u.length c (opcells u) hx hsl (opcells_one u) (by unfold maxLen; omega) (by omega) hbase fun a' c' w' h1 h2 h3 => ?_
  have := h (v ++ u) a' c' w' rfl (by unfold OwnO; rw [opcells_append, List.length_append]; exact h1) (h2.below hbase fun k hk => (owns_lt hown k hk).1) h2
  rwa [List.length_append] at this
end
set_option maxRecDepth 100000 in
set_option maxHeartbeats 1000000 in
theorem cloneS_any (a : Option Addr) (c : Nat) (l : List ByteArray) (w : World) (hv : Strs w a c l) (hn : l.length ≤ 1000000) :
    Calls Tryz.prog 70 #[.slice a l.length c] w fun e w' => ∃ a' c' v', e = .returned (.slice a' (List.length v') c') ∧ v' = l ∧ OwnS w' w.heap.size a' c' v' ∧ Below w.heap.size w w' := by
  have Hv := Lib.hid hv
  have heq := fun (w : World) (a : Option Addr) (n c : Nat) => Lib.run_eql_slice_nil (P := Tryz.prog) w 39 9 a n c 0 0 Tryz.underlying39
  cases a with
  | none =>
    obtain ⟨h1, h2, h3, ⟨_, h4, h5⟩ | ⟨b, hb, _⟩⟩ := hv
    · subst h5
      obtain rfl : l = [] := List.eq_nil_of_length_eq_zero h4
      clear h1 h2 h3 h4 Hv
      go_enter Tryz.func70, Tryz.ntmps70
      go_wp2_with fail
      go_ret
      exact ⟨none, 0, [], rfl, rfl, OwnS.nil _ _, Below.refl _ _⟩
    · cases hb
  | some ad =>
    clear hv
    go_enter Tryz.func70, Tryz.ntmps70
    go_wp2_with (at_builtin; go_must (refine wpList_appS rfl _ _ rfl w.heap.size (some ⟨w.heap.size, 0, none⟩) 0 [] rfl (OwnS.made w (Nat.le_refl _)) (some ad) c l rfl (Hv.out.below ((Below.refl _ _).alloc (Nat.le_refl _) _)) ?n1 ?b1 ?_))
    case n1 => simp; omega
    case b1 => simp
    intro v' a' c' w2 hv' ho2 hb2 _
    have Hv' := Lib.hid hv'
    have HB2 : Hid (Below w.heap.size w w2) := Lib.hid (((Below.refl _ _).alloc (Nat.le_refl _) _).trans hb2)
    have Ho2 := Lib.hid ho2
    clear hv' ho2 hb2
    go_wp2_with fail
    go_ret
    exact ⟨a', c', v', rfl, by rw [Hv'.out], Ho2.out, HB2.out⟩
end Go.Proofs.YtmabjghjkgicgaaGreat

/- BatE -/
namespace Go.Proofs.YtmabjghjkgicgaaGreat
open Go.RowKit
set_option linter.unusedVariables false
set_option linter.unusedSimpArgs false

theorem Chg.put {F : List Nat} {a b : World} (h : Chg F a b) (p : Addr) (v : Value) (hp : p.block ∈ F) : Chg F a (b.setCell p v) := h.trans (Chg.setCell b p v) (fun x hx _ => by
  obtain rfl : x = p.block := by simpa using hx
  exact hp)
/-- an operation of one's own -/
def OwnTo (w : World) (v : Ow) (e : Ending) (w' : World) : Prop := ∃ u : Ow, e = .returned (.agg #[.int .u8 u.o.k, .slice u.pa u.o.p.length u.pc, .int .i64 u.o.n, .string u.o.x, .slice u.da u.o.ds.length u.dc]) ∧ u.o = v.o ∧ OwnS w' w.heap.size u.pa u.pc u.o.p ∧ OwnD w' w.heap.size u.da u.dc u.o.ds ∧ Below w.heap.size w w'
set_option maxRecDepth 100000 in
set_option maxHeartbeats 4000000 in
theorem own_any (v : Ow) (w : World) (h : OwAt w v) (hp : v.o.p.length ≤ 1000000) (hd : v.o.ds.length ≤ 1000000) : Calls Tryz.prog 45 #[.agg #[.int .u8 v.o.k, .slice v.pa v.o.p.length v.pc, .int .i64 v.o.n, .string v.o.x, .slice v.da v.o.ds.length v.dc]] w (OwnTo w v) := by
  have H := Lib.hid h
  clear h
  go_enter Tryz.func45, Tryz.ntmps45
  go_wp2_with fail
  refine region_text [([0, 1, 3, 4], false), ([2], true), ([6, 5, 7, 8, 9], false)] mixed (by kernel_rfl) ?_
  simp only [wpSegs, List.map_cons, List.map_nil, List.getD_cons_succ, List.getD_cons_zero]
  go_wp2_with fail
  refine (cloneS_any v.pa v.pc v.o.p _ (H.out.below ?h1).pt hp).mono ?_
  case h1 => exact (((Below.refl _ _).alloc (Nat.le_refl _) _).alloc (by simp) _).drew
  rintro e w1 ⟨a1, c1, p1, rfl, hp1, ho1, hb1⟩
  obtain ⟨x0, y0, hz1, hB1⟩ := new2 (((Below.refl _ _).drew).trans hb1)
  have Ho1 := Lib.hid (OwnS.base (base' := w.heap.size + 2) ho1 (by simp))
  have Hp1 := Lib.hid hp1
  have X1 := Lib.hid x0
  have Y1 := Lib.hid y0
  have HB1 := Lib.hid hB1
  go_wp2_with fail
  refine And.intro (Agree.of_below hb1) ?_
  clear hb1 hp1 ho1 x0 y0 hB1
  go_wp2_with fail
  refine (cloneD_any v.da v.dc v.o.ds _ (H.out.below HB1.out).ds hd).mono ?_
  rintro e w2 ⟨a2, c2, d2, rfl, hd2, ho2, hb2⟩
  have Ho1' := Lib.hid (Ho1.out.below hb2)
  have Ho2 := Lib.hid (OwnD.base (base' := w.heap.size + 2) ho2 hz1)
  have Hd2 := Lib.hid hd2
  have HB2 := Lib.hid (below2 HB1.out hb2 HB1.out.size)
  have X2 := Lib.hid ((hb2.block _ (heap_lt X1.out)).trans X1.out)
  have Y2 := Lib.hid ((hb2.block _ (heap_lt Y1.out)).trans Y1.out)
  have hz2 : w.heap.size + 2 ≤ w2.heap.size := by have := hb2.size; omega
  have d0 := cells_at X2.out
  have e0 := cells_at Y2.out
  have f0 := free_at X2.out
  have g0 := free_at Y2.out
  clear hd2 ho2 hb2 X1 Y1 HB1 Ho1
  go_wp2_with fail
  refine And.intro (by kernel_rfl) ?_
  go_wp2_with fail
  have Ho1 := Ho1'.out
  have Ho3 := Ho2.out
  rw [Hp1.out] at Ho1
  rw [Hd2.out] at Ho3 ⊢
  have hC : Chg [w.heap.size, w.heap.size + 1] w2 (((((((w2.setCell ⟨w.heap.size, 1, none⟩ (.slice a1 v.o.p.length c1)).setCell ⟨w.heap.size, 4, none⟩ (.slice a2 v.o.ds.length c2)).setCell ⟨w.heap.size + 1, 0, none⟩ (.int .u8 v.o.k)).setCell ⟨w.heap.size + 1, 1, none⟩ (.slice a1 v.o.p.length c1)).setCell ⟨w.heap.size + 1, 2, none⟩ (.int .i64 v.o.n)).setCell ⟨w.heap.size + 1, 3, none⟩ (.string v.o.x)).setCell ⟨w.heap.size + 1, 4, none⟩ (.slice a2 v.o.ds.length c2)) :=
    (((((((Chg.refl _ _).put _ _ (by simp)).put _ _ (by simp)).put _ _ (by simp)).put _ _ (by simp)).put _ _ (by simp)).put _ _ (by simp)).put _ _ (by simp)
  refine bodyPost_ret (v := .agg #[.int .u8 v.o.k, .slice a1 v.o.p.length c1, .int .i64 v.o.n, .string v.o.x, .slice a2 v.o.ds.length c2]) (by simp [results, Tryz.results45, go_sem, d0, e0]; try rfl) rfl ⟨⟨v.o, a1, c1, a2, c2⟩, rfl, rfl, ?_, ?_, ?_⟩
  · exact OwnS.base (owns_chg Ho1 hC (fun k hk hm => by have := (owns_lt Ho1 k hk).1; simp at hm; omega)) (by omega)
  · exact OwnD.base (owns_chg Ho3 hC (fun k hk hm => by have := (owns_lt Ho3 k hk).1; simp at hm; omega)) (by omega)
  · exact HB2.out.trans (hC.below HB2.out.size (by simp))
end Go.Proofs.YtmabjghjkgicgaaGreat

/- BatF -/
namespace Go.Proofs.YtmabjghjkgicgaaGreat
open Go.RowKit
set_option linter.unusedVariables false
set_option linter.unusedSimpArgs false

set_option maxHeartbeats 4000000 in
theorem equalS_any (a b : Option Addr) (c d : Nat) (l m : List ByteArray) (w : World) (hv : Strs w a c l) (hu : Strs w b d m) (hn : l.length ≤ 1000000) (hm : m.length ≤ 1000000) :
    Calls Tryz.prog 65 #[.slice a l.length c, .slice b m.length d] w (IsTo w (l = m)) := by
  have Hv := Lib.hid hv
  have Hu := Lib.hid hu
  clear hv hu
  by_cases hl : l.length = m.length
  · have Hl := Lib.hid hl
    rw [← hl]
    clear hl
    go_enter Tryz.func65, Tryz.ntmps65
    go_wp2_with fail
    go_loopw [13] (fun j wr => ∃ k : Nat, k ≤ l.length ∧ j = .int .i64 k ∧ Hid (l.take k = m.take k) ∧ Below w.heap.size w wr) (fun j _ => l.length - (intOf j).toNat)
    case atStart => exact ⟨0, Nat.zero_le _, rfl, Lib.hid (by simp), Below.refl _ _⟩
    case round =>
      obtain ⟨k, hk, rfl, hle, hb⟩ := hrel
      have Hb := Lib.hid hb
      clear hb
      by_cases hlt : k < l.length
      · have hlm : k < m.length := by have := Hl.out; omega
        obtain ⟨x, hx⟩ : ∃ x, l[k]? = some x := ⟨l[k], by simp [hlt]⟩
        obtain ⟨y, hy⟩ : ∃ y, m[k]? = some y := ⟨m[k], by simp [hlm]⟩
        obtain ⟨ad, had, d0, hl0⟩ := (Hv.out.below Hb.out).at hx
        obtain ⟨ae, hae, e0, hl1⟩ := (Hu.out.below Hb.out).at hy
        subst had hae
        have Hx := Lib.hid hx
        have Hy := Lib.hid hy
        clear hx hy
        by_cases hq : x = y
        · subst hq
          go_wp2_with fail
          refine region_text [([0, 1, 2, 3, 4, 5, 6, 7, 8], false)] mixed (by kernel_rfl) ?_
          simp only [wpSegs, List.map_cons, List.map_nil, List.getD_cons_succ, List.getD_cons_zero]
          go_wp2_with fail
          refine And.intro (by kernel_rfl) ?_
          go_wp2_with fail
          go_roundw
          case rel => exact ⟨k + 1, by omega, by go_num, Lib.hid (by rw [take_snoc' Hx.out, take_snoc' Hy.out, hle.out]), below_drewN Hb.out _⟩
          case measure => simp [intOf]; omega
        · have q1 : (x.toList == y.toList) = false := by rw [beq_bytes]; simpa using hq
          have He := Lib.hid (show ¬ l = m by intro e; subst e; have := Hx.out.symm.trans Hy.out; rw [Option.some.injEq] at this; exact hq this)
          go_wp2_with fail
          refine region_text [([0, 1, 2, 3, 4, 5, 6, 7, 8], false)] mixed (by kernel_rfl) ?_
          simp only [wpSegs, List.map_cons, List.map_nil, List.getD_cons_succ, List.getD_cons_zero]
          go_wp2_with fail
          refine And.intro (by kernel_rfl) ?_
          go_wp2_with fail
          all_goals (go_ret; exact no_name He.out (below_drewN Hb.out _))
      · have He := Lib.hid (show l = m from take_ext k Hl.out (by omega) hle.out)
        go_wp2_with fail
        go_ret
        exact yes_name He.out Hb.out
  · have He := Lib.hid (show ¬ l = m from fun e => hl (by rw [e]))
    have q2 : ((l.length : Int) != (m.length : Int)) = true := by simp; omega
    go_enter Tryz.func65, Tryz.ntmps65
    go_wp2_with fail
    all_goals (go_ret; exact no_name He.out (Below.refl _ _))
end Go.Proofs.YtmabjghjkgicgaaGreat

/- BatG -/
namespace Go.Proofs.YtmabjghjkgicgaaGreat
open Go.RowKit
set_option linter.unusedVariables false
set_option linter.unusedSimpArgs false

/-- the block of an operation -/
def OBlk (w : World) (p : Nat) (o : Ow) : Prop := w.heap[p]? = some (.cells (owcells o) 59 (0, 0))
theorem OBlk.below {w w' : World} {p : Nat} {v : Ow} (h : OBlk w p v) (hb : Below w.heap.size w w') : OBlk w' p v := (hb.block _ (heap_lt h)).trans h
def AddIs (o x : Opn) : Prop := -1000000 ≤ x.n + o.n ∧ x.n + o.n ≤ 1000000
def PutIs (o x : Opn) : Prop := x.x = o.x
def DropIs (o x : Opn) : Prop := x.x = o.x ∧ ∀ t, TombsOf x.ds o.ds t → t.length ≤ 64
theorem setIs_any (v : Ow) (w : World) : Calls Tryz.prog 40 #[.agg #[.int .u8 v.o.k, .slice v.pa v.o.p.length v.pc, .int .i64 v.o.n, .string v.o.x, .slice v.da v.o.ds.length v.dc]] w (IsTo w True) := by
  go_enter Tryz.func40, Tryz.ntmps40
  go_wp2_with fail
  go_ret
  exact yes_name trivial ((Below.refl _ _).alloc (Nat.le_refl _) _)
set_option maxRecDepth 100000 in
set_option maxHeartbeats 1000000 in
theorem putIs_any (v o : Ow) (p : Nat) (w : World) (h : OBlk w p o) : Calls Tryz.prog 42 #[.agg #[.int .u8 v.o.k, .slice v.pa v.o.p.length v.pc, .int .i64 v.o.n, .string v.o.x, .slice v.da v.o.ds.length v.dc], .pointer (some ⟨p, 0, none⟩)] w (IsTo w (PutIs o.o v.o)) := by
  have d0 := cells_at h
  have hl := heap_lt h
  have hne : ¬ w.heap.size = p := by omega
  simp only [owcells, ocells] at d0
  clear h
  go_enter Tryz.func42, Tryz.ntmps42
  by_cases hq : v.o.x = o.o.x
  · have Hq := Lib.hid hq
    rw [← hq] at d0
    clear hq
    go_wp2_with fail
    go_ret
    exact ⟨_, rfl, by simp [PutIs, Hq.out], (Below.refl _ _).alloc (Nat.le_refl _) _⟩
  · have q1 : (v.o.x.toList == o.o.x.toList) = false := by rw [beq_bytes]; simpa using hq
    have Hq := Lib.hid hq
    clear hq
    go_wp2_with fail
    go_ret
    exact no_name Hq.out ((Below.refl _ _).alloc (Nat.le_refl _) _)
set_option maxRecDepth 100000 in
set_option maxHeartbeats 1000000 in
theorem addIs_any (v o : Ow) (p : Nat) (w : World) (h : OBlk w p o) (h1 : -1000000 ≤ v.o.n) (h2 : v.o.n ≤ 1000000) (h3 : -1000000 ≤ o.o.n) (h4 : o.o.n ≤ 1000000) : Calls Tryz.prog 39 #[.agg #[.int .u8 v.o.k, .slice v.pa v.o.p.length v.pc, .int .i64 v.o.n, .string v.o.x, .slice v.da v.o.ds.length v.dc], .pointer (some ⟨p, 0, none⟩)] w (IsTo w (AddIs o.o v.o)) := by
  have d0 := cells_at h
  have hl := heap_lt h
  have hne : ¬ w.heap.size = p := by omega
  simp only [owcells, ocells] at d0
  clear h
  go_enter Tryz.func39, Tryz.ntmps39
  by_cases q1 : -1000000 ≤ v.o.n + o.o.n
  · by_cases q2 : v.o.n + o.o.n ≤ 1000000
    · have Hq := Lib.hid (show AddIs o.o v.o from ⟨q1, q2⟩)
      go_wp2_with fail
      all_goals (go_ret; exact yes_name Hq.out ((Below.refl _ _).alloc (Nat.le_refl _) _))
    · have Hq := Lib.hid (show ¬ AddIs o.o v.o from fun h => q2 h.2)
      have q3 : decide (v.o.n + o.o.n ≤ 1000000) = false := by simpa using q2
      go_wp2_with fail
      all_goals (go_ret; exact no_name Hq.out ((Below.refl _ _).alloc (Nat.le_refl _) _))
  · have Hq := Lib.hid (show ¬ AddIs o.o v.o from fun h => q1 h.1)
    have q3 : decide (-1000000 ≤ v.o.n + o.o.n) = false := by rw [decide_eq_false_iff_not]; exact q1
    go_wp2_with fail
    all_goals (go_ret; exact no_name Hq.out ((Below.refl _ _).alloc (Nat.le_refl _) _))
end Go.Proofs.YtmabjghjkgicgaaGreat

/- BatH -/
namespace Go.Proofs.YtmabjghjkgicgaaGreat
open Go.RowKit
set_option linter.unusedVariables false
set_option linter.unusedSimpArgs false

set_option maxRecDepth 100000 in
set_option maxHeartbeats 2000000 in
theorem dropIs_any (v o : Ow) (p : Nat) (w : World) (h : OBlk w p o) (hv : OwAt w v) (ho : OwAt w o) (h1 : v.o.ds.length ≤ 1000000) (h2 : o.o.ds.length ≤ 1000000) : Calls Tryz.prog 43 #[.agg #[.int .u8 v.o.k, .slice v.pa v.o.p.length v.pc, .int .i64 v.o.n, .string v.o.x, .slice v.da v.o.ds.length v.dc], .pointer (some ⟨p, 0, none⟩)] w (IsTo w (DropIs o.o v.o)) := by
  have d0 := cells_at h
  have hl := heap_lt h
  have hne : ¬ w.heap.size = p := by omega
  have Hv := Lib.hid hv
  have Ho := Lib.hid ho
  simp only [owcells, ocells] at d0
  clear h hv ho
  go_enter Tryz.func43, Tryz.ntmps43
  by_cases hq : v.o.x = o.o.x
  · have Hq := Lib.hid hq
    rw [← hq] at d0
    clear hq
    go_wp2_with fail
    refine (bothD_any v.da o.da v.dc o.dc v.o.ds o.o.ds _ (Hv.out.below ?h1).ds (Ho.out.below ?h2).ds h1 h2).mono ?_
    case h1 => exact (Below.refl _ _).alloc (Nat.le_refl _) _
    case h2 => exact (Below.refl _ _).alloc (Nat.le_refl _) _
    intro e w1 hto
    obtain ⟨a', c', v', rfl, ht, how, hb⟩ := hto
    have HB := Lib.hid (new1 hb).2.2
    have Ht := Lib.hid ht
    clear ht how hb
    go_wp2_with fail
    go_ret
    refine ⟨_, rfl, ?_, HB.out⟩
    constructor
    · intro hd
      simp at hd
      exact ⟨Hq.out, fun t ht => by rw [TombsOf.uniq ht Ht.out]; omega⟩
    · intro hd
      have := hd.2 v' Ht.out
      simp
      omega
  · have q1 : (v.o.x.toList == o.o.x.toList) = false := by rw [beq_bytes]; simpa using hq
    have Hq := Lib.hid hq
    clear hq
    go_wp2_with fail
    all_goals (go_ret; exact no_name (fun h => Hq.out h.1) ((Below.refl _ _).alloc (Nat.le_refl _) _))
end Go.Proofs.YtmabjghjkgicgaaGreat

/- BatI -/
namespace Go.Proofs.YtmabjghjkgicgaaGreat
open Go.RowKit
set_option linter.unusedVariables false
set_option linter.unusedSimpArgs false

theorem op_len {o : Opn} (h : MayO o) : o.p.length ≤ 1000000 ∧ o.ds.length ≤ 1000000 := ⟨by have := h.path.2.1; omega, by have := h.few; omega⟩
set_option maxRecDepth 100000 in
set_option maxHeartbeats 4000000 in
theorem like1Set_any (v o : Ow) (pb ib qb : Nat) (t : TypeId) (w : World) (h : OBlk w pb o) (hi : w.heap[ib]? = some (.cells #[.func (.func 40) #[] #[]] t (0, 0))) (hq : OBlk w qb o) (hv : OwAt w v) (ho : OwAt w o) (hmv : MayO v.o) (hmo : MayO o.o) :
    Calls Tryz.prog 64 #[.agg #[.int .u8 v.o.k, .slice v.pa v.o.p.length v.pc, .int .i64 v.o.n, .string v.o.x, .slice v.da v.o.ds.length v.dc], .pointer (some ⟨pb, 0, none⟩), .pointer (some ⟨ib, 0, none⟩)] w (IsTo w (v.o.k = o.o.k ∧ v.o.p = o.o.p ∧ True)) := by
  have he := enters_of Tryz.func40 (by kernel_rfl) rfl
  have d0 := cells_at h
  have i0 := cells_at hi
  have hl := heap_lt h
  have hil := heap_lt hi
  have hne : ¬ w.heap.size = pb := by omega
  have hne2 : ¬ w.heap.size = ib := by omega
  have HP := Lib.hid h
  have HI := Lib.hid hi
  have HQ := Lib.hid hq
  have Hv := Lib.hid hv
  have Ho := Lib.hid ho
  have Hmv := Lib.hid hmv
  have Hmo := Lib.hid hmo
  have hb0 : Below w.heap.size w (w.alloc (.cells (owcells v) 59)) := (Below.refl _ _).alloc (Nat.le_refl _) _
  have HB0 := Lib.hid hb0
  simp only [owcells, ocells] at d0
  clear h hi hq hv ho hmv hmo hb0
  go_enter Tryz.func64, Tryz.ntmps64
  by_cases hk : v.o.k = o.o.k
  · have Hk := Lib.hid hk
    rw [← hk] at d0
    clear hk
    go_wp2_with fail
    refine (equalS_any v.pa o.pa v.pc o.pc v.o.p o.o.p _ (Hv.out.below HB0.out).pt (Ho.out.below HB0.out).pt (op_len Hmv.out).1 (op_len Hmo.out).1).mono ?_
    intro e w1 hto
    obtain ⟨z, rfl, hz, hb⟩ := hto
    obtain ⟨x0, hz1, hB1⟩ := new1 hb
    have HB1 := Lib.hid hB1
    have Hz := Lib.hid hz
    have x1 := cells_at x0
    have X1 := Lib.hid x0
    simp only [owcells, ocells] at x1
    have i1 := cells_at ((hB1.block _ hil).trans HI.out)
    clear hz hb hB1 x0 d0 i0
    cases z with
    | false =>
      have Hn := Lib.hid (show ¬ (v.o.p = o.o.p) from fun h => by have := Hz.out.2 h; cases this)
      go_wp2_with fail
      all_goals (go_ret; exact no_name (fun h => Hn.out h.2.1) HB1.out)
    | true =>
      have Hy := Lib.hid (Hz.out.1 (by simp))
      go_wp2_with fail
      refine (setIs_any v _).mono ?_
      intro e w2 hto
      obtain ⟨z, rfl, hz, hb⟩ := hto
      have HB2 := Lib.hid (below2 HB1.out hb HB1.out.size)
      have Hz2 := Lib.hid hz
      clear hz hb x1 i1
      go_wp2_with fail
      all_goals (go_ret; exact ⟨z, rfl, ⟨fun h => ⟨Hk.out, Hy.out, Hz2.out.1 h⟩, fun h => Hz2.out.2 h.2.2⟩, HB2.out⟩)
  · have q1 : (v.o.k == o.o.k) = false := by simpa using hk
    have Hk := Lib.hid hk
    clear hk
    go_wp2_with fail
    all_goals (go_ret; exact no_name (fun h => Hk.out h.1) HB0.out)
set_option maxRecDepth 100000 in
set_option maxHeartbeats 4000000 in
theorem like1Put_any (v o : Ow) (pb ib qb : Nat) (t : TypeId) (w : World) (h : OBlk w pb o) (hi : w.heap[ib]? = some (.cells #[.func (.func 42) #[] #[.pointer (some ⟨qb, 0, none⟩)]] t (0, 0))) (hq : OBlk w qb o) (hv : OwAt w v) (ho : OwAt w o) (hmv : MayO v.o) (hmo : MayO o.o) :
    Calls Tryz.prog 64 #[.agg #[.int .u8 v.o.k, .slice v.pa v.o.p.length v.pc, .int .i64 v.o.n, .string v.o.x, .slice v.da v.o.ds.length v.dc], .pointer (some ⟨pb, 0, none⟩), .pointer (some ⟨ib, 0, none⟩)] w (IsTo w (v.o.k = o.o.k ∧ v.o.p = o.o.p ∧ PutIs o.o v.o)) := by
  have he := enters_of Tryz.func42 (by kernel_rfl) rfl
  have d0 := cells_at h
  have i0 := cells_at hi
  have hl := heap_lt h
  have hil := heap_lt hi
  have hne : ¬ w.heap.size = pb := by omega
  have hne2 : ¬ w.heap.size = ib := by omega
  have HP := Lib.hid h
  have HI := Lib.hid hi
  have HQ := Lib.hid hq
  have Hv := Lib.hid hv
  have Ho := Lib.hid ho
  have Hmv := Lib.hid hmv
  have Hmo := Lib.hid hmo
  have hb0 : Below w.heap.size w (w.alloc (.cells (owcells v) 59)) := (Below.refl _ _).alloc (Nat.le_refl _) _
  have HB0 := Lib.hid hb0
  simp only [owcells, ocells] at d0
  clear h hi hq hv ho hmv hmo hb0
  go_enter Tryz.func64, Tryz.ntmps64
  by_cases hk : v.o.k = o.o.k
  · have Hk := Lib.hid hk
    rw [← hk] at d0
    clear hk
    go_wp2_with fail
    refine (equalS_any v.pa o.pa v.pc o.pc v.o.p o.o.p _ (Hv.out.below HB0.out).pt (Ho.out.below HB0.out).pt (op_len Hmv.out).1 (op_len Hmo.out).1).mono ?_
    intro e w1 hto
    obtain ⟨z, rfl, hz, hb⟩ := hto
    obtain ⟨x0, hz1, hB1⟩ := new1 hb
    have HB1 := Lib.hid hB1
    have Hz := Lib.hid hz
    have x1 := cells_at x0
    have X1 := Lib.hid x0
    simp only [owcells, ocells] at x1
    have i1 := cells_at ((hB1.block _ hil).trans HI.out)
    clear hz hb hB1 x0 d0 i0
    cases z with
    | false =>
      have Hn := Lib.hid (show ¬ (v.o.p = o.o.p) from fun h => by have := Hz.out.2 h; cases this)
      go_wp2_with fail
      all_goals (go_ret; exact no_name (fun h => Hn.out h.2.1) HB1.out)
    | true =>
      have Hy := Lib.hid (Hz.out.1 (by simp))
      go_wp2_with fail
      refine (putIs_any v o qb _ (HQ.out.below HB1.out)).mono ?_
      intro e w2 hto
      obtain ⟨z, rfl, hz, hb⟩ := hto
      have HB2 := Lib.hid (below2 HB1.out hb HB1.out.size)
      have Hz2 := Lib.hid hz
      clear hz hb x1 i1
      go_wp2_with fail
      all_goals (go_ret; exact ⟨z, rfl, ⟨fun h => ⟨Hk.out, Hy.out, Hz2.out.1 h⟩, fun h => Hz2.out.2 h.2.2⟩, HB2.out⟩)
  · have q1 : (v.o.k == o.o.k) = false := by simpa using hk
    have Hk := Lib.hid hk
    clear hk
    go_wp2_with fail
    all_goals (go_ret; exact no_name (fun h => Hk.out h.1) HB0.out)
set_option maxRecDepth 100000 in
set_option maxHeartbeats 4000000 in
theorem like1Add_any (v o : Ow) (pb ib qb : Nat) (t : TypeId) (w : World) (h : OBlk w pb o) (hi : w.heap[ib]? = some (.cells #[.func (.func 39) #[] #[.pointer (some ⟨qb, 0, none⟩)]] t (0, 0))) (hq : OBlk w qb o) (hv : OwAt w v) (ho : OwAt w o) (hmv : MayO v.o) (hmo : MayO o.o) (hk1 : o.o.k = 1) :
    Calls Tryz.prog 64 #[.agg #[.int .u8 v.o.k, .slice v.pa v.o.p.length v.pc, .int .i64 v.o.n, .string v.o.x, .slice v.da v.o.ds.length v.dc], .pointer (some ⟨pb, 0, none⟩), .pointer (some ⟨ib, 0, none⟩)] w (IsTo w (v.o.k = o.o.k ∧ v.o.p = o.o.p ∧ AddIs o.o v.o)) := by
  have he := enters_of Tryz.func39 (by kernel_rfl) rfl
  have d0 := cells_at h
  have i0 := cells_at hi
  have hl := heap_lt h
  have hil := heap_lt hi
  have hne : ¬ w.heap.size = pb := by omega
  have hne2 : ¬ w.heap.size = ib := by omega
  have HP := Lib.hid h
  have HI := Lib.hid hi
  have HQ := Lib.hid hq
  have Hv := Lib.hid hv
  have Ho := Lib.hid ho
  have Hmv := Lib.hid hmv
  have Hmo := Lib.hid hmo
  have hb0 : Below w.heap.size w (w.alloc (.cells (owcells v) 59)) := (Below.refl _ _).alloc (Nat.le_refl _) _
  have HB0 := Lib.hid hb0
  simp only [owcells, ocells] at d0
  have Hk1 := Lib.hid hk1
  clear hk1
  clear h hi hq hv ho hmv hmo hb0
  go_enter Tryz.func64, Tryz.ntmps64
  by_cases hk : v.o.k = o.o.k
  · have Hk := Lib.hid hk
    rw [← hk] at d0
    clear hk
    go_wp2_with fail
    refine (equalS_any v.pa o.pa v.pc o.pc v.o.p o.o.p _ (Hv.out.below HB0.out).pt (Ho.out.below HB0.out).pt (op_len Hmv.out).1 (op_len Hmo.out).1).mono ?_
    intro e w1 hto
    obtain ⟨z, rfl, hz, hb⟩ := hto
    obtain ⟨x0, hz1, hB1⟩ := new1 hb
    have HB1 := Lib.hid hB1
    have Hz := Lib.hid hz
    have x1 := cells_at x0
    have X1 := Lib.hid x0
    simp only [owcells, ocells] at x1
    have i1 := cells_at ((hB1.block _ hil).trans HI.out)
    clear hz hb hB1 x0 d0 i0
    cases z with
    | false =>
      have Hn := Lib.hid (show ¬ (v.o.p = o.o.p) from fun h => by have := Hz.out.2 h; cases this)
      go_wp2_with fail
      all_goals (go_ret; exact no_name (fun h => Hn.out h.2.1) HB1.out)
    | true =>
      have Hy := Lib.hid (Hz.out.1 (by simp))
      go_wp2_with fail
      refine (addIs_any v o qb _ (HQ.out.below HB1.out) (Hmv.out.add (Hk.out.trans Hk1.out)).1 (Hmv.out.add (Hk.out.trans Hk1.out)).2.1 (Hmo.out.add Hk1.out).1 (Hmo.out.add Hk1.out).2.1).mono ?_
      intro e w2 hto
      obtain ⟨z, rfl, hz, hb⟩ := hto
      have HB2 := Lib.hid (below2 HB1.out hb HB1.out.size)
      have Hz2 := Lib.hid hz
      clear hz hb x1 i1
      go_wp2_with fail
      all_goals (go_ret; exact ⟨z, rfl, ⟨fun h => ⟨Hk.out, Hy.out, Hz2.out.1 h⟩, fun h => Hz2.out.2 h.2.2⟩, HB2.out⟩)
  · have q1 : (v.o.k == o.o.k) = false := by simpa using hk
    have Hk := Lib.hid hk
    clear hk
    go_wp2_with fail
    all_goals (go_ret; exact no_name (fun h => Hk.out h.1) HB0.out)
set_option maxRecDepth 100000 in
set_option maxHeartbeats 4000000 in
theorem like1Drop_any (v o : Ow) (pb ib qb : Nat) (t : TypeId) (w : World) (h : OBlk w pb o) (hi : w.heap[ib]? = some (.cells #[.func (.func 43) #[] #[.pointer (some ⟨qb, 0, none⟩)]] t (0, 0))) (hq : OBlk w qb o) (hv : OwAt w v) (ho : OwAt w o) (hmv : MayO v.o) (hmo : MayO o.o) :
    Calls Tryz.prog 64 #[.agg #[.int .u8 v.o.k, .slice v.pa v.o.p.length v.pc, .int .i64 v.o.n, .string v.o.x, .slice v.da v.o.ds.length v.dc], .pointer (some ⟨pb, 0, none⟩), .pointer (some ⟨ib, 0, none⟩)] w (IsTo w (v.o.k = o.o.k ∧ v.o.p = o.o.p ∧ DropIs o.o v.o)) := by
  have he := enters_of Tryz.func43 (by kernel_rfl) rfl
  have d0 := cells_at h
  have i0 := cells_at hi
  have hl := heap_lt h
  have hil := heap_lt hi
  have hne : ¬ w.heap.size = pb := by omega
  have hne2 : ¬ w.heap.size = ib := by omega
  have HP := Lib.hid h
  have HI := Lib.hid hi
  have HQ := Lib.hid hq
  have Hv := Lib.hid hv
  have Ho := Lib.hid ho
  have Hmv := Lib.hid hmv
  have Hmo := Lib.hid hmo
  have hb0 : Below w.heap.size w (w.alloc (.cells (owcells v) 59)) := (Below.refl _ _).alloc (Nat.le_refl _) _
  have HB0 := Lib.hid hb0
  simp only [owcells, ocells] at d0
  clear h hi hq hv ho hmv hmo hb0
  go_enter Tryz.func64, Tryz.ntmps64
  by_cases hk : v.o.k = o.o.k
  · have Hk := Lib.hid hk
    rw [← hk] at d0
    clear hk
    go_wp2_with fail
    refine (equalS_any v.pa o.pa v.pc o.pc v.o.p o.o.p _ (Hv.out.below HB0.out).pt (Ho.out.below HB0.out).pt (op_len Hmv.out).1 (op_len Hmo.out).1).mono ?_
    intro e w1 hto
    obtain ⟨z, rfl, hz, hb⟩ := hto
    obtain ⟨x0, hz1, hB1⟩ := new1 hb
    have HB1 := Lib.hid hB1
    have Hz := Lib.hid hz
    have x1 := cells_at x0
    have X1 := Lib.hid x0
    simp only [owcells, ocells] at x1
    have i1 := cells_at ((hB1.block _ hil).trans HI.out)
    clear hz hb hB1 x0 d0 i0
    cases z with
    | false =>
      have Hn := Lib.hid (show ¬ (v.o.p = o.o.p) from fun h => by have := Hz.out.2 h; cases this)
      go_wp2_with fail
      all_goals (go_ret; exact no_name (fun h => Hn.out h.2.1) HB1.out)
    | true =>
      have Hy := Lib.hid (Hz.out.1 (by simp))
      go_wp2_with fail
      refine (dropIs_any v o qb _ (HQ.out.below HB1.out) (Hv.out.below HB1.out) (Ho.out.below HB1.out) (op_len Hmv.out).2 (op_len Hmo.out).2).mono ?_
      intro e w2 hto
      obtain ⟨z, rfl, hz, hb⟩ := hto
      have HB2 := Lib.hid (below2 HB1.out hb HB1.out.size)
      have Hz2 := Lib.hid hz
      clear hz hb x1 i1
      go_wp2_with fail
      all_goals (go_ret; exact ⟨z, rfl, ⟨fun h => ⟨Hk.out, Hy.out, Hz2.out.1 h⟩, fun h => Hz2.out.2 h.2.2⟩, HB2.out⟩)
  · have q1 : (v.o.k == o.o.k) = false := by simpa using hk
    have Hk := Lib.hid hk
    clear hk
    go_wp2_with fail
    all_goals (go_ret; exact no_name (fun h => Hk.out h.1) HB0.out)
end Go.Proofs.YtmabjghjkgicgaaGreat
