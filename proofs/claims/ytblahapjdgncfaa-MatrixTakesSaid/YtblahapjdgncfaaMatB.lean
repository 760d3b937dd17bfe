/- Contracts: slices.Clone, own, May. -/
import Derived.Test.YtblahapjdgncfaaMatA
import Derived.Lib.SliceRun
namespace Go.Proofs.Ytblahapjdgncfaa
open Go.RowKit
set_option linter.unusedVariables false
set_option linter.unusedSimpArgs false

theorem Try.info_u32 : (Try.prog.info? 29).map (fun i => (i.zero, i.size, i.bytes)) = some (some (.int .u32 0), 1, 4) := by kernel_rfl
/-- a call returns the numbers l in memory of its own -/
def IncTo (w : World) (l : List Int) (e : Ending) (w' : World) : Prop :=
  ∃ a c, e = .returned (.slice a l.length c) ∧ w'.ownsRow w.heap.size 29 1 (.slice a l.length c) l.length (ucells l) ∧ Below w.heap.size w w'
theorem u32_of {w : World} {base : Nat} {a : Option Addr} {c : Nat} {v : List Int} (h : w.ownsRow base 29 1 (.slice a v.length c) v.length (ucells v)) : U32 w a c v := Sl.of_owns h

set_option maxRecDepth 100000 in
set_option maxHeartbeats 1000000 in
theorem clone_any (a : Option Addr) (c : Nat) (l : List Int) (w : World) (hv : U32 w a c l) (hn : l.length ≤ 1000000) :
    Calls Try.prog 86 #[.slice a l.length c] w (IncTo w l) := by
  obtain ⟨i0, hi0, hz0, hz1, hz2⟩ := info_parts Try.info_u32
  have Hv := Lib.hid hv
  have heq := fun (w : World) (a : Option Addr) (n c : Nat) => Lib.run_eql_slice_nil (P := Try.prog) w 45 29 a n c 0 0 Try.underlying45
  cases a with
  | none =>
    obtain ⟨h1, h2, h3, ⟨_, h4, h5⟩ | ⟨b, hb, _⟩⟩ := hv
    · subst h5
      obtain rfl : l = [] := List.eq_nil_of_length_eq_zero h4
      clear h1 h2 h3 h4 Hv
      go_enter Try.func86, Try.ntmps86
      go_wp2_with fail
      go_ret
      exact ⟨none, 0, rfl, ⟨rfl, .inl ⟨rfl, rfl⟩⟩, Below.refl _ _⟩
    · cases hb
  | some ad =>
    clear hv
    go_enter Try.func86, Try.ntmps86
    go_wp2_with (at_builtin; go_must (refine wpList_append_sl rfl _ _ 45 rfl w.heap.size 29 i0 (.int .u32 0) 1 4 Try.underlying45 hi0 hz0 hz1 hz2 rfl (by decide) (some ⟨w.heap.size, 0, none⟩) 0 0 [] rfl ?o1 (some ad) l.length c (ucells l) rfl ?s1 ?t1 ?c1 ?d1 ?e1 ?_))
    case o1 => exact World.ownsRow_made w #[] 0 (Nat.le_refl _) (by decide) rfl
    case s1 => exact Hv.out.below ((Below.refl _ _).alloc (Nat.le_refl _) _)
    case t1 => exact ucells_one _
    case c1 => unfold maxLen; omega
    case d1 => omega
    case e1 => simp
    intro a1 c1 w1 ho1 hC1 hob1
    try simp only [Nat.zero_add, List.nil_append] at ho1
    have HB1 : Hid (Below w.heap.size w w1) := Lib.hid (((Below.refl _ _).alloc (Nat.le_refl _) _).trans (hC1.below (by simp) (by simp [ob])))
    have Ho1 := Lib.hid ho1
    clear ho1 hC1
    go_wp2_with fail
    go_ret
    exact ⟨a1, c1, by simp, Ho1.out, HB1.out⟩

/-- an acknowledgement told, in memory of its own -/
def AckTo (w : World) (a : Ak) (e : Ending) (w' : World) : Prop :=
  ∃ ai ci av cv, e = .returned (.agg #[.int .u8 a.r, .int .u32 a.i, .slice ai a.incs.length ci, .slice av a.vv.length cv]) ∧ w'.ownsRow w.heap.size 29 1 (.slice ai a.incs.length ci) a.incs.length (ucells a.incs) ∧ w'.ownsRow w.heap.size 34 3 (.slice av a.vv.length cv) a.vv.length (dcells a.vv) ∧ Below w.heap.size w w'
theorem AckTo.from {w w1 w2 : World} {v : Ak} {e : Ending} (h : AckTo w1 v e w2) (hb : Below w.heap.size w w1) : AckTo w v e w2 := by
  obtain ⟨ai, ci, av, cv, h1, h2, h3, h4⟩ := h
  exact ⟨ai, ci, av, cv, h1, owns_base h2 hb.size, owns_base h3 hb.size, hb.trans (h4.mono hb.size)⟩

theorem owns_set {w : World} {p : Addr} {x : Value} {base : Nat} {e : TypeId} {size : Nat} {a : Option Addr} {n c m : Nat} {xs : List Value} (h : w.ownsRow base e size (.slice a n c) m xs) (hp : p.block < base) : (w.setCell p x).ownsRow base e size (.slice a n c) m xs :=
  owns_chg h (Chg.setCell w p x) (fun k hk => by have := (owns_lt h k hk).1; simp; omega)
set_option maxHeartbeats 1000000 in
theorem own_any (r i : Int) (ai av : Option Addr) (ci cv : Nat) (l : List Int) (v : List Dt) (w : World) (hi : U32 w ai ci l) (hv : Vec w av cv v) (hok : okV v) (hn : l.length ≤ 1000000) (hm : v.length ≤ 1000000) :
    Calls Try.prog 70 #[.agg #[.int .u8 r, .int .u32 i, .slice ai l.length ci, .slice av v.length cv]] w (AckTo w ⟨r, i, l, canonV v⟩) := by
  have Hi := Lib.hid hi
  have Hv := Lib.hid hv
  clear hi hv
  go_enter Try.func70, Try.ntmps70
  go_wp2_with fail
  refine region_text [([0, 1, 3, 4], false), ([2], true), ([6, 5, 7, 8, 9], false)] mixed (by kernel_rfl) ?_
  simp only [wpSegs, List.map_cons, List.map_nil, List.getD_cons_succ, List.getD_cons_zero]
  go_wp2_with fail
  refine (clone_any ai ci l _ (Hi.out.below ?hb) hn).mono ?_
  case hb => exact (((Below.refl _ _).alloc (Nat.le_refl _) _).alloc (by simp) _).drew
  rintro e w1 ⟨a1, c1, rfl, ho1, hb1⟩
  obtain ⟨hx0, hx1, hz, hB1⟩ := new2 (((Below.refl _ _).drew).trans hb1)
  have Ho1 := Lib.hid (owns_base ho1 (show w.heap.size + 2 ≤ _ by simp))
  have HB1 := Lib.hid hB1
  have Hx0 := Lib.hid hx0
  have Hx1 := Lib.hid hx1
  clear ho1 hx0 hx1 hB1
  go_wp2_with fail
  refine And.intro (Agree.of_below hb1) ?_
  clear hb1
  go_wp2_with fail
  refine (canon_any av cv v w1 (Hv.out.below HB1.out) hok hm).mono ?_
  rintro e w2 ⟨a2, c2, rfl, ho2, hb2⟩
  have hx0 := (hb2.block _ (heap_lt Hx0.out)).trans Hx0.out
  have hx1 := (hb2.block _ (heap_lt Hx1.out)).trans Hx1.out
  have d0 := cells_at hx0
  have d1 := cells_at hx1
  have f0 := free_at hx0
  have f1 := free_at hx1
  have Ho2 := Lib.hid (owns_base ho2 hz)
  have Ho1' := Lib.hid (owns_chg (F := []) Ho1.out (Chg.of_below hb2) (by simp))
  have HB2 := Lib.hid (HB1.out.trans (hb2.mono HB1.out.size))
  have hz2 : w.heap.size + 2 ≤ w2.heap.size := by have := hb2.size; omega
  clear ho2 hb2 hx0 hx1 HB1 Ho1 Hx0 Hx1
  go_wp2_with fail
  refine And.intro (by kernel_rfl) ?_
  go_wp2_with fail
  have HO1 := Lib.hid (owns_set (p := ⟨w.heap.size, 2, none⟩) (x := .slice a1 l.length c1) Ho1'.out (by simp))
  have HO2 := Lib.hid (owns_set (p := ⟨w.heap.size, 2, none⟩) (x := .slice a1 l.length c1) Ho2.out (by simp))
  refine bodyPost_ret (v := .agg #[.int .u8 r, .int .u32 i, .slice a1 l.length c1, .slice a2 (canonV v).length c2]) (by simp [results, Try.results70, go_sem, d1]) rfl ⟨a1, c1, a2, c2, rfl, ?_, ?_, ?_⟩
  · exact owns_base (owns_set (owns_set (owns_set (owns_set (owns_set HO1.out (by simp)) (by simp)) (by simp)) (by simp)) (by simp)) (by omega)
  · exact owns_base (owns_set (owns_set (owns_set (owns_set (owns_set HO2.out (by simp)) (by simp)) (by simp)) (by simp)) (by simp)) (by omega)
  · exact (((((HB2.out.setCell (by simp) _).setCell (by simp) _).setCell (by simp) _).setCell (by simp) _).setCell (by simp) _).setCell (by simp) _

theorem mayK_of {a : Ak} {n : Int} (h1 : mayA (a.r, a.i) = true) (h2 : a.r < n) (h3 : mayIncs a.incs n = true) {x : Int} (hx : a.incs[a.r.toNat]? = some x) : mayK a n = (x == a.i) := by
  simp [mayK, h1, h2, h3, List.getD, hx]
set_option maxHeartbeats 1000000 in
theorem mayK_any (k : Nat) (i : Int) (ai av : Option Addr) (ci cv m : Nat) (l : List Int) (v : List Dt) (n : Int) (w : World) (hi : U32 w ai ci l) (hk : k ≤ 255) (hn : l.length ≤ 1000000) :
    Calls Try.prog 45 #[.agg #[.int .u8 k, .int .u32 i, .slice ai l.length ci, .slice av m cv], .int .i64 n] w fun e w' => e = .returned (.bool (mayK ⟨k, i, l, v⟩ n)) ∧ Below w.heap.size w w' := by
  have Hi := Lib.hid hi
  clear hi
  go_enter Try.func45, Try.ntmps45
  go_wp2_with fail
  refine region_text [([0, 1, 2, 3, 4, 5, 6, 7, 8, 9, 10, 11, 12, 13, 14, 15, 16, 17, 18, 19, 20, 21, 22, 23, 24, 25, 26, 27, 28, 29, 30], false)] mixed (by kernel_rfl) ?_
  simp only [wpSegs, List.map_cons, List.map_nil, List.getD_cons_succ, List.getD_cons_zero]
  go_wp2_with fail
  refine (mayActor_any k i _).mono ?_
  rintro e w1 ⟨rfl, hb1⟩
  obtain ⟨hx0, hz, hB1⟩ := new1 (((Below.refl _ _).drew).trans hb1)
  have d0 := cells_at hx0
  have Hx0 := Lib.hid hx0
  have HB1 := Lib.hid hB1
  clear hb1 hx0 hB1
  cases hm : mayA (k, i) with
  | false =>
    have He := Lib.hid (show mayK ⟨k, i, l, v⟩ n = false by simp [mayK, hm])
    clear hm
    go_wp2_with fail
    refine And.intro (by kernel_rfl) ?_
    go_wp2_with fail
    go_ret
    exact ⟨by rw [He.out]; rfl, HB1.out⟩
  | true =>
    by_cases hkn : (k : Int) < n
    · have Hm := Lib.hid hm
      clear hm
      go_wp2_with fail
      refine (mayIncs_any ai ci l n w1 (Hi.out.below HB1.out) hn).mono ?_
      rintro e w2 ⟨rfl, hb2⟩
      have hx0 := (hb2.block _ (heap_lt Hx0.out)).trans Hx0.out
      have d0 := cells_at hx0
      have HB2 := Lib.hid (HB1.out.trans (hb2.mono HB1.out.size))
      have Hi2 := Lib.hid (Hi.out.below HB2.out)
      clear hb2 hx0 HB1 Hx0
      cases hmi : mayIncs l n with
      | false =>
        have He := Lib.hid (show mayK ⟨k, i, l, v⟩ n = false by simp [mayK, hmi])
        clear hmi
        go_wp2_with fail
        refine And.intro (by kernel_rfl) ?_
        go_wp2_with fail
        go_ret
        exact ⟨by rw [He.out]; rfl, HB2.out⟩
      | true =>
        have hl : k < l.length := by have := ((mayIncs_iff l n).1 hmi).2.2.1; omega
        obtain ⟨x, hx⟩ : ∃ x, l[k]? = some x := ⟨l[k], by simp [hl]⟩
        have He := Lib.hid (mayK_of (a := ⟨k, i, l, v⟩) (n := n) Hm.out hkn hmi (x := x) (by simpa using hx))
        obtain ⟨ad, had, c0, hl0⟩ := Hi2.out.at hx
        subst had
        clear hmi hx
        go_wp2_with fail
        refine And.intro (by kernel_rfl) ?_
        go_wp2_with fail
        go_ret
        exact ⟨by rw [He.out]; rfl, HB2.out⟩
    · have hkn' : decide ((k : Int) < n) = false := by simpa using hkn
      have He := Lib.hid (show mayK ⟨k, i, l, v⟩ n = false by simp [mayK, hkn'])
      clear hm
      go_wp2_with fail
      refine And.intro (by kernel_rfl) ?_
      go_wp2_with fail
      go_ret
      exact ⟨by rw [He.out]; rfl, HB1.out⟩
end Go.Proofs.Ytblahapjdgncfaa
