/- The reference's MayIncs, May, JoinIncs (varveref17). -/
import Derived.Test.YtblahapjdgncfaaMatB
import Derived.Test.YtblahapjdgncfaaVec4
namespace Go.Proofs.Ytblahapjdgncfaa
open Go.RowKit
set_option linter.unusedVariables false
set_option linter.unusedSimpArgs false

set_option maxHeartbeats 1000000 in
theorem rmayIncs_any (a : Option Addr) (c : Nat) (l : List Int) (n : Int) (w : World) (hv : U32 w a c l) (hn : l.length ≤ 1000000) :
    Calls Try.prog 39 #[.slice a l.length c, .int .i64 n] w fun e w' => e = .returned (.bool (mayIncs l n)) ∧ Below w.heap.size w w' := by
  have Hv := Lib.hid hv
  clear hv
  by_cases h1 : n < 1
  · have He := Lib.hid (show mayIncs l n = false by simp [mayIncs]; omega)
    go_enter Try.func39, Try.ntmps39
    go_wp2_with fail
    go_ret
    exact ⟨by rw [He.out]; rfl, Below.refl _ _⟩
  · have h1' : decide (n < 1) = false := by simpa using h1
    by_cases h2 : 16 < n
    · have He := Lib.hid (show mayIncs l n = false by simp [mayIncs]; omega)
      go_enter Try.func39, Try.ntmps39
      go_wp2_with fail
      go_ret
      exact ⟨by rw [He.out]; rfl, Below.refl _ _⟩
    · have h2' : decide (16 < n) = false := by simpa using h2
      by_cases h3 : (l.length : Int) = n
      · subst h3
        have He := Lib.hid (show mayIncs l l.length = l.all incOk by simp [mayIncs]; omega)
        go_enter Try.func39, Try.ntmps39
        go_wp2_with fail
        go_loopw [5] (fun j wr => ∃ k : Nat, k ≤ l.length ∧ j = .int .i64 k ∧ Hid (∀ x ∈ l.take k, incOk x = true) ∧ Below w.heap.size w wr) (fun j _ => l.length - (intOf j).toNat)
        case atStart => exact ⟨0, Nat.zero_le _, rfl, Lib.hid (by simp), Below.refl _ _⟩
        case round =>
          obtain ⟨k, hk, rfl, hle, hb⟩ := hrel
          have Hb := Lib.hid hb
          clear hb
          by_cases hlt : k < l.length
          · obtain ⟨x, hx⟩ : ∃ x, l[k]? = some x := ⟨l[k], by simp [hlt]⟩
            obtain ⟨ad, had, c0, hl0⟩ := (Hv.out.below Hb.out).at hx
            subst had
            have Hx := Lib.hid hx
            clear hx
            by_cases g1 : x < 1
            · have Ha := Lib.hid (show l.all incOk = false by rw [List.all_eq_false]; exact ⟨x, List.mem_of_getElem? Hx.out, by simp [incOk]; omega⟩)
              go_wp2_with fail
              go_ret
              exact ⟨by rw [He.out, Ha.out]; rfl, Hb.out⟩
            · have g1' : decide (x < 1) = false := by simpa using g1
              by_cases g2 : 4 < x
              · have Ha := Lib.hid (show l.all incOk = false by rw [List.all_eq_false]; exact ⟨x, List.mem_of_getElem? Hx.out, by simp [incOk]; omega⟩)
                go_wp2_with fail
                go_ret
                exact ⟨by rw [He.out, Ha.out]; rfl, Hb.out⟩
              · have g2' : decide (4 < x) = false := by simpa using g2
                have Hi := Lib.hid (show incOk x = true by simp [incOk]; omega)
                go_wp2_with fail
                go_roundw
                case rel => exact ⟨k + 1, by omega, by go_num, Lib.hid (all_snoc Hx.out hle.out Hi.out), Hb.out⟩
                case measure => simp [intOf]; omega
          · have Ha := Lib.hid (show l.all incOk = true by rw [List.all_eq_true]; intro x hx; exact hle.out x (by rwa [List.take_of_length_le (by omega)]))
            go_wp2_with fail
            go_ret
            exact ⟨by rw [He.out, Ha.out]; rfl, Hb.out⟩
      · have h3' : ((l.length : Int) == n) = false := by simpa using h3
        have He := Lib.hid (show mayIncs l n = false by simp [mayIncs, h3])
        go_enter Try.func39, Try.ntmps39
        go_wp2_with fail
        go_ret
        exact ⟨by rw [He.out]; rfl, Below.refl _ _⟩

set_option maxHeartbeats 1000000 in
theorem rmayK_any (k : Nat) (i : Int) (ai av : Option Addr) (ci cv m : Nat) (l : List Int) (v : List Dt) (n : Int) (w : World) (hi : U32 w ai ci l) (hk : k ≤ 255) (hn : l.length ≤ 1000000) :
    Calls Try.prog 46 #[.agg #[.int .u8 k, .int .u32 i, .slice ai l.length ci, .slice av m cv], .int .i64 n] w fun e w' => e = .returned (.bool (mayK ⟨k, i, l, v⟩ n)) ∧ Below w.heap.size w w' := by
  have Hi := Lib.hid hi
  clear hi
  go_enter Try.func46, Try.ntmps46
  go_wp2_with fail
  refine region_text [([0, 1, 2, 3, 4, 5, 6, 7, 8, 9, 10, 11, 12, 13, 14, 15, 16, 17, 18, 19, 20, 21, 22, 23, 24, 25, 26, 27, 28, 29, 30], false)] mixed (by kernel_rfl) ?_
  simp only [wpSegs, List.map_cons, List.map_nil, List.getD_cons_succ, List.getD_cons_zero]
  go_wp2_with fail
  refine (rmayActor_any k i _).mono ?_
  rintro e w1 ⟨rfl, hb1⟩
  obtain ⟨hx0, hz, hB1⟩ := new1 (((Below.refl _ _).drew).trans hb1)
  have d0 := cells_at hx0
  have Hx0 := Lib.hid hx0
  have HB1 := Lib.hid hB1
  clear hb1 hx0 hB1
  cases hm : mayA (k, i) with
  | false =>
    have He := Lib.hid (show mayK ⟨k, i, l, v⟩ n = false by simp [mayK, hm])
    clear hm
    go_wp2_with fail
    refine And.intro (by kernel_rfl) ?_
    go_wp2_with fail
    go_ret
    exact ⟨by rw [He.out]; rfl, HB1.out⟩
  | true =>
    have Hm := Lib.hid hm
    clear hm
    go_wp2_with fail
    refine (rmayIncs_any ai ci l n w1 (Hi.out.below HB1.out) hn).mono ?_
    rintro e w2 ⟨rfl, hb2⟩
    have hx0 := (hb2.block _ (heap_lt Hx0.out)).trans Hx0.out
    have d0 := cells_at hx0
    have HB2 := Lib.hid (HB1.out.trans (hb2.mono HB1.out.size))
    have Hi2 := Lib.hid (Hi.out.below HB2.out)
    clear hb2 hx0 HB1 Hx0
    cases hmi : mayIncs l n with
    | false =>
      have He := Lib.hid (show mayK ⟨k, i, l, v⟩ n = false by simp [mayK, hmi])
      clear hmi
      go_wp2_with fail
      refine And.intro (by kernel_rfl) ?_
      go_wp2_with fail
      go_ret
      exact ⟨by rw [He.out]; rfl, HB2.out⟩
    | true =>
      by_cases hkn : (k : Int) < n
      · have hl : k < l.length := by have := ((mayIncs_iff l n).1 hmi).2.2.1; omega
        obtain ⟨x, hx⟩ : ∃ x, l[k]? = some x := ⟨l[k], by simp [hl]⟩
        have He := Lib.hid (mayK_of (a := ⟨k, i, l, v⟩) (n := n) Hm.out hkn hmi (x := x) (by simpa using hx))
        obtain ⟨ad, had, c0, hl0⟩ := Hi2.out.at hx
        subst had
        clear hmi hx
        go_wp2_with fail
        refine And.intro (by kernel_rfl) ?_
        go_wp2_with fail
        go_ret
        exact ⟨by rw [He.out]; rfl, HB2.out⟩
      · have hkn' : decide ((k : Int) < n) = false := by simpa using hkn
        have He := Lib.hid (show mayK ⟨k, i, l, v⟩ n = false by simp [mayK, hkn'])
        clear hmi
        go_wp2_with fail
        refine And.intro (by kernel_rfl) ?_
        go_wp2_with fail
        go_ret
        exact ⟨by rw [He.out]; rfl, HB2.out⟩

/-- the greater numbers -/
def joinI (a b : List Int) : List Int := if a.length = b.length then (a.zip b).map fun x => max x.1 x.2 else []
theorem joinI_length {a b : List Int} (h : a.length = b.length) : (joinI a b).length = a.length := by simp [joinI, h]
theorem joinI_take {a b : List Int} {k : Nat} {x y : Int} (h : a.length = b.length) (hx : a[k]? = some x) (hy : b[k]? = some y) : (joinI a b).take (k + 1) = (joinI a b).take k ++ [max x y] := by
  refine take_snoc' ?_
  simp [joinI, h, List.getElem?_zip_eq_some, hx, hy]
  exact ⟨x, y, ⟨rfl, rfl⟩, rfl⟩
theorem joinI_ok {a b : List Int} (ha : okI a) (hb : okI b) : okI (joinI a b) := by
  unfold joinI
  split
  · intro x hx
    obtain ⟨p, hp, rfl⟩ := List.mem_map.1 hx
    obtain ⟨h1, h2⟩ := List.of_mem_zip (a := p.1) (b := p.2) hp
    have := ha _ h1
    have := hb _ h2
    omega
  · intro x hx; simp at hx

set_option maxRecDepth 100000 in
set_option maxHeartbeats 2000000 in
theorem rjoinIncs_any (a b : Option Addr) (c d : Nat) (l m : List Int) (w : World) (hv : U32 w a c l) (hu : U32 w b d m) (hn : l.length ≤ 1000000) (hm : m.length ≤ 1000000) :
    Calls Try.prog 44 #[.slice a l.length c, .slice b m.length d] w (IncTo w (joinI l m)) := by
  obtain ⟨i0, hi0, hz0, hz1, hz2⟩ := info_parts Try.info_u32
  have Hv := Lib.hid hv
  have Hu := Lib.hid hu
  clear hv hu
  by_cases hl : l.length = m.length
  · have Hl := Lib.hid hl
    rw [← hl]
    clear hl
    go_enter Try.func44, Try.ntmps44
    go_wp2_with fail
    go_loopw [5, 6] (fun x5 j wr => ∃ (k : Nat) (av : Option Addr) (cv : Nat), k ≤ l.length ∧ j = .int .i64 k ∧ x5 = .slice av k cv ∧ Hid (wr.ownsRow w.heap.size 29 1 (.slice av k cv) k (ucells ((joinI l m).take k))) ∧ Hid (Below w.heap.size w wr)) (fun _ j _ => l.length - (intOf j).toNat)
    case atStart => exact ⟨0, none, 0, Nat.zero_le _, rfl, rfl, Lib.hid ⟨rfl, .inl ⟨rfl, rfl⟩⟩, Lib.hid (Below.refl _ _)⟩
    case round =>
      obtain ⟨k, av, cv, hk, rfl, rfl, hown, Hb⟩ := hrel
      have hs := Hb.out.size
      by_cases hlt : k < l.length
      · have hlm : k < m.length := by have := Hl.out; omega
        obtain ⟨x, hx⟩ : ∃ x, l[k]? = some x := ⟨l[k], by simp [hlt]⟩
        obtain ⟨y, hy⟩ : ∃ y, m[k]? = some y := ⟨m[k], by simp [hlm]⟩
        obtain ⟨ad, had, c0, hl0⟩ := (Hv.out.below Hb.out).at hx
        obtain ⟨ae, hae, c1, hl1⟩ := (Hu.out.below Hb.out).at hy
        subst had hae
        have Hj0 := Lib.hid (joinI_take Hl.out hx hy)
        clear hx hy
        by_cases hxy : x < y
        · have Hj := Lib.hid (show (joinI l m).take (k + 1) = (joinI l m).take k ++ [y] by rw [Hj0.out, show max x y = y by omega])
          clear Hj0
          go_wp2_with (at_builtin; go_must (refine wpList_append_sl rfl _ _ 45 rfl w.heap.size 29 i0 (.int .u32 0) 1 4 Try.underlying45 hi0 hz0 hz1 hz2 rfl (by decide) av k cv (ucells ((joinI l m).take k)) rfl ?o1 (some ⟨wr.heap.size, 0, none⟩) 1 1 [.int .u32 y] rfl ?s1 ?t1 ?c1 ?d1 ?e1 ?_))
          case o1 => exact owns_chg (F := []) hown.out (Chg.alloc _ _ _) (by simp)
          case s1 => exact Sl.blk (heap_new wr _) rfl (by decide)
          case t1 => first | rfl | (intro u hu; simp at hu; subst hu; rfl)
          case c1 => unfold maxLen; omega
          case d1 => omega
          case e1 => first | omega | (simp; omega)
          intro a1 c1 w1 ho1 hC1 hob1
          have hlt1 := owns_lt hown.out
          have hC : Chg (ob av) wr w1 := ((Chg.alloc (ob av) wr _).trans hC1 (fun x hx _ => hx))
          have HB1 := Lib.hid (Hb.out.trans (hC.below hs (fun x hx => (hlt1 x hx).1)))
          have Ho1 := Lib.hid (show w1.ownsRow w.heap.size 29 1 (.slice a1 (k + 1) c1) (k + 1) (ucells ((joinI l m).take (k + 1))) by rw [Hj.out]; simpa [ucells] using ho1)
          clear ho1 hC1 hob1 hC hlt1
          go_wp2_with fail
          go_roundw
          case rel => exact ⟨k + 1, a1, c1, by omega, by go_num, rfl, Ho1, HB1⟩
          case measure => simp [intOf]; omega
        · have hxy' : decide (x < y) = false := by simpa using hxy
          have Hj := Lib.hid (show (joinI l m).take (k + 1) = (joinI l m).take k ++ [x] by rw [Hj0.out, show max x y = x by omega])
          clear Hj0
          go_wp2_with (at_builtin; go_must (refine wpList_append_sl rfl _ _ 45 rfl w.heap.size 29 i0 (.int .u32 0) 1 4 Try.underlying45 hi0 hz0 hz1 hz2 rfl (by decide) av k cv (ucells ((joinI l m).take k)) rfl ?o1 (some ⟨wr.heap.size, 0, none⟩) 1 1 [.int .u32 x] rfl ?s1 ?t1 ?c1 ?d1 ?e1 ?_))
          case o1 => exact owns_chg (F := []) hown.out (Chg.alloc _ _ _) (by simp)
          case s1 => exact Sl.blk (heap_new wr _) rfl (by decide)
          case t1 => first | rfl | (intro u hu; simp at hu; subst hu; rfl)
          case c1 => unfold maxLen; omega
          case d1 => omega
          case e1 => first | omega | (simp; omega)
          intro a1 c1 w1 ho1 hC1 hob1
          have hlt1 := owns_lt hown.out
          have hC : Chg (ob av) wr w1 := ((Chg.alloc (ob av) wr _).trans hC1 (fun x hx _ => hx))
          have HB1 := Lib.hid (Hb.out.trans (hC.below hs (fun x hx => (hlt1 x hx).1)))
          have Ho1 := Lib.hid (show w1.ownsRow w.heap.size 29 1 (.slice a1 (k + 1) c1) (k + 1) (ucells ((joinI l m).take (k + 1))) by rw [Hj.out]; simpa [ucells] using ho1)
          clear ho1 hC1 hob1 hC hlt1
          go_wp2_with fail
          go_roundw
          case rel => exact ⟨k + 1, a1, c1, by omega, by go_num, rfl, Ho1, HB1⟩
          case measure => simp [intOf]; omega
      · obtain rfl : k = l.length := by omega
        have Ho := Lib.hid (show wr.ownsRow w.heap.size 29 1 (.slice av (joinI l m).length cv) (joinI l m).length (ucells (joinI l m)) by
          have h := hown.out
          have e := joinI_length Hl.out
          rw [List.take_of_length_le (by omega)] at h
          rw [e]; exact h)
        have He := Lib.hid (joinI_length Hl.out)
        go_wp2_with fail
        go_ret
        exact ⟨av, cv, by rw [He.out]; rfl, Ho.out, Hb.out⟩
  · have He := Lib.hid (show joinI l m = [] by simp [joinI, hl])
    have hl' : ((l.length : Int) == (m.length : Int)) = false := by simp; omega
    go_enter Try.func44, Try.ntmps44
    go_wp2_with fail
    go_ret
    rw [He.out]
    exact ⟨none, 0, rfl, ⟨rfl, .inl ⟨rfl, rfl⟩⟩, Below.refl _ _⟩
end Go.Proofs.Ytblahapjdgncfaa
