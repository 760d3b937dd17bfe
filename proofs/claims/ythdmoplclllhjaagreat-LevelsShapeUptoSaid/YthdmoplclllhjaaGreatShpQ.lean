/- levels.Beside of a graph: the contract. | LevelsShape: the map of levels while it is filled. -/
import Derived.Test.YthdmoplclllhjaaGreatLevC
import Derived.Test.YthdmoplclllhjaaGreatGraV
import Derived.Test.YthdmoplclllhjaaGreatGraC
import Derived.Test.YthdmoplclllhjaaGreatChnD
import Derived.Test.YthdmoplclllhjaaGreatWidB
import Derived.Test.YthdmoplclllhjaaGreatRgA
/- BesA -/
namespace Go.Proofs.YthdmoplclllhjaaGreat
open Go.RowKit
set_option linter.unusedVariables false
set_option linter.unusedSimpArgs false

/-- those beside a commit, of the first q -/
def besL (S : List Cw) (y : Cm) (q : Nat) : List Dt := (((cms S).take q).filter fun c => besideP y c).map (·.d)
theorem besL_next {S : List Cw} {y : Cm} {q : Nat} {v : Cw} (h : S[q]? = some v) : besL S y (q + 1) = if besideP y v.c = true then besL S y q ++ [v.c.d] else besL S y q := by
  have h2 : (cms S)[q]? = some v.c := by unfold cms; rw [List.getElem?_map, h]; rfl
  unfold besL
  rw [take_snoc' h2, List.filter_append, List.map_append]
  by_cases e : besideP y v.c = true
  · rw [if_pos e]; simp [e]
  · rw [if_neg e]; simp [e]
theorem besL_len (S : List Cw) (y : Cm) (q : Nat) : (besL S y q).length ≤ S.length := by
  unfold besL
  rw [List.length_map]
  refine Nat.le_trans (List.length_filter_le _ _) ?_
  rw [List.length_take]
  unfold cms
  rw [List.length_map]
  omega
/-- those beside a dot's commit, rising; or that there is none -/
def BesP (L : List Cm) (y : Cm) (v : List Dt) : Prop := v.Pairwise ltD ∧ ∀ d, d ∈ v ↔ ∃ c ∈ L, c.d = d ∧ besideP y c = true
def BesTo (w : World) (L : List Cm) (d : Dt) (e : Ending) (w' : World) : Prop :=
  (findC L d = none ∧ e = .returned (.tuple #[.slice none 0 0, .int .i64 7]) ∧ Below w.heap.size w w') ∨
  ∃ (y : Cm) (a : Option Addr) (c : Nat) (v : List Dt), findC L d = some y ∧ e = .returned (.tuple #[.slice a (List.length v) c, .int .i64 0]) ∧ BesP L y v ∧ okV v ∧ v.length ≤ L.length ∧ OwnD w' w.heap.size a c v ∧ Below w.heap.size w w'
structure BesE (w1 wr : World) (S : List Cw) (y : Cm) (q : Nat) (oa : Option Addr) (oc : Nat) (v : List Dt) : Prop where
  own : OwnD wr w1.heap.size oa oc v
  val : v = besL S y q
  bel : Below w1.heap.size w1 wr
theorem BesE.below {w1 wr w' : World} {S : List Cw} {y : Cm} {q : Nat} {oa : Option Addr} {oc : Nat} {v : List Dt} (h : BesE w1 wr S y q oa oc v) (hb : Below wr.heap.size wr w') : BesE w1 w' S y q oa oc v :=
  ⟨OwnD.below h.own hb, h.val, below2 h.bel hb h.bel.size⟩
theorem zero_may : ¬ CmP zeroC := fun h => by have := h.dot; revert this; decide +kernel
set_option maxRecDepth 100000 in
set_option maxHeartbeats 16000000 in
theorem besideL_G (pg gb : Nat) (w0 : World) (m : Nat) (b : Bw) (L : List Cw) (va : Option Addr) (vc : Nat) (vv : List Dt) (r i s : Int) (w : World) (h : GrAt w pg gb w0 m b L va vc vv) (hd : okD ((r, i), s)) :
    Calls Tryz.prog 60 #[.pointer (some ⟨pg, 0, none⟩), .agg #[.int .u8 r, .int .u32 i, .int .u64 s]] w (BesTo w (cms L) ((r, i), s)) := by
  have H := Lib.hid h
  have Hd := Lib.hid hd
  have E0 : Hid (BoxE 41 w (w.alloc (.cells #[.int .u8 r, .int .u32 i, .int .u64 s] 41)) #[.int .u8 r, .int .u32 i, .int .u64 s]) := Lib.hid ⟨heap_new _ _, (Below.refl _ _).alloc (Nat.le_refl _) _⟩
  clear h hd
  go_enter Tryz.func60, Tryz.ntmps60
  go_wp2_with fail
  refine (insert_G pg gb w0 m b L va vc vv zeroCw _ (H.out.below E0.out.bel) (zeroCw_at _) (by decide)).mono ?_
  intro e w1 hto
  obtain ⟨rfl, hto⟩ := hto
  have hi : insE b.b.f (findC (cms L)) L.length zeroCw.c = 4 := insE_may zero_may
  rw [hi] at hto ⊢
  have E := Lib.hid (E0.out.step (by
    rcases hto with ⟨_, hb⟩ | ⟨hz, _⟩
    · exact hb
    · exact absurd hz (by decide)))
  clear hto hi E0
  have d0 := cells_at E.out.blk
  have z0 := heap_lt E.out.blk
  go_wp2_with fail
  refine (get_G pg gb w0 m b L va vc vv r i s _ (H.out.below E.out.bel) Hd.out).mono ?_
  intro e w2 hto
  obtain ⟨u, rfl, hu, huo, hb2⟩ := hto
  have B2 := Lib.hid (below2 E.out.bel hb2 E.out.bel.size)
  have Huo := Lib.hid huo.at_
  cases hf : findC (cms L) ((r, i), s) with
  | none =>
    have Hf := Lib.hid hf
    have B3 := Lib.hid (B2.out.alloc B2.out.size (.cells (cwcells u) 46))
    obtain ⟨⟨⟨⟨ur, ui⟩, us⟩, ps, uu, t1, ⟨k1, n1, x1, p1, ds1⟩⟩, uqa, uqc, uva, uvc, upa, upc, uda, udc⟩ := u
    simp only [Option.isSome_none, cwcells] at B3 ⊢
    clear hu huo hb2 hf d0 z0
    go_wp2_with fail
    go_ret2
    exact .inl ⟨Hf.out, rfl, B3.out⟩
  | some y =>
    have Hf := Lib.hid hf
    obtain ⟨v0, hv0, hv0y⟩ := List.mem_map.1 (findC_some hf).1
    have hyl : y.vv.length ≤ 64 := by rw [← hv0y]; exact (H.out.may v0 hv0).vlen
    rw [hf] at hu
    obtain ⟨uc, uqa, uqc, uva, uvc, upa, upc, uda, udc⟩ := u
    have hu : uc = y := hu
    subst hu
    obtain ⟨⟨⟨ur, ui⟩, us⟩, ps, uu, t1, ⟨k1, n1, x1, p1, ds1⟩⟩ := uc
    dsimp only at hyl
    have U3 : Hid (BoxE 46 w2 (w2.alloc (.cells (ccells ur ui us uqa ps.length uqc uva uu.length uvc t1 k1 upa p1.length upc n1 x1 uda ds1.length udc) 46)) (ccells ur ui us uqa ps.length uqc uva uu.length uvc t1 k1 upa p1.length upc n1 x1 uda ds1.length udc)) := Lib.hid ⟨heap_new _ _, (Below.refl _ _).alloc (Nat.le_refl _) _⟩
    have B3 := Lib.hid (below2 B2.out U3.out.bel B2.out.size)
    clear huo hb2 hf hv0 hv0y d0 z0
    simp only [Option.isSome_some, cwcells]
    go_wp2_with fail
    refine (commits_G pg gb w0 m b L va vc vv _ (H.out.below B3.out)).mono ?_
    rintro e w4 ⟨sa, sc, ss, rfl, hp, hs, ho, he, hb4⟩
    have U4 := Lib.hid (U3.out.step hb4)
    have B4 := Lib.hid (below2 B3.out hb4 B3.out.size)
    have HC := Lib.hid (show Cms w4 sa sc ss from ⟨ho.cms, fun v hv => (he v hv).at_⟩)
    have HU := Lib.hid (show CwAt w4 ⟨⟨((ur, ui), us), ps, uu, t1, ⟨k1, n1, x1, p1, ds1⟩⟩, uqa, uqc, uva, uvc, upa, upc, uda, udc⟩ from Huo.out.below (below2 U3.out.bel hb4 U3.out.bel.size))
    have Hp := Lib.hid hp
    have hsl : ss.length = L.length := by have h1 := hp.length_eq; unfold cms at h1; simpa using h1
    have hs2 : ss.length ≤ 200 := by have := H.out.max; omega
    have Hvl := Lib.hid (show ∀ v ∈ ss, v.c.vv.length ≤ 64 from fun v hv => by
      obtain ⟨u, hu, e⟩ := List.mem_map.1 (Hp.out.subset (List.mem_map.2 ⟨v, hv, rfl⟩))
      rw [← e]
      exact (H.out.may u hu).vlen)
    have Hokd := Lib.hid (show ∀ v ∈ ss, okD v.c.d from fun v hv => (he v hv).ok.d)
    have hb24 : w2.heap.size < w4.heap.size := heap_lt U4.out.blk
    have Hsl := Lib.hid hsl
    have G0 : Hid (BesE w4 w4 ss ⟨((ur, ui), us), ps, uu, t1, ⟨k1, n1, x1, p1, ds1⟩⟩ 0 none 0 []) := Lib.hid ⟨OwnD.nil _ _, by unfold besL; simp, Below.refl _ _⟩
    clear hp hs ho he hb4 U3 hsl Huo
    go_wp2_with fail
    go_loopw [4, 25] (fun o j wr => ∃ (q : Nat) (oa : Option Addr) (oc : Nat) (v : List Dt), q ≤ ss.length ∧ j = .int .i64 q ∧ o = .slice oa (List.length v) oc ∧ Hid (BesE w4 wr ss ⟨((ur, ui), us), ps, uu, t1, ⟨k1, n1, x1, p1, ds1⟩⟩ q oa oc v)) (fun _ j _ => ss.length - (intOf j).toNat)
    case atStart => exact ⟨0, none, 0, [], Nat.zero_le _, rfl, rfl, G0⟩
    case round =>
      obtain ⟨q, oa, oc, v, hq, rfl, rfl, G⟩ := hrel
      clear G0
      have hvl : v.length ≤ 200 := by rw [G.out.val]; have := besL_len ss ⟨((ur, ui), us), ps, uu, t1, ⟨k1, n1, x1, p1, ds1⟩⟩ q; omega
      have hz4 := G.out.bel.size
      by_cases hlt : q < ss.length
      · obtain ⟨x, hx⟩ : ∃ x, ss[q]? = some x := ⟨ss[q], by simp [hlt]⟩
        obtain ⟨ad, had, ⟨c0, c1, c2, c3, c4, c5, c6, c7, c8, c9, c10⟩, hlb⟩ := (HC.out.below G.out.bel).at_ hx
        subst had
        have HX := Lib.hid (HC.out.each x (List.mem_of_getElem? hx))
        have hxl := Hvl.out x (List.mem_of_getElem? hx)
        have HN := Lib.hid (besL_next (y := ⟨((ur, ui), us), ps, uu, t1, ⟨k1, n1, x1, p1, ds1⟩⟩) hx)
        clear hx
        obtain ⟨⟨⟨⟨r1, i1⟩, s1⟩, ps1, uu1, t2, ⟨k2, n2, x2, p2, ds2⟩⟩, qa1, qc1, ua1, uc1, pa1, pc1, da1, dc1⟩ := x
        dsimp only at c0 c1 c2 c3 c4 c5 c6 c7 c8 c9 c10 hxl
        have hU4 := (G.out.bel.block _ hb24).trans U4.out.blk
        have A5 : Hid (BoxE 46 wr (wr.alloc (.cells (ccells r1 i1 s1 qa1 ps1.length qc1 ua1 uu1.length uc1 t2 k2 pa1 p2.length pc1 n2 x2 da1 ds2.length dc1) 46)) (ccells r1 i1 s1 qa1 ps1.length qc1 ua1 uu1.length uc1 t2 k2 pa1 p2.length pc1 n2 x2 da1 ds2.length dc1)) := Lib.hid ⟨heap_new _ _, (Below.refl _ _).alloc (Nat.le_refl _) _⟩
        have B5 := Lib.hid (below2 G.out.bel A5.out.bel G.out.bel.size)
        have d5 := cells_at ((A5.out.bel.block _ (heap_lt hU4)).trans hU4)
        have e5 := cells_at hU4
        have z5 := heap_lt hU4
        try simp only [ccells] at d5 e5
        clear hU4
        go_wp2_with fail
        refine (besideC_any ⟨⟨((ur, ui), us), ps, uu, t1, ⟨k1, n1, x1, p1, ds1⟩⟩, uqa, uqc, uva, uvc, upa, upc, uda, udc⟩ ⟨⟨((r1, i1), s1), ps1, uu1, t2, ⟨k2, n2, x2, p2, ds2⟩⟩, qa1, qc1, ua1, uc1, pa1, pc1, da1, dc1⟩ _ (HU.out.below B5.out) (HX.out.below B5.out) (by dsimp only; omega) (by dsimp only; omega)).mono ?_
        rintro e w6 ⟨rfl, hb⟩
        have A6 := Lib.hid (A5.out.step hb)
        have G6 := Lib.hid (G.out.below A6.out.bel)
        clear hb c0 c1 c2 c3 c4 c5 c6 c7 c8 c9 c10 hlb d5 e5 z5 A5 B5
        have d6 := cells_at A6.out.blk
        have z6 := heap_lt A6.out.blk
        try simp only [ccells] at d6
        dsimp only
        cases hbs : besideP ⟨((ur, ui), us), ps, uu, t1, ⟨k1, n1, x1, p1, ds1⟩⟩ ⟨((r1, i1), s1), ps1, uu1, t2, ⟨k2, n2, x2, p2, ds2⟩⟩ with
        | false =>
          have G7 : Hid (BesE w4 w6 ss ⟨((ur, ui), us), ps, uu, t1, ⟨k1, n1, x1, p1, ds1⟩⟩ (q + 1) oa oc v) := Lib.hid ⟨G6.out.own, by rw [HN.out, if_neg (by rw [hbs]; decide)]; exact G6.out.val, G6.out.bel⟩
          go_wp2_with fail
          go_roundw
          case rel => exact ⟨q + 1, oa, oc, v, by omega, by go_num, rfl, G7⟩
          case measure => simp [intOf]; omega
        | true =>
          have HV2 := Lib.hid (show besL ss ⟨((ur, ui), us), ps, uu, t1, ⟨k1, n1, x1, p1, ds1⟩⟩ (q + 1) = v ++ [((r1, i1), s1)] from by rw [HN.out, if_pos hbs, G6.out.val])
          have A7 : Hid (Below w6.heap.size w6 (w6.alloc (.cells #[.int .u8 r1, .int .u32 i1, .int .u64 s1] 41))) := Lib.hid ((Below.refl _ _).alloc (Nat.le_refl _) _)
          have G7 := Lib.hid (G6.out.below A7.out)
          clear hbs
          go_wp2_with (at_builtin; go_must (refine wpList_appD rfl _ _ rfl w4.heap.size oa oc v rfl G7.out.own (some ⟨w6.heap.size, 0, none⟩) 1 [((r1, i1), s1)] rfl (vec_one (heap_new _ _)) ?n2 ?b2 ?_))
          case n2 => simp; omega
          case b2 => exact G7.out.bel.size
          intro v2 a2 c2' we hv2 ho2 hb2 hc2
          have G8 : Hid (BesE w4 we ss ⟨((ur, ui), us), ps, uu, t1, ⟨k1, n1, x1, p1, ds1⟩⟩ (q + 1) a2 c2' v2) := Lib.hid ⟨ho2, by rw [hv2, HV2.out], G7.out.bel.trans hb2⟩
          clear hv2 ho2 hb2 hc2 d6 A7 G7
          go_wp2_with fail
          go_roundw
          case rel => exact ⟨q + 1, a2, c2', v2, by omega, by go_num, rfl, G8⟩
          case measure => simp [intOf]; omega
      · have hqq : q = ss.length := by omega
        have Hv := Lib.hid (show v = ((cms ss).filter fun c => besideP ⟨((ur, ui), us), ps, uu, t1, ⟨k1, n1, x1, p1, ds1⟩⟩ c).map (·.d) from by
          rw [G.out.val]
          unfold besL
          rw [List.take_of_length_le (by unfold cms; rw [List.length_map]; omega)])
        clear hqq
        go_wp2_with fail
        refine (sortD_any oa oc w4.heap.size v _ G.out.own (by omega)).mono ?_
        rintro e w7 ⟨rfl, v7, hl7, hp7, hs7, ho7, hc7⟩
        have hle := besL_len ss ⟨((ur, ui), us), ps, uu, t1, ⟨k1, n1, x1, p1, ds1⟩⟩ q
        rw [← G.out.val] at hle
        have Hnd := Lib.hid (show v7.Nodup from hp7.nodup_iff.2 (by
          rw [Hv.out]
          exact ((Hp.out.map (·.d)).nodup_iff.2 H.out.nodup).sublist ((List.filter_sublist).map _)))
        have HB7 := Lib.hid (show BesP (cms L) ⟨((ur, ui), us), ps, uu, t1, ⟨k1, n1, x1, p1, ds1⟩⟩ v7 from ⟨strict_of hs7 Hnd.out, fun d => by
          rw [hp7.mem_iff, Hv.out]
          constructor
          · intro h1
            obtain ⟨c, hc, rfl⟩ := List.mem_map.1 h1
            have h2 := List.mem_filter.1 hc
            exact ⟨c, Hp.out.mem_iff.1 h2.1, rfl, h2.2⟩
          · rintro ⟨c, hc, rfl, h2⟩
            exact List.mem_map.2 ⟨c, List.mem_filter.2 ⟨Hp.out.mem_iff.2 hc, h2⟩, rfl⟩⟩)
        have Hok7 := Lib.hid (show okV v7 from fun d hd => by
          have h1 := hp7.mem_iff.1 hd
          rw [Hv.out] at h1
          obtain ⟨c, hc, rfl⟩ := List.mem_map.1 h1
          obtain ⟨u, hu, rfl⟩ := List.mem_map.1 (List.mem_filter.1 hc).1
          exact Hokd.out u hu)
        have O7 := Lib.hid (OwnD.base (base' := w.heap.size) ho7 B4.out.size)
        have B7 := Lib.hid ((below2 B4.out G.out.bel B4.out.size).trans (hc7.below (B := w.heap.size) (Nat.le_trans B4.out.size G.out.bel.size) (fun k hk => by have h1 := (owns_lt G.out.own k hk).1; have h2 := B4.out.size; omega)))
        have Hl7 := Lib.hid (show v7.length ≤ (cms L).length from by rw [hl7]; unfold cms; rw [List.length_map, ← Hsl.out]; exact hle)
        rw [← hl7]
        clear hl7 hp7 hs7 ho7 hc7 hle
        go_wp2_with fail
        go_ret2
        exact .inr ⟨⟨((ur, ui), us), ps, uu, t1, ⟨k1, n1, x1, p1, ds1⟩⟩, oa, oc, v7, Hf.out, rfl, HB7.out, Hok7.out, Hl7.out, O7.out, B7.out⟩
end Go.Proofs.YthdmoplclllhjaaGreat

/- ShpQ -/
namespace Go.Proofs.YthdmoplclllhjaaGreat
open Go.RowKit
set_option linter.unusedVariables false
set_option linter.unusedSimpArgs false

/-- the levels of the dots that were gone through -/
def atV (S : List Cm) (T : List Dt) : Dt → Option Value := fun d => if d ∈ T then lvV S d else none
theorem atV_none {S : List Cm} {T : List Dt} {d : Dt} (h : d ∉ T) : atV S T d = none := by unfold atV; rw [if_neg h]
theorem atV_snoc {S : List Cm} {T : List Dt} {d : Dt} {n : Nat} (h : lvF S d = some n) (x : Dt) : (if x = d then some (.int .i64 (n : Int)) else atV S T x) = atV S (T ++ [d]) x := by
  unfold atV
  by_cases e : x = d
  · subst e
    rw [if_pos rfl, if_pos (by simp)]
    unfold lvV; rw [h]; rfl
  · rw [if_neg e]
    by_cases hx : x ∈ T
    · rw [if_pos hx, if_pos (by simp [hx])]
    · rw [if_neg hx, if_neg (by simp [hx, e])]
def tkV (V : List (List Dt)) (j : Nat) : List Dt := (V.take j).flatten
theorem tkV_next {V : List (List Dt)} {j : Nat} {l : List Dt} (h : V[j]? = some l) : tkV V (j + 1) = tkV V j ++ l := by
  unfold tkV
  rw [take_snoc' h, List.flatten_append]; simp
theorem tkV_mem {g : Dt → Option Nat} {V : List (List Dt)} (hV : LevP g V) {j : Nat} {d : Dt} (h : d ∈ tkV V j) : ∃ i, i < j ∧ g d = some (i + 1) := by
  unfold tkV at h
  obtain ⟨l, hl, hd⟩ := List.mem_flatten.1 h
  obtain ⟨i, hi⟩ := List.getElem?_of_mem hl
  rw [List.getElem?_take] at hi
  split at hi
  · rename_i hlt
    exact ⟨i, hlt, (hV.on i l hi d).1 hd⟩
  · cases hi
theorem tkV_all {g : Dt → Option Nat} {V : List (List Dt)} (hV : LevP g V) (h1 : ∀ d n, g d = some n → 1 ≤ n) (d : Dt) : d ∈ tkV V V.length ↔ (g d).isSome := by
  unfold tkV
  rw [List.take_length]
  constructor
  · intro h
    obtain ⟨l, hl, hd⟩ := List.mem_flatten.1 h
    obtain ⟨i, hi⟩ := List.getElem?_of_mem hl
    rw [(hV.on i l hi d).1 hd]; rfl
  · intro h
    obtain ⟨n, hn⟩ := Option.isSome_iff_exists.1 h
    have h2 := hV.top d n hn
    have h3 := h1 d n hn
    obtain ⟨i, rfl⟩ : ∃ i, n = i + 1 := ⟨n - 1, by omega⟩
    have e : V[i]? = some V[i] := List.getElem?_eq_getElem (by omega)
    exact List.mem_flatten.2 ⟨V[i], List.getElem_mem _, (hV.on i _ e d).2 hn⟩
/-- a level's dot is new -/
theorem tk_new {g : Dt → Option Nat} {V : List (List Dt)} (hV : LevP g V) {j z : Nat} {l : List Dt} {d : Dt} (hl : V[j]? = some l) (hd : l[z]? = some d) : d ∉ tkV V j ++ l.take z := fun h => by
  have hg := (hV.on j l hl d).1 (List.mem_of_getElem? hd)
  rcases List.mem_append.1 h with h | h
  · obtain ⟨i, hi, h2⟩ := tkV_mem hV h
    rw [hg] at h2
    injection h2 with h2
    omega
  · have hn := ltD_nodup (hV.rise l (List.mem_of_getElem? hl))
    obtain ⟨i, hi⟩ := List.getElem?_of_mem h
    rw [List.getElem?_take] at hi
    split at hi
    · rename_i hlt
      obtain ⟨k1, e1⟩ := List.getElem?_eq_some_iff.1 hi
      obtain ⟨k2, e2⟩ := List.getElem?_eq_some_iff.1 hd
      have h4 := List.pairwise_iff_getElem.1 hn i z k1 k2 hlt
      rw [e1, e2] at h4
      exact h4 rfl
    · cases hi
theorem tk_len {S : List Cm} {V : List (List Dt)} (hV : LevP (lvF S) V) (hn : (S.map (·.d)).Nodup) (ht : (tkV V V.length).Nodup) : (tkV V V.length).length = S.length := by
  have key := tkV_all hV (fun d n h => (lvF_le h).1)
  have hl : S.length = (S.map (·.d)).length := by simp
  rw [hl]
  refine Nat.le_antisymm (nodup_le_of_sub ht fun d hd => ?_) (nodup_le_of_sub hn fun d hd => ?_)
  · obtain ⟨c, hc, rfl⟩ := lvF_mem ((key d).1 hd)
    exact List.mem_map.2 ⟨c, hc, rfl⟩
  · obtain ⟨c, hc, rfl⟩ := List.mem_map.1 hd
    exact (key _).2 (lvF_is hc)
/-- while the levels are gone through: w1 is the world behind Levels, its next block the map -/
structure ShE (w1 wr : World) (S : List Cm) (T : List Dt) : Prop where
  mp : MapN wr w1.heap.size T.length (atV S T)
  nd : T.Nodup
  bel : Below w1.heap.size w1 wr
theorem ShE.below {w1 wr w' : World} {S : List Cm} {T : List Dt} (h : ShE w1 wr S T) (hb : Below wr.heap.size wr w') : ShE w1 w' S T := ⟨h.mp.below hb, h.nd, below2 h.bel hb h.bel.size⟩
theorem ShE.start (w1 : World) (S : List Cm) : ShE w1 (w1.alloc (.map #[] 0)) S [] := ⟨(MapN.made w1).congr fun d _ => (atV_none (by simp)).symm, List.nodup_nil, (Below.refl _ _).alloc (Nat.le_refl _) _⟩
theorem ShE.put {w1 wr w' : World} {S : List Cm} {T : List Dt} {d : Dt} {n : Nat} (h : ShE w1 wr S T) (hl : lvF S d = some n) (hn : d ∉ T) (hm : MapN w' w1.heap.size (T.length + 1) (fun x => if x = d then some (.int .i64 (n : Int)) else atV S T x)) (hc : Chg [w1.heap.size] wr w') : ShE w1 w' S (T ++ [d]) := by
  refine ⟨?_, ?_, h.bel.trans (hc.below h.bel.size (by simp))⟩
  · rw [List.length_append]
    exact hm.congr fun x _ => atV_snoc hl x
  · rw [List.nodup_append]
    refine ⟨h.nd, by simp, fun a ha b hb => ?_⟩
    rw [List.mem_singleton] at hb
    subst hb
    exact fun e => hn (e ▸ ha)
end Go.Proofs.YthdmoplclllhjaaGreat
