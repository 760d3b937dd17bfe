/- order.Lacks$1, order.Lacks: the contracts. | varveref11.Same, SameAll where both are alike; varveref15.Lacks: the contracts. -/
import Derived.Test.YthdmoplclllhjaaGreatHeaD
import Derived.Test.YthdmoplclllhjaaGreatWitA
import Derived.Test.YthdmoplclllhjaaGreatChnD
import Derived.Test.YthdmoplclllhjaaGreatGraQ
import Derived.Test.YthdmoplclllhjaaGreatRgE
import Derived.Test.YthdmoplclllhjaaGreatROpA
/- HeaE -/
namespace Go.Proofs.YthdmoplclllhjaaGreat
open Go.RowKit
set_option linter.unusedVariables false
set_option linter.unusedSimpArgs false

set_option maxRecDepth 100000 in
set_option maxHeartbeats 4000000 in
theorem lacks1_any (u : Cw) (bx : Nat) (ja : Option Addr) (jc : Nat) (J : List Dt) (w : World) (h : w.heap[bx]? = some (.cells #[.slice ja J.length jc] 24 (0, 0))) (hJ : Vec w ja jc J) (hok : okV J) (hj : J.length ≤ 1100000) (hu : okD u.c.d) :
    Calls Tryz.prog 115 #[.agg (cwcells u), .pointer (some ⟨bx, 0, none⟩)] w fun e w' => e = .returned (.bool (hasV J u.c.d)) ∧ Below w.heap.size w w' := by
  obtain ⟨⟨⟨⟨r, i⟩, s⟩, ps, uu, t1, ⟨k, n, x, p1, ds⟩⟩, qa, qc, ua, uc, pa, pc, da, dc⟩ := u
  have HJ := Lib.hid hJ
  have Hok := Lib.hid hok
  have Hu := Lib.hid hu
  have b0 := cells_at h
  have z0 := heap_lt h
  have B0 : Hid (Below w.heap.size w (w.alloc (.cells (ccells r i s qa ps.length qc ua uu.length uc t1 k pa p1.length pc n x da ds.length dc) 46))) := Lib.hid ((Below.refl _ _).alloc (Nat.le_refl _) _)
  clear h hu hJ hok
  simp only [cwcells]
  go_enter Tryz.func115, Tryz.ntmps115
  go_wp2_with fail
  refine (has_any ja jc J r i s _ (HJ.out.below B0.out) hj Hok.out Hu.out.1).mono ?_
  rintro e w1 ⟨rfl, hb⟩
  have HB := Lib.hid (below2 B0.out hb B0.out.size)
  clear hb
  go_wp2_with fail
  go_ret
  exact ⟨rfl, HB.out⟩
@[go_sem] theorem assert_c (a b c d e f g h i j k : Value) (w : World) : (Instr.typeAssert (.iface 46 (.agg #[a, b, c, d, e, f, g, h, i, j, k])) 20 46 true).run Tryz.prog w = .ok (.tuple #[.agg #[a, b, c, d, e, f, g, h, i, j, k], .bool true]) w := by kernel_rfl
/-- what is lacking: the first of those that a vector does not hold -/
def lackP (S : List Cm) (V : List Dt) (m : Int) : List Cm := (S.filter fun c => !hasV V c.d).take m.toNat
def LacksTo (w : World) (L : List Cm) (V : List Dt) (m : Int) (e : Ending) (w' : World) : Prop :=
  ∃ a c R S, e = .returned (.slice a (List.length R) c) ∧ S.Perm L ∧ SortedC S ∧ cms R = lackP S V m ∧ OwnC w' w.heap.size a c R ∧ (∀ v ∈ R, CwOwn w' w.heap.size v) ∧ Below w.heap.size w w'
theorem ltC_b (x y : Cm) : ltC x y ↔ ltCb x y = true := by
  first | exact Iff.rfl | (rw [ltCb_or]; rfl) | (rw [ltCb_or]; unfold ltC; simp)
/-- the least of the rest is the next one -/
theorem next_of {F : List Cm} (hs : SortedC F) {q : Nat} {x : Cm} {l : List Cm} (hp : (x :: l).Perm (F.drop q)) (hm : ∀ y ∈ l, leC x y) : F[q]? = some x ∧ l.Perm (F.drop (q + 1)) := by
  cases hd : F.drop q with
  | nil => rw [hd] at hp; exact absurd hp.length_eq (by simp)
  | cons f rest =>
    have hq : F[q]? = some f := by
      have h1 : (F.drop q)[0]? = some f := by rw [hd]; rfl
      rw [List.getElem?_drop] at h1
      simpa using h1
    have hr : F.drop (q + 1) = rest := by
      have h1 : (F.drop q).drop 1 = rest := by rw [hd]; rfl
      rw [List.drop_drop] at h1
      exact h1
    have hsd : SortedC (f :: rest) := by
      unfold SortedC at hs ⊢
      rw [← hd]
      exact hs.sublist (List.drop_sublist _ _)
    rw [hd] at hp
    have hfx : f = x := by
      have h1 : f ∈ x :: l := hp.symm.subset (List.mem_cons_self ..)
      rcases List.mem_cons.1 h1 with h1 | h1
      · exact h1
      · have h2 : x ∈ f :: rest := hp.subset (List.mem_cons_self ..)
        rcases List.mem_cons.1 h2 with h2 | h2
        · exact h2.symm
        · unfold SortedC at hsd
          rw [List.pairwise_cons] at hsd
          have h3 := (ltC_b _ _).1 (hsd.1 x h2)
          have h4 := hm f h1
          unfold leC at h4
          rw [h3] at h4; cases h4
    subst hfx
    refine ⟨hq, ?_⟩
    rw [hr]
    exact (List.perm_cons _).1 hp
theorem QuAt.chg {w w' : World} {qp g c base : Nat} {l : List Cw} {F : List Nat} (h : QuAt w qp g c base l) (hc : Chg F w w') (h1 : qp ∉ F) (h2 : g ∉ F) : QuAt w' qp g c base l :=
  ⟨heap_chg h.q hc h1, h.own.chg hc (fun k hk => by have e : k = g := by simpa [ob] using hk
                                                    rw [e]; exact h2), h.ne⟩
theorem QuAt.glt {w : World} {qp g c base : Nat} {l : List Cw} (h : QuAt w qp g c base l) : g < w.heap.size := by
  obtain ⟨C', fr', h'⟩ := ob_row h.own g (by simp [ob])
  exact heap_lt h'
theorem noRow_own {w : World} {base c : Nat} {a : Option Addr} {l : List Cw} (h : OwnC w base a c l) : NoRow w (ob a) := fun k hk C t fr h2 => by
  obtain ⟨C', fr', h'⟩ := ob_row h k hk
  rw [h2] at h'
  cases h'
  exact ⟨by decide, by decide⟩
theorem QuAt.noRow {w : World} {qp g c base : Nat} {l : List Cw} (h : QuAt w qp g c base l) : NoRow w [qp, g] := fun k hk C t fr h2 => by
  simp only [List.mem_cons, List.not_mem_nil, or_false] at hk
  rcases hk with rfl | rfl
  · rw [h.q] at h2
    cases h2
    exact ⟨by decide, by decide⟩
  · exact noRow_own h.own k (by simp [ob]) C t fr h2
/-- one has been taken from the queue -/
structure LakM (w wr : World) (qb g qc : Nat) (F : List Cm) (ss : List Cw) (m : Nat) (R cur : List Cw) (x : Cw) (a : Option Addr) (c : Nat) : Prop where
  q : QuAt wr qb g qc w.heap.size cur
  hp : HeapB (cms cur) 0 cur.length
  all : ((R ++ [x]) ++ cur).Perm ss
  got : cms (R ++ [x]) = F.take (R.length + 1)
  rest : (cms cur).Perm (F.drop (R.length + 1))
  own : OwnC wr w.heap.size a c R
  each : ∀ v ∈ ss, CwOwn wr w.heap.size v
  far : ∀ k ∈ ob a, k ≠ qb ∧ k ≠ g
  bel : Below w.heap.size w wr
  qlo : w.heap.size ≤ qb
  few : R.length + 1 ≤ m
theorem LakM.below {w wr w' : World} {qb g qc : Nat} {F : List Cm} {ss : List Cw} {m : Nat} {R cur : List Cw} {x : Cw} {a : Option Addr} {c : Nat} (h : LakM w wr qb g qc F ss m R cur x a c) (hb : Below wr.heap.size wr w') : LakM w w' qb g qc F ss m R cur x a c :=
  ⟨h.q.below hb, h.hp, h.all, h.got, h.rest, h.own.below hb, fun v hv => (h.each v hv).below hb, h.far, below2 h.bel hb h.bel.size, h.qlo, h.few⟩
/-- while they are taken -/
structure LakE (w wr : World) (qb g qc : Nat) (F : List Cm) (ss : List Cw) (m : Nat) (R cur : List Cw) (a : Option Addr) (c : Nat) : Prop where
  q : QuAt wr qb g qc w.heap.size cur
  hp : HeapB (cms cur) 0 cur.length
  all : (R ++ cur).Perm ss
  got : cms R = F.take R.length
  rest : (cms cur).Perm (F.drop R.length)
  own : OwnC wr w.heap.size a c R
  each : ∀ v ∈ ss, CwOwn wr w.heap.size v
  far : ∀ k ∈ ob a, k ≠ qb ∧ k ≠ g
  bel : Below w.heap.size w wr
  qlo : w.heap.size ≤ qb
  few : R.length ≤ m
theorem LakE.pop {w wr w' : World} {qb g qc : Nat} {F : List Cm} {ss : List Cw} {m : Nat} {R cur cur' : List Cw} {x : Cw} {a : Option Addr} {c : Nat} (h : LakE w wr qb g qc F ss m R cur a c) (hF : SortedC F) (hx : cur[0]? = some x) (hq : QuAt w' qb g qc w.heap.size cur') (hh : HeapB (cms cur') 0 cur'.length) (hp : (x :: cur').Perm cur) (hc : Chg [qb, g] wr w') (hm : R.length < m) :
    LakM w w' qb g qc F ss m R cur' x a c := by
  have h1 : (x.c :: cms cur').Perm (F.drop R.length) := (show (cms (x :: cur')).Perm (cms cur) from hp.map _).trans h.rest
  obtain ⟨e1, e2⟩ := next_of hF h1 (fun y hy => by
    obtain ⟨v, hv, rfl⟩ := List.mem_map.1 hy
    obtain ⟨k, hk⟩ := List.getElem?_of_mem (hp.subset (List.mem_cons_of_mem _ hv))
    exact h.hp.top (cms_i hx) k k v.c (Nat.le_refl _) (List.getElem?_eq_some_iff.1 hk).1 (cms_i hk))
  have hg : w.heap.size ≤ g := (owns_lt h.q.own g (by simp [ob])).1
  refine ⟨hq, hh, ?_, ?_, e2, h.own.chg hc (fun k hk => by have := h.far k hk; simp [this.1, this.2]), fun v hv => (h.each v hv).chg hc h.q.noRow, h.far, h.bel.trans (hc.below h.bel.size (fun k hk => by have := h.qlo; simp at hk; rcases hk with rfl | rfl <;> omega)), h.qlo, hm⟩
  · rw [List.append_assoc]
    exact (List.Perm.append_left R hp).trans h.all
  · rw [take_snoc' e1]
    unfold cms
    rw [List.map_append]
    have := h.got
    unfold cms at this
    rw [this]; rfl
theorem LakM.app {w wa w' : World} {qb g qc : Nat} {F : List Cm} {ss : List Cw} {m : Nat} {R cur : List Cw} {x : Cw} {a a' : Option Addr} {c c' : Nat} {v' : List Cw} (h : LakM w wa qb g qc F ss m R cur x a c) (hv : v' = R ++ [x]) (ho : OwnC w' w.heap.size a' c' v') (hb : Below w.heap.size w w') (hc : Chg (ob a) wa w') (hn : ∀ k ∈ ob a', k ∈ ob a ∨ wa.heap.size ≤ k) :
    LakE w w' qb g qc F ss m v' cur a' c' := by
  have hl : v'.length = R.length + 1 := by rw [hv]; simp
  have hql := heap_lt h.q.q
  have hgl := h.q.glt
  refine ⟨h.q.chg hc (fun hk => (h.far _ hk).1 rfl) (fun hk => (h.far _ hk).2 rfl), h.hp, by rw [hv]; exact h.all, by rw [hl, hv]; exact h.got, by rw [hl]; exact h.rest, ho, fun v hv => (h.each v hv).chg hc (noRow_own h.own), fun k hk => ?_, hb, h.qlo, by rw [hl]; exact h.few⟩
  rcases hn k hk with h1 | h1
  · exact h.far k h1
  · omega
/-- a row's length -/
def slen : Value → Nat
  | .slice _ n _ => n
  | _ => 0
theorem lack_end {F S : List Cm} {V : List Dt} {most : Int} {R : List Cw} (hF : F = S.filter fun c => !hasV V c.d) (hg : cms R = F.take R.length) (hm : R.length ≤ most.toNat) (he : F.length ≤ R.length ∨ most.toNat ≤ R.length) : cms R = lackP S V most := by
  unfold lackP
  rw [← hF, hg]
  rcases he with he | he
  · rw [List.take_of_length_le he, List.take_of_length_le (by omega)]
  · have : most.toNat = R.length := by omega
    rw [this]
set_option maxRecDepth 100000 in
set_option maxHeartbeats 8000000 in
theorem lacks_any (gp : Option Addr) (L : List Cm) (ua : Option Addr) (uc : Nat) (U : List Dt) (most : Int) (w : World) (h : ∀ W, Below w.heap.size w W → Calls Tryz.prog 20 #[.pointer gp] W (ComsTo W L)) (hmax : L.length ≤ 200) (hU : Vec w ua uc U) (hok : okV U) (hn : U.length ≤ 500000) :
    Calls Tryz.prog 52 #[.pointer gp, .slice ua U.length uc, .int .i64 most] w (LacksTo w L U most) := by
  have H := Lib.hid h
  have HU := Lib.hid hU
  have Hok := Lib.hid hok
  have hem := enters_of Tryz.func115 (by kernel_rfl) rfl
  have E0 : Hid (BoxE 24 w (w.alloc (.cells #[.slice ua U.length uc] 24)) #[.slice ua U.length uc]) := Lib.hid (BoxE.of (Below.refl _ _))
  clear h hU hok
  go_enter Tryz.func52, Tryz.ntmps52
  go_wp2_with fail
  refine (H.out _ E0.out.bel).mono ?_
  rintro e w4 ⟨sa, sc, ss, rfl, hp, hs, ho, he, hb⟩
  have hz0 : (w.alloc (.cells #[.slice ua U.length uc] 24)).heap.size = w.heap.size + 1 := by simp
  have Ho := Lib.hid (OwnC.base (base' := w.heap.size) ho (by omega))
  have hsl : ss.length = L.length := by have h1 := hp.length_eq; unfold cms at h1; simpa using h1
  have hs2 : ss.length ≤ 200 := by omega
  have Hp := Lib.hid hp
  have Hs := Lib.hid hs
  have He := Lib.hid (show ∀ v ∈ ss, CwOwn w4 w.heap.size v from fun v hv => (he v hv).base (by omega))
  have hfar : Hid (∀ k ∈ ob sa, w.heap.size + 1 ≤ k ∧ k < w4.heap.size) := Lib.hid (fun k hk => by have := owns_lt ho k hk; omega)
  have X4 := Lib.hid (E0.out.step hb)
  have hno : Hid (NoRow w4 (ob sa)) := Lib.hid (fun k hk C t fr h => by
    obtain ⟨C', fr', h'⟩ := ob_row ho k hk
    rw [h] at h'
    cases h'
    exact ⟨by decide, by decide⟩)
  clear hp hs ho he hb hsl E0
  go_wp2_with fail
  refine (deleteC_fn 115 #[.pointer (some ⟨w.heap.size, 0, none⟩)] (fun y => hasV U y.c.d) sa sc w.heap.size ss _ Ho.out (fun v hv => (He.out v hv).at_) (by omega) hem (fun v hv W hW => ?_)).mono ?_
  · exact lacks1_any v w.heap.size ua uc U W (heap_chg X4.out.blk hW (fun hk => by have := hfar.out _ hk; omega)) (HU.out.below (X4.out.bel.trans (hW.below X4.out.bel.size (fun k hk => by have := (hfar.out k hk).1; omega)))) Hok.out (by omega) (He.out v hv).ok.d
  rintro e w5 ⟨v', rfl, hv', ho, hc⟩
  have hvs : ∀ v ∈ v', v ∈ ss := fun v hv => by
    rw [hv'] at hv
    exact (List.mem_filter.1 hv).1
  have hvl : v'.length ≤ ss.length := by rw [hv']; exact List.length_filter_le _ _
  have HF : Hid (cms v' = (cms ss).filter fun c => !hasV U c.d) := Lib.hid (by
    rw [hv']
    unfold keepC' cms
    rw [List.filter_map]
    rfl)
  have HFs : Hid (SortedC (cms v')) := Lib.hid (by
    rw [HF.out]
    have := Hs.out
    unfold SortedC at *
    exact this.sublist List.filter_sublist)
  have He5 := Lib.hid (show ∀ v ∈ v', CwOwn w5 w.heap.size v from fun v hv => (He.out v (hvs v hv)).chg hc hno.out)
  have B5 := Lib.hid (X4.out.bel.trans (hc.below X4.out.bel.size (fun k hk => by have := (hfar.out k hk).1; omega)))
  have Ho5 := Lib.hid ho
  have hv2 : v'.length ≤ 200 := by omega
  have hg5 : Hid (∀ k ∈ ob sa, k < w5.heap.size) := Lib.hid (fun k hk => (owns_lt ho k hk).2)
  clear hvs hvl ho hc hv'
  by_cases h0 : v' = []
  · subst h0
    have hQ : ((w5.alloc (.cells #[.slice sa 0 sc] 140))).heap[w5.heap.size]? = some (.cells #[.slice sa 0 sc] 140 (0, 0)) := heap_new _ _
    have B6 := Lib.hid (B5.out.alloc B5.out.size (.cells #[.slice sa 0 sc] 140))
    have q6 := cells_at hQ
    have z6 := heap_lt hQ
    go_wp2_with fail
    refine (initQ_none w5.heap.size sc sa _ hQ).mono ?_
    rintro e w6 ⟨rfl, rfl⟩
    have Hl := Lib.hid (show cms ([] : List Cw) = lackP (cms ss) U most from lack_end HF.out rfl (Nat.zero_le _) (.inl (Nat.zero_le _)))
    go_wp2_with fail
    go_loopw [9] (fun u wr => u = .slice none 0 0 ∧ wr = (w5.alloc (.cells #[.slice sa 0 sc] 140))) (fun u _ => 0)
    case atStart => exact ⟨rfl, rfl⟩
    case round =>
      obtain ⟨rfl, rfl⟩ := hrel
      go_wp2_with fail
      refine (lenQ_any sa sc 0 _).mono ?_
      rintro e w7 ⟨rfl, rfl⟩
      go_wp2_with fail
      go_ret
      exact ⟨none, 0, [], cms ss, rfl, Hp.out, Hs.out, Hl.out, OwnC.nil _ _, (fun v hv => (by cases hv)), B6.out⟩
  · obtain ⟨g, rfl⟩ := Ho5.out.ptr (List.length_pos_iff.2 h0)
    clear h0
    go_wp2_with fail
    have hgl : g < w5.heap.size := hg5.out g (by simp [ob])
    have hglo : w.heap.size ≤ g := (owns_lt Ho5.out g (by simp [ob])).1
    have hA : Below w5.heap.size w5 (w5.alloc (.cells #[.slice (some ⟨g, 0, none⟩) v'.length sc] 140)) := (Below.refl _ _).alloc (Nat.le_refl _) _
    have Q5 : Hid (QuAt (w5.alloc (.cells #[.slice (some ⟨g, 0, none⟩) v'.length sc] 140)) w5.heap.size g sc w.heap.size v') := Lib.hid ⟨heap_new _ _, Ho5.out.below hA, by omega⟩
    have He6 := Lib.hid (show ∀ v ∈ v', CwOwn (w5.alloc (.cells #[.slice (some ⟨g, 0, none⟩) v'.length sc] 140)) w.heap.size v from fun v hv => (He5.out v hv).below hA)
    have B6 := Lib.hid (below2 B5.out hA B5.out.size)
    clear hA
    refine (initQ_any w5.heap.size g sc w.heap.size v' _ Q5.out (by omega)).mono ?_
    rintro e w6 ⟨l6, rfl, hq6, hh6, hp6, hc6⟩
    have hlen : l6.length = v'.length := hp6.length_eq
    have E6 : Hid (LakE w w6 w5.heap.size g sc (cms v') v' most.toNat [] l6 none 0) := Lib.hid ⟨hq6, by rw [hlen]; exact hh6, hp6, rfl, hp6.map _, OwnC.nil _ _, fun v hv => (He6.out v hv).chg hc6 (fun k hk => Q5.out.noRow k (by simp at hk; simp [hk])), (fun k hk => (by cases hk)), B6.out.trans (hc6.below B6.out.size (fun k hk => (by simp at hk; omega))), B5.out.size, Nat.zero_le _⟩
    have HFl : Hid ((cms v').length = v'.length) := Lib.hid (by unfold cms; simp)
    clear hq6 hh6 hp6 hc6 hlen
    go_wp2_with fail
    go_loopw [9] (fun u wr => ∃ (R cur : List Cw) (a : Option Addr) (c : Nat), u = .slice a R.length c ∧ Hid (LakE w wr w5.heap.size g sc (cms v') v' most.toNat R cur a c)) (fun u _ => v'.length - slen u)
    case atStart => exact ⟨[], l6, none, 0, rfl, E6⟩
    case round =>
      obtain ⟨R, cur, a, c, rfl, E⟩ := hrel
      have hall : R.length + cur.length = v'.length := by have := E.out.all.length_eq; simpa using this
      have hcl9 : cur.length ≤ 200 := by omega
      have hrl9 : R.length ≤ 200 := by omega
      have Hall := Lib.hid hall
      clear hall
      have d0 := cells_at E.out.q.q
      by_cases h0 : cur = []
      · subst h0
        have Hl := Lib.hid (show cms R = lackP (cms ss) U most from lack_end HF.out E.out.got E.out.few (.inl (by have := Hall.out; have := HFl.out; simp at *; omega)))
        have Hev := Lib.hid (show ∀ v ∈ R, CwOwn wr w.heap.size v from fun v hv => E.out.each v (E.out.all.subset (by simpa using hv)))
        simp only [List.length_nil] at d0
        go_wp2_with fail
        refine (lenQ_any (some ⟨g, 0, none⟩) sc 0 _).mono ?_
        rintro e w7 ⟨rfl, rfl⟩
        go_wp2_with fail
        go_ret
        exact ⟨a, c, R, cms ss, rfl, Hp.out, Hs.out, Hl.out, E.out.own, Hev.out, E.out.bel⟩
      · have h1 : (0 : Int) < (cur.length : Int) := by have := List.length_pos_iff.2 h0; omega
        obtain ⟨n, hn⟩ : ∃ n, n + 1 = cur.length := ⟨cur.length - 1, by omega⟩
        have Hn := Lib.hid hn
        clear h0 hn
        by_cases hm : (R.length : Int) < most
        · go_wp2_with fail
          refine (lenQ_any (some ⟨g, 0, none⟩) sc cur.length _).mono ?_
          rintro e w7 ⟨rfl, rfl⟩
          go_wp2_with fail
          refine (popH_any w5.heap.size g sc w.heap.size n cur _ E.out.q Hn.out (by omega) (by rw [Hn.out]; exact E.out.hp)).mono ?_
          rintro e w8 ⟨x, cur', hx, rfl, hq8, hh8, hp8, hc8⟩
          have M := Lib.hid (E.out.pop HFs.out hx hq8 hh8 hp8 hc8 (by omega))
          clear hx hq8 hh8 hp8 hc8 d0
          obtain ⟨⟨⟨⟨r1, i1⟩, s1⟩, ps1, uu1, t1, ⟨k1, n1, x1, p1, ds1⟩⟩, qa1, qc1, ua1, uc1, pa1, pc1, da1, dc1⟩ := x
          simp only [cwcells]
          go_upto_region 8 with (fail)
          have MA := Lib.hid (M.out.below ((Below.refl w8.heap.size w8).alloc (Nat.le_refl _) (.cells (ccells r1 i1 s1 qa1 ps1.length qc1 ua1 uu1.length uc1 t1 k1 pa1 p1.length pc1 n1 x1 da1 ds1.length dc1) 46)))
          have hx2 : (w8.alloc (.cells (ccells r1 i1 s1 qa1 ps1.length qc1 ua1 uu1.length uc1 t1 k1 pa1 p1.length pc1 n1 x1 da1 ds1.length dc1) 46)).heap[w8.heap.size]? = some (.cells (ccells r1 i1 s1 qa1 ps1.length qc1 ua1 uu1.length uc1 t1 k1 pa1 p1.length pc1 n1 x1 da1 ds1.length dc1) 46 (0, 0)) := heap_new _ _
          clear M
          generalize w8.alloc (.cells (ccells r1 i1 s1 qa1 ps1.length qc1 ua1 uu1.length uc1 t1 k1 pa1 p1.length pc1 n1 x1 da1 ds1.length dc1) 46) = W3 at hx2 MA ⊢
          have d3 := cells_at hx2
          have z3 := heap_lt hx2
          have MB := Lib.hid (MA.out.below ((Below.refl W3.heap.size W3).alloc (Nat.le_refl _) (.cells (ccells r1 i1 s1 qa1 ps1.length qc1 ua1 uu1.length uc1 t1 k1 pa1 p1.length pc1 n1 x1 da1 ds1.length dc1) 46)))
          clear hx2 MA
          go_wp2_with (at_builtin; go_must (refine wpList_appC rfl _ _ rfl w.heap.size a c R rfl MB.out.own (some ⟨W3.heap.size, 0, none⟩) 1 [⟨⟨((r1, i1), s1), ps1, uu1, t1, ⟨k1, n1, x1, p1, ds1⟩⟩, qa1, qc1, ua1, uc1, pa1, pc1, da1, dc1⟩] rfl (cm_one ⟨⟨((r1, i1), s1), ps1, uu1, t1, ⟨k1, n1, x1, p1, ds1⟩⟩, qa1, qc1, ua1, uc1, pa1, pc1, da1, dc1⟩ (heap_new _ _)) ?n1 ?b1 ?_))
          case n1 => simp; omega
          case b1 => exact MB.out.bel.size
          intro v6 a6 c6 w6 hv6 ho6 hb6 hc6 hn6
          have E6 := Lib.hid (MB.out.app hv6 ho6 (MB.out.bel.trans hb6) hc6 (by simpa using hn6))
          have hv6l := Lib.hid (show v6.length = R.length + 1 by rw [hv6]; simp)
          clear hv6 ho6 hb6 hc6 hn6 d3 z3 MB
          go_wp2_with fail
          go_roundw
          case rel => exact ⟨v6, cur', a6, c6, rfl, E6⟩
          case measure => have h1 := hv6l.out; have h2 := Hall.out; have h3 := Hn.out; simp only [slen]; omega
        · have Hl := Lib.hid (show cms R = lackP (cms ss) U most from lack_end HF.out E.out.got E.out.few (.inr (by omega)))
          have Hev := Lib.hid (show ∀ v ∈ R, CwOwn wr w.heap.size v from fun v hv => E.out.each v (E.out.all.subset (List.mem_append_left _ hv)))
          go_wp2_with fail
          refine (lenQ_any (some ⟨g, 0, none⟩) sc cur.length _).mono ?_
          rintro e w7 ⟨rfl, rfl⟩
          go_wp2_with fail
          go_ret
          exact ⟨a, c, R, cms ss, rfl, Hp.out, Hs.out, Hl.out, E.out.own, Hev.out, E.out.bel⟩
theorem lacks_G (pg mb : Nat) (w0 : World) (m : Nat) (b : Bw) (L : List Cw) (va : Option Addr) (vc : Nat) (vv : List Dt) (ua : Option Addr) (uc : Nat) (U : List Dt) (most : Int) (w : World) (h : GrAt w pg mb w0 m b L va vc vv) (hU : Vec w ua uc U) (hok : okV U) (hn : U.length ≤ 500000) :
    Calls Tryz.prog 52 #[.pointer (some ⟨pg, 0, none⟩), .slice ua U.length uc, .int .i64 most] w (LacksTo w (cms L) U most) :=
  lacks_any (some ⟨pg, 0, none⟩) (cms L) ua uc U most w (fun W hb => commits_G pg mb w0 m b L va vc vv W (h.below hb)) (by have := h.max; unfold cms; simpa using this) hU hok hn
theorem lacks_no (ua : Option Addr) (uc : Nat) (U : List Dt) (most : Int) (w : World) (hU : Vec w ua uc U) (hok : okV U) (hn : U.length ≤ 500000) :
    Calls Tryz.prog 52 #[.pointer none, .slice ua U.length uc, .int .i64 most] w (LacksTo w [] U most) :=
  lacks_any none [] ua uc U most w (fun W hb => (commits_no (.pointer none) W (.inl rfl)).mono fun e w' ⟨he, hw⟩ => ⟨none, 0, [], he, .refl _, List.Pairwise.nil, OwnC.nil _ _, fun v hv => (by cases hv), hw ▸ Below.refl _ _⟩) (Nat.zero_le _) hU hok hn
end Go.Proofs.YthdmoplclllhjaaGreat

/- HeaF -/
namespace Go.Proofs.YthdmoplclllhjaaGreat
open Go.RowKit
set_option linter.unusedVariables false
set_option linter.unusedSimpArgs false

/-- a commit is not great beyond measure -/
def CwB (v : Cw) : Prop := v.c.ps.length ≤ 1100000 ∧ v.c.vv.length ≤ 1100000 ∧ v.c.o.p.length ≤ 1100000 ∧ v.c.o.ds.length ≤ 1100000
set_option maxRecDepth 100000 in
set_option maxHeartbeats 8000000 in
theorem same11_any (u v : Cw) (w : World) (hu : CwAt w u) (hv : CwAt w v) (hb : CwB u) (he : u.c = v.c) :
    Calls Tryz.prog 43 #[.agg (cwcells u), .agg (cwcells v)] w fun e w' => e = .returned (.bool true) ∧ Below w.heap.size w w' := by
  obtain ⟨⟨⟨⟨r, i⟩, s⟩, ps, uu, t, ⟨k, n, x, p, ds⟩⟩, qa, qc, ua, uc, pa, pc, da, dc⟩ := u
  obtain ⟨c', qa', qc', ua', uc', pa', pc', da', dc'⟩ := v
  dsimp only at he
  subst he
  have HU := Lib.hid hu
  have HV := Lib.hid hv
  obtain ⟨b1, b2, b3, b4⟩ := hb
  dsimp only at b1 b2 b3 b4
  have E : Hid (Below w.heap.size w ((w.alloc (.cells (ccells r i s qa ps.length qc ua uu.length uc t k pa p.length pc n x da ds.length dc) 46)).alloc (.cells (ccells r i s qa' ps.length qc' ua' uu.length uc' t k pa' p.length pc' n x da' ds.length dc') 46)) ∧ ((w.alloc (.cells (ccells r i s qa ps.length qc ua uu.length uc t k pa p.length pc n x da ds.length dc) 46)).alloc (.cells (ccells r i s qa' ps.length qc' ua' uu.length uc' t k pa' p.length pc' n x da' ds.length dc') 46)).heap[w.heap.size]? = some (.cells (ccells r i s qa ps.length qc ua uu.length uc t k pa p.length pc n x da ds.length dc) 46 (0, 0)) ∧ ((w.alloc (.cells (ccells r i s qa ps.length qc ua uu.length uc t k pa p.length pc n x da ds.length dc) 46)).alloc (.cells (ccells r i s qa' ps.length qc' ua' uu.length uc' t k pa' p.length pc' n x da' ds.length dc') 46)).heap[w.heap.size + 1]? = some (.cells (ccells r i s qa' ps.length qc' ua' uu.length uc' t k pa' p.length pc' n x da' ds.length dc') 46 (0, 0))) :=
    Lib.hid ⟨((Below.refl _ _).alloc (Nat.le_refl _) _).alloc (by simp) _, (heap_old _ _ (by simp)).trans (heap_new _ _), heap_new2 _ _ _⟩
  clear hu hv
  simp only [cwcells]
  go_enter Tryz.func43, Tryz.ntmps43
  go_upto_region 1 with (fail)
  obtain ⟨wa, hwa⟩ : ∃ wa, wa = ((w.alloc (.cells (ccells r i s qa ps.length qc ua uu.length uc t k pa p.length pc n x da ds.length dc) 46)).alloc (.cells (ccells r i s qa' ps.length qc' ua' uu.length uc' t k pa' p.length pc' n x da' ds.length dc') 46)) := ⟨_, rfl⟩
  simp only [ccells] at hwa
  have E2 := E.out
  clear E
  simp only [ccells] at E2
  rw [← hwa] at E2 ⊢
  clear hwa
  have E := Lib.hid E2
  clear E2
  have d0 := cells_at E.out.2.1
  have d1 := cells_at E.out.2.2
  have z0 := heap_lt E.out.2.1
  have z1 := heap_lt E.out.2.2
  have x1 : eqD ((r, i), s) ((r, i), s) = true := (eqD_iff _ _).2 rfl
  go_wp2_with fail
  refine (same_any qa qa' qc qc' ps ps _ (HU.out.ps.below E.out.1) (HV.out.ps.below E.out.1) b1 b1).mono ?_
  rintro e w1 ⟨rfl, hb1⟩
  have B1 := Lib.hid (below2 E.out.1 hb1 E.out.1.size)
  have F1 := Lib.hid ((hb1.block _ z0).trans E.out.2.1)
  have G1 := Lib.hid ((hb1.block _ z1).trans E.out.2.2)
  clear hb1 E d0 d1 z0 z1
  have d0 := cells_at F1.out
  have d1 := cells_at G1.out
  have z0 := heap_lt F1.out
  have z1 := heap_lt G1.out
  have x2 : decide (ps = ps) = true := decide_eq_true rfl
  go_wp2_with fail
  refine (same_any ua ua' uc uc' uu uu _ (HU.out.vv.below B1.out) (HV.out.vv.below B1.out) b2 b2).mono ?_
  rintro e w2 ⟨rfl, hb1⟩
  have B2 := Lib.hid (below2 B1.out hb1 B1.out.size)
  have F2 := Lib.hid ((hb1.block _ z0).trans F1.out)
  have G2 := Lib.hid ((hb1.block _ z1).trans G1.out)
  clear hb1 d0 d1 z0 z1 B1 F1 G1
  have d0 := cells_at F2.out
  have d1 := cells_at G2.out
  have z0 := heap_lt F2.out
  have z1 := heap_lt G2.out
  have x3 : decide (uu = uu) = true := decide_eq_true rfl
  go_wp2_with fail
  refine (rsameO_any ⟨⟨k, n, x, p, ds⟩, pa, pc, da, dc⟩ ⟨⟨k, n, x, p, ds⟩, pa', pc', da', dc'⟩ _ (HU.out.below B2.out).op (HV.out.below B2.out).op b3 b4 b3 b4).mono ?_
  rintro e w3 ⟨q, rfl, hq, hb1⟩
  obtain rfl : q = true := hq.2 rfl
  have B3 := Lib.hid (below2 B2.out hb1 B2.out.size)
  clear hb1 hq
  go_wp2_with fail
  go_ret
  exact ⟨rfl, B3.out⟩
set_option maxRecDepth 100000 in
set_option maxHeartbeats 8000000 in
theorem sameAll11_any (a a' : Option Addr) (c c' : Nat) (l l' : List Cw) (w : World) (h : Cms w a c l) (h' : Cms w a' c' l') (hb : ∀ v ∈ l, CwB v) (he : cms l = cms l') (hl : l.length ≤ 1000) :
    Calls Tryz.prog 32 #[.slice a l.length c, .slice a' l'.length c'] w fun e w' => e = .returned (.bool true) ∧ Below w.heap.size w w' := by
  have hll : l'.length = l.length := by have h1 := congrArg List.length he; unfold cms at h1; simpa using h1.symm
  have H := Lib.hid h
  have H' := Lib.hid h'
  have Hb := Lib.hid hb
  have He := Lib.hid he
  rw [hll]
  have Hll := Lib.hid hll
  clear h h' hb he hll
  go_enter Tryz.func32, Tryz.ntmps32
  go_wp2_with fail
  go_loopw [5] (fun j wr => ∃ k : Nat, k ≤ l.length ∧ j = .int .i64 k ∧ Hid (Below w.heap.size w wr)) (fun j _ => l.length - (intOf j).toNat)
  case atStart => exact ⟨0, Nat.zero_le _, rfl, Lib.hid (Below.refl _ _)⟩
  case round =>
    obtain ⟨k, hk, rfl, B⟩ := hrel
    by_cases hlt : k < l.length
    · obtain ⟨x, hx⟩ : ∃ v, l[k]? = some v := ⟨l[k], by simp [hlt]⟩
      obtain ⟨y, hy⟩ : ∃ v, l'[k]? = some v := ⟨l'[k]'(by rw [Hll.out]; exact hlt), by simp⟩
      have hxy : x.c = y.c := by
        have h1 := cms_i hx
        rw [He.out, cms_i hy] at h1
        exact (Option.some.inj h1).symm
      have HX := Lib.hid ((H.out.each x (List.mem_of_getElem? hx)).below B.out)
      have HY := Lib.hid ((H'.out.each y (List.mem_of_getElem? hy)).below B.out)
      have HB := Lib.hid (Hb.out x (List.mem_of_getElem? hx))
      have Hxy := Lib.hid hxy
      obtain ⟨ad, had, ⟨c0, c1, c2, c3, c4, c5, c6, c7, c8, c9, c10⟩, hlb⟩ := (H.out.below B.out).at_ hx
      obtain ⟨ae, hae, ⟨e0, e1, e2, e3, e4, e5, e6, e7, e8, e9, e10⟩, hlb2⟩ := (H'.out.below B.out).at_ hy
      have B0 : Hid (Below w.heap.size w wr.drew) := Lib.hid (B.out.trans (((Below.refl wr.heap.size wr).drew).mono B.out.size))
      subst had
      subst hae
      clear hx hy hxy
      obtain ⟨⟨⟨⟨r, i1⟩, s⟩, ps, uu, t, ⟨kk, n, x1, p, ds⟩⟩, qa, qc, ua, uc, pa, pc, da, dc⟩ := x
      obtain ⟨⟨⟨⟨r', i'⟩, s'⟩, ps', uu', t', ⟨k', n', x', p', ds'⟩⟩, qa', qc', ua', uc', pa', pc', da', dc'⟩ := y
      dsimp only at c0 c1 c2 c3 c4 c5 c6 c7 c8 c9 c10 e0 e1 e2 e3 e4 e5 e6 e7 e8 e9 e10
      go_wp2_with fail
      refine region_text [([0, 1, 2, 3, 4, 5, 6, 7, 8, 9], false)] mixed (by kernel_rfl) ?_
      simp only [wpSegs, List.map_cons, List.map_nil, List.getD_cons_succ, List.getD_cons_zero]
      go_wp2_with fail
      refine (same11_any ⟨⟨((r, i1), s), ps, uu, t, ⟨kk, n, x1, p, ds⟩⟩, qa, qc, ua, uc, pa, pc, da, dc⟩ ⟨⟨((r', i'), s'), ps', uu', t', ⟨k', n', x', p', ds'⟩⟩, qa', qc', ua', uc', pa', pc', da', dc'⟩ _ (HX.out.below (Below.refl _ _).drew) (HY.out.below (Below.refl _ _).drew) HB.out Hxy.out).mono ?_
      rintro e w1 ⟨rfl, hb⟩
      have HB1 := Lib.hid (below2 B0.out hb B0.out.size)
      clear hb c0 c1 c2 c3 c4 c5 c6 c7 c8 c9 c10 e0 e1 e2 e3 e4 e5 e6 e7 e8 e9 e10
      go_wp2_with fail
      refine And.intro (by kernel_rfl) ?_
      go_wp2_with fail
      go_roundw
      case rel => exact ⟨k + 1, by omega, by go_num, HB1⟩
      case measure => simp [intOf]; omega
    · go_wp2_with fail
      go_ret
      exact ⟨rfl, B.out⟩
theorem lackP_next {C : List Cm} {k : Nat} {x : Cm} (h : C[k]? = some x) (U : List Dt) (m : Int) :
    lackP (C.take (k + 1)) U m = if hasV U x.d = false ∧ (lackP (C.take k) U m).length < m.toNat then lackP (C.take k) U m ++ [x] else lackP (C.take k) U m := by
  unfold lackP
  rw [take_snoc' h, List.filter_append]
  generalize ((C.take k).filter fun c => !hasV U c.d) = A
  cases hh : hasV U x.d with
  | true => simp [hh]
  | false =>
    have e : ([x].filter fun c => !hasV U c.d) = [x] := by simp [hh]
    rw [e, List.take_append]
    by_cases hl : (A.take m.toNat).length < m.toNat
    · rw [if_pos ⟨rfl, hl⟩]
      rw [List.length_take] at hl
      rw [List.take_of_length_le (l := [x]) (by simp; omega)]
    · rw [if_neg (fun h => hl h.2)]
      rw [List.length_take] at hl
      rw [show m.toNat - A.length = 0 by omega]
      simp
/-- what the document says is lacking -/
def RLkTo (w : World) (S : List Cw) (U : List Dt) (m : Int) (e : Ending) (w' : World) : Prop :=
  ∃ a c R, e = .returned (.slice a (List.length R) c) ∧ cms R = lackP (cms S) U m ∧ (∀ v ∈ R, v ∈ S) ∧ OwnC w' w.heap.size a c R ∧ Below w.heap.size w w'
structure RlE (w wr : World) (S : List Cw) (U : List Dt) (m : Int) (k : Nat) (R : List Cw) (a : Option Addr) (c : Nat) : Prop where
  own : OwnC wr w.heap.size a c R
  val : cms R = lackP ((cms S).take k) U m
  mem : ∀ v ∈ R, v ∈ S
  bel : Below w.heap.size w wr
theorem RlE.below {w wr w' : World} {S : List Cw} {U : List Dt} {m : Int} {k : Nat} {R : List Cw} {a : Option Addr} {c : Nat} (h : RlE w wr S U m k R a c) (hb : Below wr.heap.size wr w') : RlE w w' S U m k R a c :=
  ⟨h.own.below hb, h.val, h.mem, below2 h.bel hb h.bel.size⟩
theorem RlE.len {w wr : World} {S : List Cw} {U : List Dt} {m : Int} {k : Nat} {R : List Cw} {a : Option Addr} {c : Nat} (h : RlE w wr S U m k R a c) : R.length = (lackP ((cms S).take k) U m).length := by rw [← h.val]; unfold cms; rw [List.length_map]
theorem RlE.few {w wr : World} {S : List Cw} {U : List Dt} {m : Int} {k : Nat} {R : List Cw} {a : Option Addr} {c : Nat} (h : RlE w wr S U m k R a c) : R.length ≤ S.length := by
  rw [h.len]
  unfold lackP
  rw [List.length_take]
  have h1 := List.length_filter_le (fun c : Cm => !hasV U c.d) ((cms S).take k)
  rw [List.length_take] at h1
  have h2 : (cms S).length = S.length := by unfold cms; rw [List.length_map]
  omega
theorem RlE.skip {w wr : World} {S : List Cw} {U : List Dt} {m : Int} {k : Nat} {R : List Cw} {a : Option Addr} {c : Nat} {x : Cw} (h : RlE w wr S U m k R a c) (hx : S[k]? = some x) (hn : hasV U x.c.d = true ∨ ¬ R.length < m.toNat) : RlE w wr S U m (k + 1) R a c := by
  refine ⟨h.own, ?_, h.mem, h.bel⟩
  rw [lackP_next (cms_i hx), if_neg, h.val]
  rintro ⟨h1, h2⟩
  rw [← h.len] at h2
  rcases hn with hn | hn
  · rw [h1] at hn; cases hn
  · exact hn h2
theorem RlE.take {w wr w' : World} {S : List Cw} {U : List Dt} {m : Int} {k : Nat} {R v' : List Cw} {a a' : Option Addr} {c c' : Nat} {x : Cw} (h : RlE w wr S U m k R a c) (hx : S[k]? = some x) (hn : hasV U x.c.d = false) (hm : R.length < m.toNat) (hv : v' = R ++ [x]) (ho : OwnC w' w.heap.size a' c' v') (hb : Below w.heap.size w w') : RlE w w' S U m (k + 1) v' a' c' := by
  subst hv
  refine ⟨ho, ?_, fun v hv => ?_, hb⟩
  · rw [lackP_next (cms_i hx), if_pos ⟨hn, by rw [← h.len]; exact hm⟩, ← h.val]
    unfold cms
    rw [List.map_append]; rfl
  · rcases List.mem_append.1 hv with hv | hv
    · exact h.mem v hv
    · rw [List.mem_singleton] at hv; subst hv; exact List.mem_of_getElem? hx
set_option maxRecDepth 100000 in
set_option maxHeartbeats 8000000 in
theorem rlacks_R (pw : Nat) (w0 : World) (m : Nat) (b : Bw) (S : List Cw) (la : Option Addr) (lc : Nat) (ua : Option Addr) (uc : Nat) (U : List Dt) (most : Int) (w : World) (h : RgAt w pw w0 m b S la lc) (hU : Vec w ua uc U) (hn : U.length ≤ 500000) :
    Calls Tryz.prog 51 #[.pointer (some ⟨pw, 0, none⟩), .slice ua U.length uc, .int .i64 most] w (RLkTo w S U most) := by
  have H := Lib.hid h
  have HU := Lib.hid hU
  have hfew := h.few
  clear h hU
  go_enter Tryz.func51, Tryz.ntmps51
  go_wp2_with fail
  go_loopw [7, 8] (fun u j wr => ∃ (k : Nat) (R : List Cw) (a : Option Addr) (c : Nat), k ≤ S.length ∧ u = .slice a R.length c ∧ j = .int .i64 k ∧ Hid (RlE w wr S U most k R a c)) (fun u j _ => S.length - (intOf j).toNat)
  case atStart => exact ⟨0, [], none, 0, Nat.zero_le _, rfl, rfl, Lib.hid ⟨OwnC.nil _ _, (by unfold lackP; simp; rfl), (fun v hv => (by cases hv)), Below.refl _ _⟩⟩
  case round =>
    obtain ⟨k, R, a, c, hk, rfl, rfl, E⟩ := hrel
    have hrf : R.length ≤ 200 := by have := E.out.few; omega
    have RB := Lib.hid (H.out.below E.out.bel)
    have g0 := cells_at RB.out.blk
    simp only [rgcells] at g0
    have gz := heap_lt RB.out.blk
    by_cases hlt : k < S.length
    · obtain ⟨v, hv⟩ : ∃ v, S[k]? = some v := ⟨S[k], by simp [hlt]⟩
      have Hv := Lib.hid hv
      clear hv
      by_cases hm : (R.length : Int) < most
      · have Hm := Lib.hid (show R.length < most.toNat by omega)
        obtain ⟨ad, had, ⟨c0, c1, c2, c3, c4, c5, c6, c7, c8, c9, c10⟩, hlb⟩ := RB.out.rows.at_ Hv.out
        subst had
        obtain ⟨⟨⟨⟨r1, i1⟩, s1⟩, ps1, uu1, t1, ⟨k1, n1, x1, p1, ds1⟩⟩, qa1, qc1, ua1, uc1, pa1, pc1, da1, dc1⟩ := v
        dsimp only at c0 c1 c2 c3 c4 c5 c6 c7 c8 c9 c10
        go_wp2_with fail
        refine (rhas_any ua uc U r1 i1 s1 _ (HU.out.below E.out.bel) (by omega)).mono ?_
        rintro e w2 ⟨rfl, hb⟩
        have E2 := Lib.hid (E.out.below hb)
        have RB2 := Lib.hid (RB.out.below hb)
        clear hb g0 gz c0 c1 c2 c3 c4 c5 c6 c7 c8 c9 c10 RB hlb
        cases hh : hasV U ((r1, i1), s1) with
        | true =>
          have E3 := Lib.hid (E2.out.skip Hv.out (.inl hh))
          clear hh
          go_wp2_with fail
          go_roundw
          case rel => exact ⟨k + 1, R, a, c, by omega, rfl, by go_num, E3⟩
          case measure => simp [intOf]; omega
        | false =>
          have Hh := Lib.hid hh
          clear hh
          go_upto_region 6 with (fail)
          have g0 := cells_at RB2.out.blk
          simp only [rgcells] at g0
          have gz := heap_lt RB2.out.blk
          obtain ⟨ad2, had, ⟨c0, c1, c2, c3, c4, c5, c6, c7, c8, c9, c10⟩, hlb⟩ := RB2.out.rows.at_ Hv.out
          obtain rfl : ad = ad2 := Option.some.inj had
          dsimp only at c0 c1 c2 c3 c4 c5 c6 c7 c8 c9 c10
          clear had
          have E3 := Lib.hid (E2.out.below ((Below.refl w2.heap.size w2).alloc (Nat.le_refl _) (.cells (ccells r1 i1 s1 qa1 ps1.length qc1 ua1 uu1.length uc1 t1 k1 pa1 p1.length pc1 n1 x1 da1 ds1.length dc1) 46)))
          go_wp2_with (at_builtin; go_must (refine wpList_appC rfl _ _ rfl w.heap.size a c R rfl E3.out.own (some ⟨w2.heap.size, 0, none⟩) 1 [⟨⟨((r1, i1), s1), ps1, uu1, t1, ⟨k1, n1, x1, p1, ds1⟩⟩, qa1, qc1, ua1, uc1, pa1, pc1, da1, dc1⟩] rfl (cm_one ⟨⟨((r1, i1), s1), ps1, uu1, t1, ⟨k1, n1, x1, p1, ds1⟩⟩, qa1, qc1, ua1, uc1, pa1, pc1, da1, dc1⟩ (heap_new _ _)) ?n1 ?b1 ?_))
          case n1 => simp; omega
          case b1 => exact E3.out.bel.size
          intro v6 aq cq w6 hv6 ho6 hb6 hc6 hn6
          have E6 := Lib.hid (E2.out.take Hv.out Hh.out Hm.out hv6 ho6 (E3.out.bel.trans hb6))
          clear hv6 ho6 hb6 hc6 hn6 g0 gz c0 c1 c2 c3 c4 c5 c6 c7 c8 c9 c10
          go_wp2_with fail
          go_roundw
          case rel => exact ⟨k + 1, v6, aq, cq, by omega, rfl, by go_num, E6⟩
          case measure => simp [intOf]; omega
      · have E3 := Lib.hid (E.out.skip Hv.out (.inr (by omega)))
        go_wp2_with fail
        go_roundw
        case rel => exact ⟨k + 1, R, a, c, by omega, rfl, by go_num, E3⟩
        case measure => simp [intOf]; omega
    · have hkk : k = S.length := by omega
      have Hl := Lib.hid (show cms R = lackP (cms S) U most by
        have h1 := E.out.val
        rw [hkk, List.take_of_length_le (by unfold cms; simp)] at h1
        exact h1)
      clear hkk
      go_wp2_with fail
      go_ret
      exact ⟨a, c, R, rfl, Hl.out, E.out.mem, E.out.own, E.out.bel⟩
end Go.Proofs.YthdmoplclllhjaaGreat
