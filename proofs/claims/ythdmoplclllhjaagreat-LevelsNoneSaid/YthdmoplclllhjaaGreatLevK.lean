/- varvelaw47.on: a commit of a replica on others. -/
import Derived.Test.YthdmoplclllhjaaGreatLevC
import Derived.Test.YthdmoplclllhjaaGreatGraW
namespace Go.Proofs.YthdmoplclllhjaaGreat
open Go.RowKit
set_option linter.unusedVariables false
set_option linter.unusedSimpArgs false

theorem Sl.chgLo {w w' : World} {F : List Nat} {size : Nat} {a : Option Addr} {n c : Nat} {xs : List Value} (h : Sl w size a n c xs) (hc : Chg F w w') (hF : ∀ k ∈ ob a, k ∉ F) : Sl w' size a n c xs := by
  obtain ⟨h1, h2, h3, h4⟩ := h
  refine ⟨h1, h2, h3, ?_⟩
  rcases h4 with h4 | ⟨b, rfl, hx⟩
  · exact .inl h4
  · refine .inr ⟨b, rfl, fun j u hu => ?_⟩
    have h5 := hx j u hu
    have hlt := World.block_lt_of_cell? w _ h5
    have hne : (b.add j).block ∉ F := hF _ (by have : (b.add j).block = b.block := add_block _ _; rw [this]; simp [ob])
    unfold World.cell? at h5 ⊢
    rw [hc.block _ hlt hne]
    exact h5
/-- all rows of a commit lie there, or above -/
def Lo (base : Nat) (v : Cw) : Prop := ∀ k, k ∈ ob v.qa ∨ k ∈ ob v.va ∨ k ∈ ob v.pa ∨ k ∈ ob v.da → base ≤ k
theorem CwAt.chgLo {w w' : World} {F : List Nat} {base : Nat} {v : Cw} (h : CwAt w v) (hl : Lo base v) (hc : Chg F w w') (hF : ∀ k ∈ F, k < base) : CwAt w' v := by
  have key : ∀ k, k ∈ ob v.qa ∨ k ∈ ob v.va ∨ k ∈ ob v.pa ∨ k ∈ ob v.da → k ∉ F := fun k hk hm => by have := hl k hk; have := hF k hm; omega
  exact ⟨h.ps.chgLo hc (fun k hk => key k (.inl hk)), h.vv.chgLo hc (fun k hk => key k (.inr (.inl hk))), h.pt.chgLo hc (fun k hk => key k (.inr (.inr (.inl hk)))), h.ds.chgLo hc (fun k hk => key k (.inr (.inr (.inr hk)))), h.ok⟩
/-- a commit is told, lying there, or above -/
def OnTo (base : Nat) (w : World) (c : Cm) (e : Ending) (w' : World) : Prop := ∃ v : Cw, e = .returned (.agg (cwcells v)) ∧ v.c = c ∧ CwAt w' v ∧ Lo base v ∧ Below w.heap.size w w'
def oneD (rep : Int) : Dt := ((rep, 1), 1)
/-- the commits of the page's example -/
def OnP (rep t : Int) (ps : List Dt) (c : Cm) : Prop :=
  (rep = 0 ∧ c = ⟨oneD rep, ps, ps ++ [oneD rep], t, lO⟩) ∨ (rep = 1 ∧ c = ⟨oneD rep, ps, [lA, oneD rep], t, lO⟩) ∨ (rep = 2 ∧ c = ⟨oneD rep, ps, [lA, oneD rep], t, lO⟩) ∨ (rep = 3 ∧ ∃ x y, ps = [x, y] ∧ c = ⟨oneD rep, ps, [lA, x, y, oneD rep], t, lO⟩)
/-- the blocks of on -/
structure OnE (w wr : World) (rep : Int) : Prop where
  b0 : wr.heap[w.heap.size]? = some (.cells (cwcells zeroCw) 46 (0, 0))
  b1 : wr.heap[w.heap.size + 1]? = some (.cells #[.int .u8 rep, .int .u32 1, .int .u64 1] 41 (0, 0))
  bel : Below w.heap.size w wr
theorem OnE.step {w wr w' : World} {rep : Int} (h : OnE w wr rep) (hb : Below wr.heap.size wr w') : OnE w w' rep := ⟨(hb.block _ (heap_lt h.b0)).trans h.b0, (hb.block _ (heap_lt h.b1)).trans h.b1, below2 h.bel hb h.bel.size⟩
theorem OnE.step2 {w wr w' : World} {rep : Int} (h : OnE w wr rep) (hb : Below (w.heap.size + 2) wr w') : OnE w w' rep := ⟨(hb.block _ (by omega)).trans h.b0, (hb.block _ (by omega)).trans h.b1, h.bel.trans (hb.mono (by omega))⟩
theorem CwAt.on {w' : World} {rep t : Int} {qa a8 : Option Addr} {qc c8 g : Nat} {ps v8 : List Dt} (hq : Vec w' qa qc ps) (hv : Vec w' a8 c8 v8) (hg : w'.heap[g]? = some (.cells #[.string ⟨#[97]⟩] 9 (0, 0))) (h0 : okD (oneD rep)) (h1 : okV ps) (h2 : okV v8) (ht : 0 ≤ t ∧ t ≤ 100) :
    CwAt w' ⟨⟨oneD rep, ps, v8, t, lO⟩, qa, qc, a8, c8, some ⟨g, 0, none⟩, 1, none, 0⟩ :=
  ⟨hq, hv, Sl.blk (n := 1) (size := 1) hg rfl (by decide), Sl.nil _ _, h0, h1, h2, ⟨ht.1, by have := ht.2; show t ≤ 18446744073709551615; omega⟩, fun d hd => by cases hd⟩
theorem on_fin {base g : Nat} {w W0 w' : World} {rep t : Int} {qa a8 : Option Addr} {qc c8 : Nat} {ps v8 : List Dt} (E : OnE w W0 rep) (hC : Chg [w.heap.size] W0 w')
    (hq : Vec w qa qc ps) (hqb : ∀ k ∈ ob qa, base ≤ k) (hv : Vec W0 a8 c8 v8) (hva : ∀ k ∈ ob a8, w.heap.size + 1 ≤ k) (hg : W0.heap[g]? = some (.cells #[.string ⟨#[97]⟩] 9 (0, 0))) (hgb : w.heap.size + 1 ≤ g) (hb : base ≤ w.heap.size) (h0 : okD (oneD rep)) (h1 : okV ps) (h2 : okV v8) (ht : 0 ≤ t ∧ t ≤ 100) :
    OnTo base w ⟨oneD rep, ps, v8, t, lO⟩ (.returned (.agg (cwcells ⟨⟨oneD rep, ps, v8, t, lO⟩, qa, qc, a8, c8, some ⟨g, 0, none⟩, 1, none, 0⟩))) w' := by
  have hBw : Below w.heap.size w w' := E.bel.trans (hC.below E.bel.size (by simp))
  refine ⟨_, rfl, rfl, CwAt.on (hq.below hBw) (hv.chgLo hC (fun k hk hm => by have := hva k hk; simp at hm; omega)) (heap_chg hg hC (by simp; omega)) h0 h1 h2 ht, fun k hk => ?_, hBw⟩
  rcases hk with hk | hk | hk | hk
  · exact hqb k hk
  · have := hva k hk; omega
  · simp [ob] at hk; subst hk; omega
  · simp [ob] at hk
theorem OnE.str {w w9 : World} {rep : Int} (h : OnE w w9 rep) : OnE w (w9.alloc (.cells #[.string ⟨#[97]⟩] 9)) rep := h.step ((Below.refl _ _).alloc (Nat.le_refl _) _)
theorem OnE.lit {w w9 : World} {rep : Int} (h : OnE w w9 rep) (C : Array Value) : OnE w (w9.alloc (.cells C 41)) rep := h.step ((Below.refl _ _).alloc (Nat.le_refl _) _)
set_option maxRecDepth 100000 in
set_option maxHeartbeats 8000000 in
theorem on_any (base : Nat) (rep t : Int) (qa : Option Addr) (qc : Nat) (ps : List Dt) (c : Cm) (w : World) (hq : Vec w qa qc ps) (hp : OnP rep t ps c) (hok : okV ps) (hl : ps.length ≤ 2) (h0 : 0 ≤ rep ∧ rep ≤ 3) (ht : 0 ≤ t ∧ t ≤ 100) (hqb : ∀ k ∈ ob qa, base ≤ k) (hbw : base ≤ w.heap.size) :
    Calls Tryz.prog 120 #[.int .u8 rep, .int .u64 t, .slice qa ps.length qc] w (OnTo base w c) := by
  have HQ := Lib.hid hq
  have HP := Lib.hid hp
  have E0 : Hid (OnE w ((w.alloc (.cells (ccells 0 0 0 none 0 0 none 0 0 0 0 none 0 0 0 ⟨#[]⟩ none 0 0) 46)).alloc (.cells #[.int .u8 rep, .int .u32 1, .int .u64 1] 41)) rep) := Lib.hid ⟨(heap_old _ _ (by simp)).trans (heap_new _ _), heap_new2 _ _ _, ((Below.refl _ _).alloc (Nat.le_refl _) _).alloc (by simp) _⟩
  have hokd : okD (oneD rep) := ⟨⟨⟨by show 0 ≤ rep; omega, by show rep ≤ 255; omega⟩, by show (0 : Int) ≤ 1; decide, by show (1 : Int) ≤ 4294967295; decide⟩, by show (0 : Int) ≤ 1; decide, by show (1 : Int) ≤ 18446744073709551615; decide⟩
  have Hokd := Lib.hid hokd
  clear hq hp hokd
  go_enter Tryz.func120, Tryz.ntmps120
  go_wp2_with fail
  go_cut [8] (fun v wx => ∃ (a8 : Option Addr) (c8 : Nat) (v8 : List Dt), v = .slice a8 (List.length v8) c8 ∧ Hid (v8 = ps ++ [oneD rep]) ∧ Hid (OwnD wx (w.heap.size + 2) a8 c8 v8) ∧ Hid (OnE w wx rep))
  case first =>
    refine region_tree_at (fun k => k = w.heap.size + 1) (.seg [1, 3] false (.fork (.seg [0] false (.fork (.seg [2] true (.seg [4, 5, 6] false .done)) (.seg [4] false (.seg [2] true (.seg [5, 6] false .done))))) (.seg [4, 0] false (.seg [2] true (.seg [5, 6] false .done))))) mixed (by kernel_rfl) ?_
    simp only [wpSgB, List.map_cons, List.map_nil, List.getD_cons_succ, List.getD_cons_zero]
    go_wp2_with fail
    refine And.intro ?ordX ?ordC
    case' ordX =>
      go_wp2_with fail
      refine And.intro ?ordA ?ordB
    case ordA =>
      have hE1 := E0.out.step (((Below.refl _ _).alloc (Nat.le_refl _) (.cells #[] 41)).drew)
      have E1 := Lib.hid hE1
      clear hE1
      go_wp2_with (at_builtin; go_must (refine wpList_appVD rfl _ _ rfl (w.heap.size + 2) (some ⟨w.heap.size + 1 + 1, 0, none⟩) 0 [] rfl ?o1 qa qc ps rfl ?s1 ?n1 ?b1 ?_))
      case o1 =>
        have h := OwnD.below (OwnD.made ((w.alloc (.cells (ccells 0 0 0 none 0 0 none 0 0 0 0 none 0 0 0 ⟨#[]⟩ none 0 0) 46)).alloc (.cells #[.int .u8 rep, .int .u32 1, .int .u64 1] 41)) (base := w.heap.size + 2) (by simp)) ((Below.refl _ _).drew)
        simpa using h
      case s1 => exact HQ.out.below E1.out.bel
      case n1 => simp; omega
      case b1 => first | omega | (simp; done) | (simp; omega)
      intro v' a' c' w2 hv' ho2 hb2 hch2
      replace hv' : v' = ps := hv'
      have e' := hv'.symm
      clear hv'
      subst e'
      have E2 := Lib.hid (E1.out.step2 hb2)
      have Ho2 := Lib.hid ho2
      have HD2 := Lib.hid (held_new E1.out.b1 E2.out.b1)
      have hz2 := heap_lt E2.out.b1
      have d2 := cells_at E2.out.b1
      clear ho2 hb2 hch2
      go_wp2_with fail
      refine And.intro HD2.out ?_
      go_wp2_with (at_builtin; go_must (refine wpList_appV rfl _ _ rfl (w.heap.size + 2) a' c' ps rfl ?o3 (some ⟨w2.heap.size, 0, none⟩) 1 [((rep, 1), 1)] rfl ?s3 ?n3 ?b3 ?_))
      case o3 => exact Ho2.out.below ((Below.refl _ _).alloc (Nat.le_refl _) _)
      case s3 => exact Sl.blk (n := 1) (size := 3) (heap_new _ _) rfl (by decide)
      case n3 => simp; omega
      case b3 => simp; omega
      intro v8 a8 c8 w9 hv8 ho8 hb8 hch8
      have E9 := Lib.hid (OnE.step2 (E2.out.step ((Below.refl _ _).alloc (Nat.le_refl _) (.cells #[.int .u8 rep, .int .u32 1, .int .u64 1] 41))) hb8)
      have O8 := Lib.hid ho8
      have Hv8 := Lib.hid hv8
      clear hv8 ho8 hb8 hch8 E1 E2 Ho2 HD2 hz2 d2
      go_wp2_with fail
      refine And.intro (And.intro (by kernel_rfl) (reads_of ?rds)) ?_
      case rds => exact ⟨trivial, trivial, trivial, rfl, trivial, trivial, trivial, trivial⟩
      go_wp2_with fail
      go_meet
      exact ⟨a8, c8, v8, rfl, Hv8, O8, E9⟩
    case ordB =>
      have hE1 := E0.out.step (((Below.refl _ _).alloc (Nat.le_refl _) (.cells #[] 41)).alloc (by simp) (.cells #[.int .u8 rep, .int .u32 1, .int .u64 1] 41)).drew
      have E1 := Lib.hid hE1
      have hD1 : (((((w.alloc (.cells (ccells 0 0 0 none 0 0 none 0 0 0 0 none 0 0 0 ⟨#[]⟩ none 0 0) 46)).alloc (.cells #[.int .u8 rep, .int .u32 1, .int .u64 1] 41)).alloc (.cells #[] 41)).alloc (.cells #[.int .u8 rep, .int .u32 1, .int .u64 1] 41)).drew).heap[w.heap.size + 1 + 1 + 1]? = some (.cells #[.int .u8 rep, .int .u32 1, .int .u64 1] 41 (0, 0)) := heap_at _ _ (by simp)
      have HD1 := Lib.hid hD1
      clear hE1 hD1
      go_wp2_with (at_builtin; go_must (refine wpList_appVD rfl _ _ rfl (w.heap.size + 2) (some ⟨w.heap.size + 1 + 1, 0, none⟩) 0 [] rfl ?o1 qa qc ps rfl ?s1 ?n1 ?b1 ?_))
      case o1 =>
        have h := OwnD.below (OwnD.below (OwnD.made ((w.alloc (.cells (ccells 0 0 0 none 0 0 none 0 0 0 0 none 0 0 0 ⟨#[]⟩ none 0 0) 46)).alloc (.cells #[.int .u8 rep, .int .u32 1, .int .u64 1] 41)) (base := w.heap.size + 2) (by simp)) ((Below.refl _ _).alloc (Nat.le_refl _) (.cells #[.int .u8 rep, .int .u32 1, .int .u64 1] 41))) ((Below.refl _ _).drew)
        simpa using h
      case s1 => exact HQ.out.below E1.out.bel
      case n1 => simp; omega
      case b1 => first | omega | (simp; done) | (simp; omega)
      intro v' a' c' w2 hv' ho2 hb2 hch2
      replace hv' : v' = ps := hv'
      have e' := hv'.symm
      clear hv'
      subst e'
      have E2 := Lib.hid (E1.out.step2 hb2)
      have Ho2 := Lib.hid ho2
      have HD2 := Lib.hid (held_new E1.out.b1 E2.out.b1)
      have Hx2 := Lib.hid (heap_chg HD1.out hch2 (by simp [ob]))
      have hz2 := heap_lt E2.out.b1
      have d2 := cells_at E2.out.b1
      clear ho2 hb2 hch2
      go_wp2_with fail
      refine And.intro HD2.out ?_
      go_wp2_with (at_builtin; go_must (refine wpList_appV rfl _ _ rfl (w.heap.size + 2) a' c' ps rfl Ho2.out (some ⟨w.heap.size + 1 + 1 + 1, 0, none⟩) 1 [((rep, 1), 1)] rfl ?s3 ?n3 ?b3 ?_))
      case s3 => exact Sl.blk (n := 1) (size := 3) Hx2.out rfl (by decide)
      case n3 => simp; omega
      case b3 => omega
      intro v8 a8 c8 w9 hv8 ho8 hb8 hch8
      have E9 := Lib.hid (E2.out.step2 hb8)
      have O8 := Lib.hid ho8
      have Hv8 := Lib.hid hv8
      clear hv8 ho8 hb8 hch8 E1 E2 Ho2 HD2 hz2 d2 HD1 Hx2
      go_wp2_with fail
      refine And.intro (And.intro (by kernel_rfl) (reads_of ?rds)) ?_
      case rds => exact ⟨trivial, trivial, trivial, rfl, trivial, trivial, trivial, trivial⟩
      go_wp2_with fail
      go_meet
      exact ⟨a8, c8, v8, rfl, Hv8, O8, E9⟩
    case ordC =>
      have hE1 := E0.out.step (((Below.refl _ _).alloc (Nat.le_refl _) (.cells #[.int .u8 rep, .int .u32 1, .int .u64 1] 41)).alloc (by simp) (.cells #[] 41)).drew
      have E1 := Lib.hid hE1
      have hD1 : (((((w.alloc (.cells (ccells 0 0 0 none 0 0 none 0 0 0 0 none 0 0 0 ⟨#[]⟩ none 0 0) 46)).alloc (.cells #[.int .u8 rep, .int .u32 1, .int .u64 1] 41)).alloc (.cells #[.int .u8 rep, .int .u32 1, .int .u64 1] 41)).alloc (.cells #[] 41)).drew).heap[w.heap.size + 1 + 1]? = some (.cells #[.int .u8 rep, .int .u32 1, .int .u64 1] 41 (0, 0)) := (heap_old _ _ (by simp)).trans (heap_at _ _ (by simp))
      have HD1 := Lib.hid hD1
      clear hE1 hD1
      go_wp2_with (at_builtin; go_must (refine wpList_appVD rfl _ _ rfl (w.heap.size + 2) (some ⟨w.heap.size + 1 + 1 + 1, 0, none⟩) 0 [] rfl ?o1 qa qc ps rfl ?s1 ?n1 ?b1 ?_))
      case o1 =>
        have h := OwnD.below (OwnD.made (((w.alloc (.cells (ccells 0 0 0 none 0 0 none 0 0 0 0 none 0 0 0 ⟨#[]⟩ none 0 0) 46)).alloc (.cells #[.int .u8 rep, .int .u32 1, .int .u64 1] 41)).alloc (.cells #[.int .u8 rep, .int .u32 1, .int .u64 1] 41)) (base := w.heap.size + 2) (by simp <;> omega)) ((Below.refl _ _).drew)
        simpa using h
      case s1 => exact HQ.out.below E1.out.bel
      case n1 => simp; omega
      case b1 => first | omega | (simp; done) | (simp; omega)
      intro v' a' c' w2 hv' ho2 hb2 hch2
      replace hv' : v' = ps := hv'
      have e' := hv'.symm
      clear hv'
      subst e'
      have E2 := Lib.hid (E1.out.step2 hb2)
      have Ho2 := Lib.hid ho2
      have HD2 := Lib.hid (held_new E1.out.b1 E2.out.b1)
      have Hx2 := Lib.hid (heap_chg HD1.out hch2 (by simp [ob]))
      have hz2 := heap_lt E2.out.b1
      have d2 := cells_at E2.out.b1
      clear ho2 hb2 hch2
      go_wp2_with fail
      refine And.intro HD2.out ?_
      go_wp2_with (at_builtin; go_must (refine wpList_appV rfl _ _ rfl (w.heap.size + 2) a' c' ps rfl Ho2.out (some ⟨w.heap.size + 1 + 1, 0, none⟩) 1 [((rep, 1), 1)] rfl ?s3 ?n3 ?b3 ?_))
      case s3 => exact Sl.blk (n := 1) (size := 3) Hx2.out rfl (by decide)
      case n3 => simp; omega
      case b3 => omega
      intro v8 a8 c8 w9 hv8 ho8 hb8 hch8
      have E9 := Lib.hid (E2.out.step2 hb8)
      have O8 := Lib.hid ho8
      have Hv8 := Lib.hid hv8
      clear hv8 ho8 hb8 hch8 E1 E2 Ho2 HD2 hz2 d2 HD1 Hx2
      go_wp2_with fail
      refine And.intro (And.intro (by kernel_rfl) (reads_of ?rds)) ?_
      case rds => exact ⟨trivial, trivial, trivial, rfl, trivial, trivial, trivial, trivial⟩
      go_wp2_with fail
      go_meet
      exact ⟨a8, c8, v8, rfl, Hv8, O8, E9⟩
  case rest =>
    obtain ⟨a8, c8, v8, rfl, Hv8, O8, E9⟩ := hcut
    have hok8 : okV v8 := by
      rw [Hv8.out]
      intro d hd
      rcases List.mem_append.1 hd with hd | hd
      · exact hok d hd
      · rw [List.mem_singleton] at hd; subst hd; exact Hokd.out
    have hokA : okD lA := ⟨⟨⟨by decide, by decide⟩, by decide, by decide⟩, by decide, by decide⟩
    have d1 := cells_at E9.out.b1
    have z0 := heap_lt E9.out.b0
    have z1 := heap_lt E9.out.b1
    have hbz := E9.out.bel.size
    rcases HP.out with ⟨rfl, rfl⟩ | ⟨rfl, rfl⟩ | ⟨rfl, rfl⟩ | ⟨rfl, x, y, rfl, rfl⟩
    · have hE := E9.out.str
      have HT := Lib.hid (there1 hE.b0)
      have HE := Lib.hid hE
      clear hE
      go_wp2_with (refine wpList_store_cw rfl _ _ rfl w.heap.size 0 ⟨⟨oneD 0, ps, v8, t, lO⟩, qa, qc, a8, c8, some ⟨wc.heap.size, 0, none⟩, 1, none, 0⟩ rfl rfl HT.out ?_)
      rw [show ps ++ [oneD 0] = v8 from Hv8.out.symm]
      obtain ⟨hp, hcg⟩ := put1 ⟨⟨oneD 0, ps, v8, t, lO⟩, qa, qc, a8, c8, some ⟨wc.heap.size, 0, none⟩, 1, none, 0⟩ HE.out.b0
      generalize (wc.alloc (.cells #[.string ⟨#[97]⟩] 9)).setCells w.heap.size 0 (ccel ⟨⟨oneD 0, ps, v8, t, lO⟩, qa, qc, a8, c8, some ⟨wc.heap.size, 0, none⟩, 1, none, 0⟩) = w5 at *
      have d0 := cells_at hp
      simp only [cwcells, oneD, lO, List.length_cons, List.length_nil, Nat.zero_add] at d0
      exact bodyPost_ret (v := .agg (ccells 0 1 1 qa ps.length qc a8 v8.length c8 t 1 (some ⟨wc.heap.size, 0, none⟩) 1 1 0 ⟨#[]⟩ none 0 0)) (by simp [results, Tryz.results120, go_sem, d0]; try rfl) rfl (on_fin HE.out hcg HQ.out hqb (O8.out.vec.below ((Below.refl _ _).alloc (Nat.le_refl _) _)) (fun k hk => by have := (owns_lt O8.out k hk).1; omega) (heap_new _ _) (by omega) hbw Hokd.out hok hok8 ht)
    · have hE := (E9.out.lit #[.int .u8 0, .int .u32 1, .int .u64 1, .int .u8 1, .int .u32 1, .int .u64 1]).str
      have HT := Lib.hid (there1 hE.b0)
      have HE := Lib.hid hE
      clear hE
      go_wp2_with (refine wpList_store_cw rfl _ _ rfl w.heap.size 0 ⟨⟨oneD 1, ps, [lA, oneD 1], t, lO⟩, qa, qc, (some ⟨wc.heap.size, 0, none⟩), 2, some ⟨wc.heap.size + 1, 0, none⟩, 1, none, 0⟩ rfl rfl HT.out ?_)
      obtain ⟨hp, hcg⟩ := put1 ⟨⟨oneD 1, ps, [lA, oneD 1], t, lO⟩, qa, qc, (some ⟨wc.heap.size, 0, none⟩), 2, some ⟨wc.heap.size + 1, 0, none⟩, 1, none, 0⟩ HE.out.b0
      generalize ((wc.alloc (.cells #[.int .u8 0, .int .u32 1, .int .u64 1, .int .u8 1, .int .u32 1, .int .u64 1] 41)).alloc (.cells #[.string ⟨#[97]⟩] 9)).setCells w.heap.size 0 (ccel ⟨⟨oneD 1, ps, [lA, oneD 1], t, lO⟩, qa, qc, (some ⟨wc.heap.size, 0, none⟩), 2, some ⟨wc.heap.size + 1, 0, none⟩, 1, none, 0⟩) = w5 at *
      have d0 := cells_at hp
      simp only [cwcells, oneD, lO, List.length_cons, List.length_nil, Nat.zero_add] at d0
      exact bodyPost_ret (v := .agg (ccells 1 1 1 qa ps.length qc (some ⟨wc.heap.size, 0, none⟩) 2 2 t 1 (some ⟨wc.heap.size + 1, 0, none⟩) 1 1 0 ⟨#[]⟩ none 0 0)) (by simp [results, Tryz.results120, go_sem, d0]; try rfl) rfl (on_fin HE.out hcg HQ.out hqb (Sl.blk (n := 2) (size := 3) (C := #[.int .u8 0, .int .u32 1, .int .u64 1, .int .u8 1, .int .u32 1, .int .u64 1]) ((heap_old _ _ (by simp)).trans (heap_new _ _)) rfl (by decide)) (fun k hk => by simp [ob] at hk; omega) (heap_at _ _ (by simp)) (by omega) hbw Hokd.out hok (fun d hd => by simp at hd; rcases hd with rfl | rfl; exact hokA; exact Hokd.out) ht)
    · have hE := (E9.out.lit #[.int .u8 0, .int .u32 1, .int .u64 1, .int .u8 2, .int .u32 1, .int .u64 1]).str
      have HT := Lib.hid (there1 hE.b0)
      have HE := Lib.hid hE
      clear hE
      go_wp2_with (refine wpList_store_cw rfl _ _ rfl w.heap.size 0 ⟨⟨oneD 2, ps, [lA, oneD 2], t, lO⟩, qa, qc, (some ⟨wc.heap.size, 0, none⟩), 2, some ⟨wc.heap.size + 1, 0, none⟩, 1, none, 0⟩ rfl rfl HT.out ?_)
      obtain ⟨hp, hcg⟩ := put1 ⟨⟨oneD 2, ps, [lA, oneD 2], t, lO⟩, qa, qc, (some ⟨wc.heap.size, 0, none⟩), 2, some ⟨wc.heap.size + 1, 0, none⟩, 1, none, 0⟩ HE.out.b0
      generalize ((wc.alloc (.cells #[.int .u8 0, .int .u32 1, .int .u64 1, .int .u8 2, .int .u32 1, .int .u64 1] 41)).alloc (.cells #[.string ⟨#[97]⟩] 9)).setCells w.heap.size 0 (ccel ⟨⟨oneD 2, ps, [lA, oneD 2], t, lO⟩, qa, qc, (some ⟨wc.heap.size, 0, none⟩), 2, some ⟨wc.heap.size + 1, 0, none⟩, 1, none, 0⟩) = w5 at *
      have d0 := cells_at hp
      simp only [cwcells, oneD, lO, List.length_cons, List.length_nil, Nat.zero_add] at d0
      exact bodyPost_ret (v := .agg (ccells 2 1 1 qa ps.length qc (some ⟨wc.heap.size, 0, none⟩) 2 2 t 1 (some ⟨wc.heap.size + 1, 0, none⟩) 1 1 0 ⟨#[]⟩ none 0 0)) (by simp [results, Tryz.results120, go_sem, d0]; try rfl) rfl (on_fin HE.out hcg HQ.out hqb (Sl.blk (n := 2) (size := 3) (C := #[.int .u8 0, .int .u32 1, .int .u64 1, .int .u8 2, .int .u32 1, .int .u64 1]) ((heap_old _ _ (by simp)).trans (heap_new _ _)) rfl (by decide)) (fun k hk => by simp [ob] at hk; omega) (heap_at _ _ (by simp)) (by omega) hbw Hokd.out hok (fun d hd => by simp at hd; rcases hd with rfl | rfl; exact hokA; exact Hokd.out) ht)
    · obtain ⟨⟨rx, ix⟩, sx⟩ := x
      obtain ⟨⟨ry, iy⟩, sy⟩ := y
      obtain ⟨ad, had, a0, a1, a2, hl0⟩ := (HQ.out.below E9.out.bel).at (k := 0) (d := ((rx, ix), sx)) rfl
      obtain ⟨ad2, had2, b0, b1, b2, hl1⟩ := (HQ.out.below E9.out.bel).at (k := 1) (d := ((ry, iy), sy)) rfl
      obtain rfl : ad2 = ad := Option.some.inj (had2.symm.trans had)
      have ez : ad2.add (0 * 3) = ad2 := by simp [Addr.add]
      rw [ez] at a0 a1 a2
      have e3 : ad2.add (1 * 3) = ⟨ad2.block, ad2.off + 3, none⟩ := by simp [Addr.add]
      rw [e3] at b0 b1 b2
      subst had
      dsimp only at a0 a1 a2 b0 b1 b2
      clear ez had2 e3
      go_wp2_with fail
      refine region_text [([0, 1, 2, 3, 4, 5, 6, 7, 8, 9, 10], false)] mixed (by kernel_rfl) ?_
      simp only [wpSegs, List.map_cons, List.map_nil, List.getD_cons_succ, List.getD_cons_zero]
      go_wp2_with fail
      refine And.intro (by kernel_rfl) ?_
      have hE := ((E9.out.lit #[.int .u8 0, .int .u32 1, .int .u64 1, .int .u8 rx, .int .u32 ix, .int .u64 sx, .int .u8 ry, .int .u32 iy, .int .u64 sy, .int .u8 3, .int .u32 1, .int .u64 1]).str).step ((Below.refl _ _).drew)
      have HT := Lib.hid (there1 hE.b0)
      have HE := Lib.hid hE
      clear hE a0 a1 a2 b0 b1 b2
      go_wp2_with (refine wpList_store_cw rfl _ _ rfl w.heap.size 0 ⟨⟨oneD 3, [((rx, ix), sx), ((ry, iy), sy)], [lA, ((rx, ix), sx), ((ry, iy), sy), oneD 3], t, lO⟩, some ad2, qc, (some ⟨wc.heap.size, 0, none⟩), 4, some ⟨wc.heap.size + 1, 0, none⟩, 1, none, 0⟩ rfl rfl HT.out ?_)
      obtain ⟨hp, hcg⟩ := put1 ⟨⟨oneD 3, [((rx, ix), sx), ((ry, iy), sy)], [lA, ((rx, ix), sx), ((ry, iy), sy), oneD 3], t, lO⟩, some ad2, qc, (some ⟨wc.heap.size, 0, none⟩), 4, some ⟨wc.heap.size + 1, 0, none⟩, 1, none, 0⟩ HE.out.b0
      generalize (((wc.alloc (.cells #[.int .u8 0, .int .u32 1, .int .u64 1, .int .u8 rx, .int .u32 ix, .int .u64 sx, .int .u8 ry, .int .u32 iy, .int .u64 sy, .int .u8 3, .int .u32 1, .int .u64 1] 41)).alloc (.cells #[.string ⟨#[97]⟩] 9)).drew).setCells w.heap.size 0 (ccel ⟨⟨oneD 3, [((rx, ix), sx), ((ry, iy), sy)], [lA, ((rx, ix), sx), ((ry, iy), sy), oneD 3], t, lO⟩, some ad2, qc, (some ⟨wc.heap.size, 0, none⟩), 4, some ⟨wc.heap.size + 1, 0, none⟩, 1, none, 0⟩) = w5 at *
      have d0 := cells_at hp
      simp only [cwcells, oneD, lO, List.length_cons, List.length_nil, Nat.zero_add] at d0
      exact bodyPost_ret (v := .agg (ccells 3 1 1 (some ad2) 2 qc (some ⟨wc.heap.size, 0, none⟩) 4 4 t 1 (some ⟨wc.heap.size + 1, 0, none⟩) 1 1 0 ⟨#[]⟩ none 0 0)) (by simp [results, Tryz.results120, go_sem, d0]; try rfl) rfl (on_fin HE.out hcg HQ.out hqb (Sl.blk (n := 4) (size := 3) (C := #[.int .u8 0, .int .u32 1, .int .u64 1, .int .u8 rx, .int .u32 ix, .int .u64 sx, .int .u8 ry, .int .u32 iy, .int .u64 sy, .int .u8 3, .int .u32 1, .int .u64 1]) ((heap_old _ _ (by simp)).trans (heap_new _ _)) rfl (by decide)) (fun k hk => by simp [ob] at hk; omega) (heap_at _ _ (by simp)) (by omega) hbw Hokd.out hok (fun d hd => by simp at hd; rcases hd with rfl | rfl | rfl | rfl; exact hokA; exact hok _ (by simp); exact hok _ (by simp); exact Hokd.out) ht)
end Go.Proofs.YthdmoplclllhjaaGreat
