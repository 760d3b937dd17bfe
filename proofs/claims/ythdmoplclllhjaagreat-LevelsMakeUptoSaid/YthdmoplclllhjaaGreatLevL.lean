/- varvelaw47.on: a commit of a replica on others. | varvelaw47.known: the page's example holds. -/
import Derived.Test.YthdmoplclllhjaaGreatLevC
import Derived.Test.YthdmoplclllhjaaGreatGraV
/- LevK -/
namespace Go.Proofs.YthdmoplclllhjaaGreat
open Go.RowKit
set_option linter.unusedVariables false
set_option linter.unusedSimpArgs false

theorem Sl.chgLo {w w' : World} {F : List Nat} {size : Nat} {a : Option Addr} {n c : Nat} {xs : List Value} (h : Sl w size a n c xs) (hc : Chg F w w') (hF : ∀ k ∈ ob a, k ∉ F) : Sl w' size a n c xs := by
  obtain ⟨h1, h2, h3, h4⟩ := h
  refine ⟨h1, h2, h3, ?_⟩
  rcases h4 with h4 | ⟨b, rfl, hx⟩
  · exact .inl h4
  · refine .inr ⟨b, rfl, fun j u hu => ?_⟩
    have h5 := hx j u hu
    have hlt := World.block_lt_of_cell? w _ h5
    have hne : (b.add j).block ∉ F := hF _ (by have : (b.add j).block = b.block := add_block _ _; rw [this]; simp [ob])
    unfold World.cell? at h5 ⊢
    rw [hc.block _ hlt hne]
    exact h5
/-- all rows of a commit lie there, or above -/
def Lo (base : Nat) (v : Cw) : Prop := ∀ k, k ∈ ob v.qa ∨ k ∈ ob v.va ∨ k ∈ ob v.pa ∨ k ∈ ob v.da → base ≤ k
theorem CwAt.chgLo {w w' : World} {F : List Nat} {base : Nat} {v : Cw} (h : CwAt w v) (hl : Lo base v) (hc : Chg F w w') (hF : ∀ k ∈ F, k < base) : CwAt w' v := by
  have key : ∀ k, k ∈ ob v.qa ∨ k ∈ ob v.va ∨ k ∈ ob v.pa ∨ k ∈ ob v.da → k ∉ F := fun k hk hm => by have := hl k hk; have := hF k hm; omega
  exact ⟨h.ps.chgLo hc (fun k hk => key k (.inl hk)), h.vv.chgLo hc (fun k hk => key k (.inr (.inl hk))), h.pt.chgLo hc (fun k hk => key k (.inr (.inr (.inl hk)))), h.ds.chgLo hc (fun k hk => key k (.inr (.inr (.inr hk)))), h.ok⟩
/-- a commit is told, lying there, or above -/
def OnTo (base : Nat) (w : World) (c : Cm) (e : Ending) (w' : World) : Prop := ∃ v : Cw, e = .returned (.agg (cwcells v)) ∧ v.c = c ∧ CwAt w' v ∧ Lo base v ∧ Below w.heap.size w w'
def oneD (rep : Int) : Dt := ((rep, 1), 1)
/-- the commits of the page's example -/
def OnP (rep t : Int) (ps : List Dt) (c : Cm) : Prop :=
  (rep = 0 ∧ c = ⟨oneD rep, ps, ps ++ [oneD rep], t, lO⟩) ∨ (rep = 1 ∧ c = ⟨oneD rep, ps, [lA, oneD rep], t, lO⟩) ∨ (rep = 2 ∧ c = ⟨oneD rep, ps, [lA, oneD rep], t, lO⟩) ∨ (rep = 3 ∧ ∃ x y, ps = [x, y] ∧ c = ⟨oneD rep, ps, [lA, x, y, oneD rep], t, lO⟩)
/-- the blocks of on -/
structure OnE (w wr : World) (rep : Int) : Prop where
  b0 : wr.heap[w.heap.size]? = some (.cells (cwcells zeroCw) 46 (0, 0))
  b1 : wr.heap[w.heap.size + 1]? = some (.cells #[.int .u8 rep, .int .u32 1, .int .u64 1] 41 (0, 0))
  bel : Below w.heap.size w wr
theorem OnE.step {w wr w' : World} {rep : Int} (h : OnE w wr rep) (hb : Below wr.heap.size wr w') : OnE w w' rep := ⟨(hb.block _ (heap_lt h.b0)).trans h.b0, (hb.block _ (heap_lt h.b1)).trans h.b1, below2 h.bel hb h.bel.size⟩
theorem OnE.step2 {w wr w' : World} {rep : Int} (h : OnE w wr rep) (hb : Below (w.heap.size + 2) wr w') : OnE w w' rep := ⟨(hb.block _ (by omega)).trans h.b0, (hb.block _ (by omega)).trans h.b1, h.bel.trans (hb.mono (by omega))⟩
theorem CwAt.on {w' : World} {rep t : Int} {qa a8 : Option Addr} {qc c8 g : Nat} {ps v8 : List Dt} (hq : Vec w' qa qc ps) (hv : Vec w' a8 c8 v8) (hg : w'.heap[g]? = some (.cells #[.string ⟨#[97]⟩] 9 (0, 0))) (h0 : okD (oneD rep)) (h1 : okV ps) (h2 : okV v8) (ht : 0 ≤ t ∧ t ≤ 100) :
    CwAt w' ⟨⟨oneD rep, ps, v8, t, lO⟩, qa, qc, a8, c8, some ⟨g, 0, none⟩, 1, none, 0⟩ :=
  ⟨hq, hv, Sl.blk (n := 1) (size := 1) hg rfl (by decide), Sl.nil _ _, h0, h1, h2, ⟨ht.1, by have := ht.2; show t ≤ 18446744073709551615; omega⟩, fun d hd => by cases hd⟩
theorem on_fin {base g : Nat} {w W0 w' : World} {rep t : Int} {qa a8 : Option Addr} {qc c8 : Nat} {ps v8 : List Dt} (E : OnE w W0 rep) (hC : Chg [w.heap.size] W0 w')
    (hq : Vec w qa qc ps) (hqb : ∀ k ∈ ob qa, base ≤ k) (hv : Vec W0 a8 c8 v8) (hva : ∀ k ∈ ob a8, w.heap.size + 1 ≤ k) (hg : W0.heap[g]? = some (.cells #[.string ⟨#[97]⟩] 9 (0, 0))) (hgb : w.heap.size + 1 ≤ g) (hb : base ≤ w.heap.size) (h0 : okD (oneD rep)) (h1 : okV ps) (h2 : okV v8) (ht : 0 ≤ t ∧ t ≤ 100) :
    OnTo base w ⟨oneD rep, ps, v8, t, lO⟩ (.returned (.agg (cwcells ⟨⟨oneD rep, ps, v8, t, lO⟩, qa, qc, a8, c8, some ⟨g, 0, none⟩, 1, none, 0⟩))) w' := by
  have hBw : Below w.heap.size w w' := E.bel.trans (hC.below E.bel.size (by simp))
  refine ⟨_, rfl, rfl, CwAt.on (hq.below hBw) (hv.chgLo hC (fun k hk hm => by have := hva k hk; simp at hm; omega)) (heap_chg hg hC (by simp; omega)) h0 h1 h2 ht, fun k hk => ?_, hBw⟩
  rcases hk with hk | hk | hk | hk
  · exact hqb k hk
  · have := hva k hk; omega
  · simp [ob] at hk; subst hk; omega
  · simp [ob] at hk
theorem OnE.str {w w9 : World} {rep : Int} (h : OnE w w9 rep) : OnE w (w9.alloc (.cells #[.string ⟨#[97]⟩] 9)) rep := h.step ((Below.refl _ _).alloc (Nat.le_refl _) _)
theorem OnE.lit {w w9 : World} {rep : Int} (h : OnE w w9 rep) (C : Array Value) : OnE w (w9.alloc (.cells C 41)) rep := h.step ((Below.refl _ _).alloc (Nat.le_refl _) _)
set_option maxRecDepth 100000 in
set_option maxHeartbeats 8000000 in
theorem on_any (base : Nat) (rep t : Int) (qa : Option Addr) (qc : Nat) (ps : List Dt) (c : Cm) (w : World) (hq : Vec w qa qc ps) (hp : OnP rep t ps c) (hok : okV ps) (hl : ps.length ≤ 2) (h0 : 0 ≤ rep ∧ rep ≤ 3) (ht : 0 ≤ t ∧ t ≤ 100) (hqb : ∀ k ∈ ob qa, base ≤ k) (hbw : base ≤ w.heap.size) :
    Calls Tryz.prog 120 #[.int .u8 rep, .int .u64 t, .slice qa ps.length qc] w (OnTo base w c) := by
  have HQ := Lib.hid hq
  have HP := Lib.hid hp
  have E0 : Hid (OnE w ((w.alloc (.cells (ccells 0 0 0 none 0 0 none 0 0 0 0 none 0 0 0 ⟨#[]⟩ none 0 0) 46)).alloc (.cells #[.int .u8 rep, .int .u32 1, .int .u64 1] 41)) rep) := Lib.hid ⟨(heap_old _ _ (by simp)).trans (heap_new _ _), heap_new2 _ _ _, ((Below.refl _ _).alloc (Nat.le_refl _) _).alloc (by simp) _⟩
  have hokd : okD (oneD rep) := ⟨⟨⟨by show 0 ≤ rep; omega, by show rep ≤ 255; omega⟩, by show (0 : Int) ≤ 1; decide, by show (1 : Int) ≤ 4294967295; decide⟩, by show (0 : Int) ≤ 1; decide, by show (1 : Int) ≤ 18446744073709551615; decide⟩
  have Hokd := Lib.hid hokd
  clear hq hp hokd
  go_enter Tryz.func120, Tryz.ntmps120
  go_wp2_with fail
  go_cut [8] (fun v wx => ∃ (a8 : Option Addr) (c8 : Nat) (v8 : List Dt), v = .slice a8 (List.length v8) c8 ∧ Hid (v8 = ps ++ [oneD rep]) ∧ Hid (OwnD wx (w.heap.size + 2) a8 c8 v8) ∧ Hid (OnE w wx rep))
  case first =>
    refine region_tree_at (fun k => k = w.heap.size + 1) (.seg [1, 3] false (.fork (.seg [0] false (.fork (.seg [2] true (.seg [4, 5, 6] false .done)) (.seg [4] false (.seg [2] true (.seg [5, 6] false .done))))) (.seg [4, 0] false (.seg [2] true (.seg [5, 6] false .done))))) mixed (by kernel_rfl) ?_
    simp only [wpSgB, List.map_cons, List.map_nil, List.getD_cons_succ, List.getD_cons_zero]
    go_wp2_with fail
    refine And.intro ?ordX ?ordC
    case' ordX =>
      go_wp2_with fail
      refine And.intro ?ordA ?ordB
    case ordA =>
      have hE1 := E0.out.step (((Below.refl _ _).alloc (Nat.le_refl _) (.cells #[] 41)).drew)
      have E1 := Lib.hid hE1
      clear hE1
      go_wp2_with (at_builtin; go_must (refine wpList_appVD rfl _ _ rfl (w.heap.size + 2) (some ⟨w.heap.size + 1 + 1, 0, none⟩) 0 [] rfl ?o1 qa qc ps rfl ?s1 ?n1 ?b1 ?_))
      case o1 =>
        have h := OwnD.below (OwnD.made ((w.alloc (.cells (ccells 0 0 0 none 0 0 none 0 0 0 0 none 0 0 0 ⟨#[]⟩ none 0 0) 46)).alloc (.cells #[.int .u8 rep, .int .u32 1, .int .u64 1] 41)) (base := w.heap.size + 2) (by simp)) ((Below.refl _ _).drew)
        simpa using h
      case s1 => exact HQ.out.below E1.out.bel
      case n1 => simp; omega
      case b1 => first | omega | (simp; done) | (simp; omega)
      intro v' a' c' w2 hv' ho2 hb2 hch2
      replace hv' : v' = ps := hv'
      have e' := hv'.symm
      clear hv'
      subst e'
      have E2 := Lib.hid (E1.out.step2 hb2)
      have Ho2 := Lib.hid ho2
      have HD2 := Lib.hid (held_new E1.out.b1 E2.out.b1)
      have hz2 := heap_lt E2.out.b1
      have d2 := cells_at E2.out.b1
      clear ho2 hb2 hch2
      go_wp2_with fail
      refine And.intro HD2.out ?_
      go_wp2_with (at_builtin; go_must (refine wpList_appV rfl _ _ rfl (w.heap.size + 2) a' c' ps rfl ?o3 (some ⟨w2.heap.size, 0, none⟩) 1 [((rep, 1), 1)] rfl ?s3 ?n3 ?b3 ?_))
      case o3 => exact Ho2.out.below ((Below.refl _ _).alloc (Nat.le_refl _) _)
      case s3 => exact Sl.blk (n := 1) (size := 3) (heap_new _ _) rfl (by decide)
      case n3 => simp; omega
      case b3 => simp; omega
      intro v8 a8 c8 w9 hv8 ho8 hb8 hch8
      have E9 := Lib.hid (OnE.step2 (E2.out.step ((Below.refl _ _).alloc (Nat.le_refl _) (.cells #[.int .u8 rep, .int .u32 1, .int .u64 1] 41))) hb8)
      have O8 := Lib.hid ho8
      have Hv8 := Lib.hid hv8
      clear hv8 ho8 hb8 hch8 E1 E2 Ho2 HD2 hz2 d2
      go_wp2_with fail
      refine And.intro (And.intro (by kernel_rfl) (reads_of ?rds)) ?_
      case rds => exact ⟨trivial, trivial, trivial, rfl, trivial, trivial, trivial, trivial⟩
      go_wp2_with fail
      go_meet
      exact ⟨a8, c8, v8, rfl, Hv8, O8, E9⟩
    case ordB =>
      have hE1 := E0.out.step (((Below.refl _ _).alloc (Nat.le_refl _) (.cells #[] 41)).alloc (by simp) (.cells #[.int .u8 rep, .int .u32 1, .int .u64 1] 41)).drew
      have E1 := Lib.hid hE1
      have hD1 : (((((w.alloc (.cells (ccells 0 0 0 none 0 0 none 0 0 0 0 none 0 0 0 ⟨#[]⟩ none 0 0) 46)).alloc (.cells #[.int .u8 rep, .int .u32 1, .int .u64 1] 41)).alloc (.cells #[] 41)).alloc (.cells #[.int .u8 rep, .int .u32 1, .int .u64 1] 41)).drew).heap[w.heap.size + 1 + 1 + 1]? = some (.cells #[.int .u8 rep, .int .u32 1, .int .u64 1] 41 (0, 0)) := heap_at _ _ (by simp)
      have HD1 := Lib.hid hD1
      clear hE1 hD1
      go_wp2_with (at_builtin; go_must (refine wpList_appVD rfl _ _ rfl (w.heap.size + 2) (some ⟨w.heap.size + 1 + 1, 0, none⟩) 0 [] rfl ?o1 qa qc ps rfl ?s1 ?n1 ?b1 ?_))
      case o1 =>
        have h := OwnD.below (OwnD.below (OwnD.made ((w.alloc (.cells (ccells 0 0 0 none 0 0 none 0 0 0 0 none 0 0 0 ⟨#[]⟩ none 0 0) 46)).alloc (.cells #[.int .u8 rep, .int .u32 1, .int .u64 1] 41)) (base := w.heap.size + 2) (by simp)) ((Below.refl _ _).alloc (Nat.le_refl _) (.cells #[.int .u8 rep, .int .u32 1, .int .u64 1] 41))) ((Below.refl _ _).drew)
        simpa using h
      case s1 => exact HQ.out.below E1.out.bel
      case n1 => simp; omega
      case b1 => first | omega | (simp; done) | (simp; omega)
      intro v' a' c' w2 hv' ho2 hb2 hch2
      replace hv' : v' = ps := hv'
      have e' := hv'.symm
      clear hv'
      subst e'
      have E2 := Lib.hid (E1.out.step2 hb2)
      have Ho2 := Lib.hid ho2
      have HD2 := Lib.hid (held_new E1.out.b1 E2.out.b1)
      have Hx2 := Lib.hid (heap_chg HD1.out hch2 (by simp [ob]))
      have hz2 := heap_lt E2.out.b1
      have d2 := cells_at E2.out.b1
      clear ho2 hb2 hch2
      go_wp2_with fail
      refine And.intro HD2.out ?_
      go_wp2_with (at_builtin; go_must (refine wpList_appV rfl _ _ rfl (w.heap.size + 2) a' c' ps rfl Ho2.out (some ⟨w.heap.size + 1 + 1 + 1, 0, none⟩) 1 [((rep, 1), 1)] rfl ?s3 ?n3 ?b3 ?_))
      case s3 => exact Sl.blk (n := 1) (size := 3) Hx2.out rfl (by decide)
      case n3 => simp; omega
      case b3 => omega
      intro v8 a8 c8 w9 hv8 ho8 hb8 hch8
      have E9 := Lib.hid (E2.out.step2 hb8)
      have O8 := Lib.hid ho8
      have Hv8 := Lib.hid hv8
      clear hv8 ho8 hb8 hch8 E1 E2 Ho2 HD2 hz2 d2 HD1 Hx2
      go_wp2_with fail
      refine And.intro (And.intro (by kernel_rfl) (reads_of ?rds)) ?_
      case rds => exact ⟨trivial, trivial, trivial, rfl, trivial, trivial, trivial, trivial⟩
      go_wp2_with fail
      go_meet
      exact ⟨a8, c8, v8, rfl, Hv8, O8, E9⟩
    case ordC =>
      have hE1 := E0.out.step (((Below.refl _ _).alloc (Nat.le_refl _) (.cells #[.int .u8 rep, .int .u32 1, .int .u64 1] 41)).alloc (by simp) (.cells #[] 41)).drew
      have E1 := Lib.hid hE1
      have hD1 : (((((w.alloc (.cells (ccells 0 0 0 none 0 0 none 0 0 0 0 none 0 0 0 ⟨#[]⟩ none 0 0) 46)).alloc (.cells #[.int .u8 rep, .int .u32 1, .int .u64 1] 41)).alloc (.cells #[.int .u8 rep, .int .u32 1, .int .u64 1] 41)).alloc (.cells #[] 41)).drew).heap[w.heap.size + 1 + 1]? = some (.cells #[.int .u8 rep, .int .u32 1, .int .u64 1] 41 (0, 0)) := (heap_old _ _ (by simp)).trans (heap_at _ _ (by simp))
      have HD1 := Lib.hid hD1
      clear hE1 hD1
      go_wp2_with (at_builtin; go_must (refine wpList_appVD rfl _ _ rfl (w.heap.size + 2) (some ⟨w.heap.size + 1 + 1 + 1, 0, none⟩) 0 [] rfl ?o1 qa qc ps rfl ?s1 ?n1 ?b1 ?_))
      case o1 =>
        have h := OwnD.below (OwnD.made (((w.alloc (.cells (ccells 0 0 0 none 0 0 none 0 0 0 0 none 0 0 0 ⟨#[]⟩ none 0 0) 46)).alloc (.cells #[.int .u8 rep, .int .u32 1, .int .u64 1] 41)).alloc (.cells #[.int .u8 rep, .int .u32 1, .int .u64 1] 41)) (base := w.heap.size + 2) (by simp <;> omega)) ((Below.refl _ _).drew)
        simpa using h
      case s1 => exact HQ.out.below E1.out.bel
      case n1 => simp; omega
      case b1 => first | omega | (simp; done) | (simp; omega)
      intro v' a' c' w2 hv' ho2 hb2 hch2
      replace hv' : v' = ps := hv'
      have e' := hv'.symm
      clear hv'
      subst e'
      have E2 := Lib.hid (E1.out.step2 hb2)
      have Ho2 := Lib.hid ho2
      have HD2 := Lib.hid (held_new E1.out.b1 E2.out.b1)
      have Hx2 := Lib.hid (heap_chg HD1.out hch2 (by simp [ob]))
      have hz2 := heap_lt E2.out.b1
      have d2 := cells_at E2.out.b1
      clear ho2 hb2 hch2
      go_wp2_with fail
      refine And.intro HD2.out ?_
      go_wp2_with (at_builtin; go_must (refine wpList_appV rfl _ _ rfl (w.heap.size + 2) a' c' ps rfl Ho2.out (some ⟨w.heap.size + 1 + 1, 0, none⟩) 1 [((rep, 1), 1)] rfl ?s3 ?n3 ?b3 ?_))
      case s3 => exact Sl.blk (n := 1) (size := 3) Hx2.out rfl (by decide)
      case n3 => simp; omega
      case b3 => omega
      intro v8 a8 c8 w9 hv8 ho8 hb8 hch8
      have E9 := Lib.hid (E2.out.step2 hb8)
      have O8 := Lib.hid ho8
      have Hv8 := Lib.hid hv8
      clear hv8 ho8 hb8 hch8 E1 E2 Ho2 HD2 hz2 d2 HD1 Hx2
      go_wp2_with fail
      refine And.intro (And.intro (by kernel_rfl) (reads_of ?rds)) ?_
      case rds => exact ⟨trivial, trivial, trivial, rfl, trivial, trivial, trivial, trivial⟩
      go_wp2_with fail
      go_meet
      exact ⟨a8, c8, v8, rfl, Hv8, O8, E9⟩
  case rest =>
    obtain ⟨a8, c8, v8, rfl, Hv8, O8, E9⟩ := hcut
    have hok8 : okV v8 := by
      rw [Hv8.out]
      intro d hd
      rcases List.mem_append.1 hd with hd | hd
      · exact hok d hd
      · rw [List.mem_singleton] at hd; subst hd; exact Hokd.out
    have hokA : okD lA := ⟨⟨⟨by decide, by decide⟩, by decide, by decide⟩, by decide, by decide⟩
    have d1 := cells_at E9.out.b1
    have z0 := heap_lt E9.out.b0
    have z1 := heap_lt E9.out.b1
    have hbz := E9.out.bel.size
    rcases HP.out with ⟨rfl, rfl⟩ | ⟨rfl, rfl⟩ | ⟨rfl, rfl⟩ | ⟨rfl, x, y, rfl, rfl⟩
    · have hE := E9.out.str
      have HT := Lib.hid (there1 hE.b0)
      have HE := Lib.hid hE
      clear hE
      go_wp2_with (refine wpList_store_cw rfl _ _ rfl w.heap.size 0 ⟨⟨oneD 0, ps, v8, t, lO⟩, qa, qc, a8, c8, some ⟨wc.heap.size, 0, none⟩, 1, none, 0⟩ rfl rfl HT.out ?_)
      rw [show ps ++ [oneD 0] = v8 from Hv8.out.symm]
      obtain ⟨hp, hcg⟩ := put1 ⟨⟨oneD 0, ps, v8, t, lO⟩, qa, qc, a8, c8, some ⟨wc.heap.size, 0, none⟩, 1, none, 0⟩ HE.out.b0
      generalize (wc.alloc (.cells #[.string ⟨#[97]⟩] 9)).setCells w.heap.size 0 (ccel ⟨⟨oneD 0, ps, v8, t, lO⟩, qa, qc, a8, c8, some ⟨wc.heap.size, 0, none⟩, 1, none, 0⟩) = w5 at *
      have d0 := cells_at hp
      simp only [cwcells, oneD, lO, List.length_cons, List.length_nil, Nat.zero_add] at d0
      exact bodyPost_ret (v := .agg (ccells 0 1 1 qa ps.length qc a8 v8.length c8 t 1 (some ⟨wc.heap.size, 0, none⟩) 1 1 0 ⟨#[]⟩ none 0 0)) (by simp [results, Tryz.results120, go_sem, d0]; try rfl) rfl (on_fin HE.out hcg HQ.out hqb (O8.out.vec.below ((Below.refl _ _).alloc (Nat.le_refl _) _)) (fun k hk => by have := (owns_lt O8.out k hk).1; omega) (heap_new _ _) (by omega) hbw Hokd.out hok hok8 ht)
    · have hE := (E9.out.lit #[.int .u8 0, .int .u32 1, .int .u64 1, .int .u8 1, .int .u32 1, .int .u64 1]).str
      have HT := Lib.hid (there1 hE.b0)
      have HE := Lib.hid hE
      clear hE
      go_wp2_with (refine wpList_store_cw rfl _ _ rfl w.heap.size 0 ⟨⟨oneD 1, ps, [lA, oneD 1], t, lO⟩, qa, qc, (some ⟨wc.heap.size, 0, none⟩), 2, some ⟨wc.heap.size + 1, 0, none⟩, 1, none, 0⟩ rfl rfl HT.out ?_)
      obtain ⟨hp, hcg⟩ := put1 ⟨⟨oneD 1, ps, [lA, oneD 1], t, lO⟩, qa, qc, (some ⟨wc.heap.size, 0, none⟩), 2, some ⟨wc.heap.size + 1, 0, none⟩, 1, none, 0⟩ HE.out.b0
      generalize ((wc.alloc (.cells #[.int .u8 0, .int .u32 1, .int .u64 1, .int .u8 1, .int .u32 1, .int .u64 1] 41)).alloc (.cells #[.string ⟨#[97]⟩] 9)).setCells w.heap.size 0 (ccel ⟨⟨oneD 1, ps, [lA, oneD 1], t, lO⟩, qa, qc, (some ⟨wc.heap.size, 0, none⟩), 2, some ⟨wc.heap.size + 1, 0, none⟩, 1, none, 0⟩) = w5 at *
      have d0 := cells_at hp
      simp only [cwcells, oneD, lO, List.length_cons, List.length_nil, Nat.zero_add] at d0
      exact bodyPost_ret (v := .agg (ccells 1 1 1 qa ps.length qc (some ⟨wc.heap.size, 0, none⟩) 2 2 t 1 (some ⟨wc.heap.size + 1, 0, none⟩) 1 1 0 ⟨#[]⟩ none 0 0)) (by simp [results, Tryz.results120, go_sem, d0]; try rfl) rfl (on_fin HE.out hcg HQ.out hqb (Sl.blk (n := 2) (size := 3) (C := #[.int .u8 0, .int .u32 1, .int .u64 1, .int .u8 1, .int .u32 1, .int .u64 1]) ((heap_old _ _ (by simp)).trans (heap_new _ _)) rfl (by decide)) (fun k hk => by simp [ob] at hk; omega) (heap_at _ _ (by simp)) (by omega) hbw Hokd.out hok (fun d hd => by simp at hd; rcases hd with rfl | rfl; exact hokA; exact Hokd.out) ht)
    · have hE := (E9.out.lit #[.int .u8 0, .int .u32 1, .int .u64 1, .int .u8 2, .int .u32 1, .int .u64 1]).str
      have HT := Lib.hid (there1 hE.b0)
      have HE := Lib.hid hE
      clear hE
      go_wp2_with (refine wpList_store_cw rfl _ _ rfl w.heap.size 0 ⟨⟨oneD 2, ps, [lA, oneD 2], t, lO⟩, qa, qc, (some ⟨wc.heap.size, 0, none⟩), 2, some ⟨wc.heap.size + 1, 0, none⟩, 1, none, 0⟩ rfl rfl HT.out ?_)
      obtain ⟨hp, hcg⟩ := put1 ⟨⟨oneD 2, ps, [lA, oneD 2], t, lO⟩, qa, qc, (some ⟨wc.heap.size, 0, none⟩), 2, some ⟨wc.heap.size + 1, 0, none⟩, 1, none, 0⟩ HE.out.b0
      generalize ((wc.alloc (.cells #[.int .u8 0, .int .u32 1, .int .u64 1, .int .u8 2, .int .u32 1, .int .u64 1] 41)).alloc (.cells #[.string ⟨#[97]⟩] 9)).setCells w.heap.size 0 (ccel ⟨⟨oneD 2, ps, [lA, oneD 2], t, lO⟩, qa, qc, (some ⟨wc.heap.size, 0, none⟩), 2, some ⟨wc.heap.size + 1, 0, none⟩, 1, none, 0⟩) = w5 at *
      have d0 := cells_at hp
      simp only [cwcells, oneD, lO, List.length_cons, List.length_nil, Nat.zero_add] at d0
      exact bodyPost_ret (v := .agg (ccells 2 1 1 qa ps.length qc (some ⟨wc.heap.size, 0, none⟩) 2 2 t 1 (some ⟨wc.heap.size + 1, 0, none⟩) 1 1 0 ⟨#[]⟩ none 0 0)) (by simp [results, Tryz.results120, go_sem, d0]; try rfl) rfl (on_fin HE.out hcg HQ.out hqb (Sl.blk (n := 2) (size := 3) (C := #[.int .u8 0, .int .u32 1, .int .u64 1, .int .u8 2, .int .u32 1, .int .u64 1]) ((heap_old _ _ (by simp)).trans (heap_new _ _)) rfl (by decide)) (fun k hk => by simp [ob] at hk; omega) (heap_at _ _ (by simp)) (by omega) hbw Hokd.out hok (fun d hd => by simp at hd; rcases hd with rfl | rfl; exact hokA; exact Hokd.out) ht)
    · obtain ⟨⟨rx, ix⟩, sx⟩ := x
      obtain ⟨⟨ry, iy⟩, sy⟩ := y
      obtain ⟨ad, had, a0, a1, a2, hl0⟩ := (HQ.out.below E9.out.bel).at (k := 0) (d := ((rx, ix), sx)) rfl
      obtain ⟨ad2, had2, b0, b1, b2, hl1⟩ := (HQ.out.below E9.out.bel).at (k := 1) (d := ((ry, iy), sy)) rfl
      obtain rfl : ad2 = ad := Option.some.inj (had2.symm.trans had)
      have ez : ad2.add (0 * 3) = ad2 := by simp [Addr.add]
      rw [ez] at a0 a1 a2
      have e3 : ad2.add (1 * 3) = ⟨ad2.block, ad2.off + 3, none⟩ := by simp [Addr.add]
      rw [e3] at b0 b1 b2
      subst had
      dsimp only at a0 a1 a2 b0 b1 b2
      clear ez had2 e3
      go_wp2_with fail
      refine region_text [([0, 1, 2, 3, 4, 5, 6, 7, 8, 9, 10], false)] mixed (by kernel_rfl) ?_
      simp only [wpSegs, List.map_cons, List.map_nil, List.getD_cons_succ, List.getD_cons_zero]
      go_wp2_with fail
      refine And.intro (by kernel_rfl) ?_
      have hE := ((E9.out.lit #[.int .u8 0, .int .u32 1, .int .u64 1, .int .u8 rx, .int .u32 ix, .int .u64 sx, .int .u8 ry, .int .u32 iy, .int .u64 sy, .int .u8 3, .int .u32 1, .int .u64 1]).str).step ((Below.refl _ _).drew)
      have HT := Lib.hid (there1 hE.b0)
      have HE := Lib.hid hE
      clear hE a0 a1 a2 b0 b1 b2
      go_wp2_with (refine wpList_store_cw rfl _ _ rfl w.heap.size 0 ⟨⟨oneD 3, [((rx, ix), sx), ((ry, iy), sy)], [lA, ((rx, ix), sx), ((ry, iy), sy), oneD 3], t, lO⟩, some ad2, qc, (some ⟨wc.heap.size, 0, none⟩), 4, some ⟨wc.heap.size + 1, 0, none⟩, 1, none, 0⟩ rfl rfl HT.out ?_)
      obtain ⟨hp, hcg⟩ := put1 ⟨⟨oneD 3, [((rx, ix), sx), ((ry, iy), sy)], [lA, ((rx, ix), sx), ((ry, iy), sy), oneD 3], t, lO⟩, some ad2, qc, (some ⟨wc.heap.size, 0, none⟩), 4, some ⟨wc.heap.size + 1, 0, none⟩, 1, none, 0⟩ HE.out.b0
      generalize (((wc.alloc (.cells #[.int .u8 0, .int .u32 1, .int .u64 1, .int .u8 rx, .int .u32 ix, .int .u64 sx, .int .u8 ry, .int .u32 iy, .int .u64 sy, .int .u8 3, .int .u32 1, .int .u64 1] 41)).alloc (.cells #[.string ⟨#[97]⟩] 9)).drew).setCells w.heap.size 0 (ccel ⟨⟨oneD 3, [((rx, ix), sx), ((ry, iy), sy)], [lA, ((rx, ix), sx), ((ry, iy), sy), oneD 3], t, lO⟩, some ad2, qc, (some ⟨wc.heap.size, 0, none⟩), 4, some ⟨wc.heap.size + 1, 0, none⟩, 1, none, 0⟩) = w5 at *
      have d0 := cells_at hp
      simp only [cwcells, oneD, lO, List.length_cons, List.length_nil, Nat.zero_add] at d0
      exact bodyPost_ret (v := .agg (ccells 3 1 1 (some ad2) 2 qc (some ⟨wc.heap.size, 0, none⟩) 4 4 t 1 (some ⟨wc.heap.size + 1, 0, none⟩) 1 1 0 ⟨#[]⟩ none 0 0)) (by simp [results, Tryz.results120, go_sem, d0]; try rfl) rfl (on_fin HE.out hcg HQ.out hqb (Sl.blk (n := 4) (size := 3) (C := #[.int .u8 0, .int .u32 1, .int .u64 1, .int .u8 rx, .int .u32 ix, .int .u64 sx, .int .u8 ry, .int .u32 iy, .int .u64 sy, .int .u8 3, .int .u32 1, .int .u64 1]) ((heap_old _ _ (by simp)).trans (heap_new _ _)) rfl (by decide)) (fun k hk => by simp [ob] at hk; omega) (heap_at _ _ (by simp)) (by omega) hbw Hokd.out hok (fun d hd => by simp at hd; rcases hd with rfl | rfl | rfl | rfl; exact hokA; exact hok _ (by simp); exact hok _ (by simp); exact Hokd.out) ht)
end Go.Proofs.YthdmoplclllhjaaGreat

/- LevL -/
namespace Go.Proofs.YthdmoplclllhjaaGreat
open Go.RowKit
set_option linter.unusedVariables false
set_option linter.unusedSimpArgs false

@[go_sem] theorem field_cd (a b c d e f g h i j k : Value) (w : World) : (Instr.field 46 (.agg #[a, b, c, d, e, f, g, h, i, j, k]) 0).run Tryz.prog w = .ok (.agg #[a, b, c]) w := by kernel_rfl
theorem onA : OnP 0 1 [] mA := .inl ⟨rfl, rfl⟩
theorem onB : OnP 1 2 [lA] mB := .inr (.inl ⟨rfl, rfl⟩)
theorem onC : OnP 2 2 [lA] mC := .inr (.inr (.inl ⟨rfl, rfl⟩))
theorem onD : OnP 3 3 [lB, lC] mD := .inr (.inr (.inr ⟨rfl, lB, lC, rfl, rfl⟩))
theorem okEx (d : Dt) (h : d = lA ∨ d = lB ∨ d = lC ∨ d = lD) : okD d := by
  rcases h with rfl | rfl | rfl | rfl <;> exact ⟨⟨by decide, by decide, by decide⟩, by decide, by decide⟩
/-- where a commit of the example lies -/
structure Wh where
  qa : Option Addr
  qc : Nat
  va : Option Addr
  vc : Nat
  pa : Option Addr
  pc : Nat
  da : Option Addr
  dc : Nat
def Wh.cw (x : Wh) (c : Cm) : Cw := ⟨c, x.qa, x.qc, x.va, x.vc, x.pa, x.pc, x.da, x.dc⟩
abbrev Wh.cells (x : Wh) (r t : Int) (pn vn : Nat) : Array Value := ccells r 1 1 x.qa pn x.qc x.va vn x.vc t 1 x.pa 1 x.pc 0 ⟨#[]⟩ x.da 0 x.dc
theorem OnTo.wh {base : Nat} {w w' : World} {c : Cm} {e : Ending} (h : OnTo base w c e w') : ∃ x : Wh, e = .returned (.agg (cwcells (x.cw c))) ∧ CwAt w' (x.cw c) ∧ Lo base (x.cw c) ∧ Below w.heap.size w w' := by
  obtain ⟨⟨c', a1, c1, a2, c2, a3, c3, a4, c4⟩, rfl, hc, h1, h2⟩ := h
  dsimp only at hc
  subst hc
  exact ⟨⟨a1, c1, a2, c2, a3, c3, a4, c4⟩, rfl, h1, h2⟩
/-- the example's commits, where they lie -/
def exL (xa xb xc xd : Wh) : List Cw := [xa.cw mA, xb.cw mB, xc.cw mC, xd.cw mD]
/-- what is known in the example -/
structure KvE (w wr : World) (lo s s6 : Nat) (xa xb xc xd : Wh) : Prop where
  a : wr.heap[s]? = some (.cells (xa.cells 0 1 0 1) 46 (0, 0))
  b : wr.heap[s + 1]? = some (.cells (xb.cells 1 2 1 2) 46 (0, 0))
  c : wr.heap[s + 2]? = some (.cells (xc.cells 2 2 1 2) 46 (0, 0))
  d : wr.heap[s6]? = some (.cells (xd.cells 3 3 2 4) 46 (0, 0))
  l : wr.heap[s6 + 1]? = some (.cells (ccs (exL xa xb xc xd)).toArray 46 (0, 0))
  at_ : ∀ v ∈ exL xa xb xc xd, CwAt wr v ∧ Lo lo v
  ls : lo ≤ s ∧ lo ≤ s6
  bel : Below w.heap.size w wr
theorem KvE.chg {w wr w' : World} {lo s s6 : Nat} {xa xb xc xd : Wh} {F : List Nat} (h : KvE w wr lo s s6 xa xb xc xd) (hc : Chg F wr w') (hF : ∀ k ∈ F, k < lo) (hb : ∀ k ∈ F, w.heap.size ≤ k) : KvE w w' lo s s6 xa xb xc xd := by
  have hn : ∀ k, lo ≤ k → k ∉ F := fun k hk hm => by have := hF k hm; omega
  have h1 := h.ls.1
  have h2 := h.ls.2
  exact ⟨heap_chg h.a hc (hn _ h1), heap_chg h.b hc (hn _ (by omega)), heap_chg h.c hc (hn _ (by omega)), heap_chg h.d hc (hn _ h2), heap_chg h.l hc (hn _ (by omega)), fun v hv => ⟨(h.at_ v hv).1.chgLo (h.at_ v hv).2 hc hF, (h.at_ v hv).2⟩, h.ls, h.bel.trans (hc.below h.bel.size hb)⟩
theorem KvE.below {w wr w' : World} {lo s s6 : Nat} {xa xb xc xd : Wh} (h : KvE w wr lo s s6 xa xb xc xd) (hb : Below wr.heap.size wr w') : KvE w w' lo s s6 xa xb xc xd :=
  h.chg (F := []) (Chg.of_below hb) (fun k hk => by cases hk) (fun k hk => by cases hk)
theorem KvE.own {w wr : World} {lo s s6 : Nat} {xa xb xc xd : Wh} (h : KvE w wr lo s s6 xa xb xc xd) : OwnC wr 0 (some ⟨s6 + 1, 0, none⟩) 4 (exL xa xb xc xd) :=
  ⟨by rw [ccs_length], .inr ⟨s6 + 1, 4, (ccs (exL xa xb xc xd)).toArray, rfl, Nat.zero_le _, h.l, Nat.le_refl _, by decide, rfl, by simp [ccs, ccel, exL]⟩⟩
theorem exL_c {xa xb xc xd : Wh} : cms (exL xa xb xc xd) = mL := rfl
theorem ex_ok {q : Nat} {c : Cm} (h : mL[q]? = some c) : insE [] (findC (mL.take q)) q c = 0 := by
  match q, h with
  | 0, h => cases h; exact mA_ok
  | 1, h => cases h; exact mB_ok
  | 2, h => cases h; exact mC_ok
  | 3, h => cases h; exact mD_ok
  | q + 4, h => simp [mL] at h
set_option maxRecDepth 100000 in
set_option maxHeartbeats 4000000 in
theorem same47_any (a b : Option Addr) (c d : Nat) (v u : List Dt) (w : World) (hv : Vec w a c v) (hu : Vec w b d u) (hn : v.length ≤ 1100000) (hm : u.length ≤ 1100000) :
    Calls Tryz.prog 59 #[.slice a v.length c, .slice b u.length d] w fun e w' => e = .returned (.bool (decide (v = u))) ∧ Below w.heap.size w w' := by
  have Hv := Lib.hid hv
  have Hu := Lib.hid hu
  clear hv hu
  by_cases hl : v.length = u.length
  · have Hl := Lib.hid hl
    rw [← hl]
    clear hl
    go_enter Tryz.func59, Tryz.ntmps59
    go_wp2_with fail
    go_loopw [5] (fun i wr => ∃ k : Nat, k ≤ v.length ∧ i = .int .i64 k ∧ Hid (v.take k = u.take k) ∧ Below w.heap.size w wr) (fun i _ => v.length - (intOf i).toNat)
    case atStart => exact ⟨0, Nat.zero_le _, rfl, Lib.hid (by simp), Below.refl _ _⟩
    case round =>
      obtain ⟨k, hk, rfl, heq, hb⟩ := hrel
      have Hb := Lib.hid hb
      clear hb
      by_cases hlt : k < v.length
      · have hlu : k < u.length := by have := Hl.out; omega
        obtain ⟨⟨⟨r, i⟩, s⟩, hx⟩ : ∃ x, v[k]? = some x := ⟨v[k], by simp [hlt]⟩
        obtain ⟨⟨⟨r', i'⟩, s'⟩, hy⟩ : ∃ x, u[k]? = some x := ⟨u[k], by simp [hlu]⟩
        obtain ⟨ad, had, d0, d1, d2, hlt0⟩ := (Hv.out.below Hb.out).at hx
        obtain ⟨ae, hae, e0, e1, e2, hlt1⟩ := (Hu.out.below Hb.out).at hy
        have had' := had
        have hae' := hae
        subst had' hae'
        dsimp only at d0 d1 d2 e0 e1 e2
        have Hx := Lib.hid hx
        have Hy := Lib.hid hy
        clear hx hy had hae
        cases hq : eqD ((r, i), s) ((r', i'), s') with
        | true =>
          have Heq := Lib.hid ((eqD_iff _ _).1 hq)
          go_wp2_with fail
          refine region_text [([0, 1, 2, 3, 4, 5, 6, 7, 8], false)] mixed (by kernel_rfl) ?_
          simp only [wpSegs, List.map_cons, List.map_nil, List.getD_cons_succ, List.getD_cons_zero]
          go_wp2_with fail
          refine And.intro (by kernel_rfl) ?_
          go_wp2_with fail
          go_roundw
          case rel => exact ⟨k + 1, by omega, by go_num, Lib.hid (by rw [take_snoc' Hx.out, take_snoc' Hy.out, heq.out, Heq.out]), Hb.out.drew⟩
          case measure => simp [intOf]; omega
        | false =>
          have He := Lib.hid (show decide (v = u) = false from decide_eq_false fun e => by
            subst e
            have h1 := Hx.out.symm.trans Hy.out
            have h2 := Option.some.inj h1
            rw [h2, show eqD ((r', i'), s') ((r', i'), s') = true from (eqD_iff _ _).2 rfl] at hq
            cases hq)
          go_wp2_with fail
          refine region_text [([0, 1, 2, 3, 4, 5, 6, 7, 8], false)] mixed (by kernel_rfl) ?_
          simp only [wpSegs, List.map_cons, List.map_nil, List.getD_cons_succ, List.getD_cons_zero]
          go_wp2_with fail
          refine And.intro (by kernel_rfl) ?_
          go_wp2_with fail
          go_ret
          exact ⟨by rw [He.out]; rfl, Hb.out.drew⟩
      · have He := Lib.hid (show decide (v = u) = true from decide_eq_true (by have h1 := heq.out; have h2 := Hl.out; rwa [List.take_of_length_le (by omega), List.take_of_length_le (by omega)] at h1))
        go_wp2_with fail
        go_ret
        exact ⟨by rw [He.out]; rfl, Hb.out⟩
  · have He := Lib.hid (show decide (v = u) = false from decide_eq_false fun e => hl (by rw [e]))
    have hne : ((v.length : Int) == (u.length : Int)) = false := by simp; omega
    go_enter Tryz.func59, Tryz.ntmps59
    go_wp2_with fail
    go_ret
    exact ⟨by rw [He.out]; rfl, Below.refl _ _⟩
theorem three_rows {R : List Rd} {x y z : List Dt} (h : R.map (·.v) = [x, y, z]) : ∃ a0 c0 a1 c1 a2 c2, R = [⟨a0, c0, x⟩, ⟨a1, c1, y⟩, ⟨a2, c2, z⟩] := by
  match R, h with
  | [⟨a0, c0, v0⟩, ⟨a1, c1, v1⟩, ⟨a2, c2, v2⟩], h =>
    simp only [List.map_cons, List.map_nil, List.cons.injEq, and_true] at h
    obtain ⟨rfl, rfl, rfl⟩ := h
    exact ⟨a0, c0, a1, c1, a2, c2, rfl⟩
set_option maxRecDepth 100000 in
set_option maxHeartbeats 8000000 in
theorem known47_any (w : World) : Calls Tryz.prog 56 #[] w fun e w' => e = .returned (.bool true) ∧ Below w.heap.size w w' := by
  go_enter Tryz.func56, Tryz.ntmps56
  go_wp2_with fail
  refine (newE_any w).mono ?_
  intro e w1 hto
  obtain ⟨pg, mb, w0, b, va, vc, rfl, hbb, hG, hB, hz⟩ := hto
  have HG := Lib.hid hG
  have HB := Lib.hid hB
  have Hbb := Lib.hid hbb
  have hpg := heap_lt hG.blk
  have hmb := hG.map.lt
  have hold := hG.old
  clear hG hB hbb
  go_wp2_with fail
  refine (on_any w1.heap.size 0 1 none 0 [] mA _ (Sl.nil _ _) onA (fun d hd => by cases hd) (by simp) (by decide) (by decide) (by simp [ob]) (Nat.le_refl _)).mono ?_
  intro e w2 hto
  obtain ⟨xa, rfl, hA, hLA, hb2⟩ := hto.wh
  have HA := Lib.hid hA
  have HLA := Lib.hid hLA
  have HB2 := Lib.hid hb2
  have hz2 := hb2.size
  clear hA hLA hb2
  simp only [cwcells, Wh.cw, mA, lA, lO, List.length_cons, List.length_nil, Nat.zero_add]
  go_wp2_with fail
  refine (on_any w1.heap.size 0 1 none 0 [] mA _ (Sl.nil _ _) onA (fun d hd => by cases hd) (by simp) (by decide) (by decide) (by simp [ob]) hz2).mono ?_
  intro e w3 hto
  obtain ⟨xe, rfl, hxe, lxe, hb⟩ := hto.wh
  have B3 := Lib.hid hb
  have B23 := Lib.hid hb
  have hz3 : w1.heap.size ≤ w3.heap.size := by have := hb.size; omega
  clear hxe lxe hb
  simp only [cwcells, Wh.cw, mA, lA, lB, lC, lD, lO, List.length_cons, List.length_nil, Nat.zero_add, Nat.reduceAdd]
  go_wp2_with fail
  refine (on_any w1.heap.size 1 2 (some ⟨w3.heap.size, 0, none⟩) 1 [lA] mB _ (Sl.blk (n := 1) (size := 3) (C := #[.int .u8 0, .int .u32 1, .int .u64 1]) (heap_new _ _) rfl (by decide)) onB (fun d hd => by simp at hd; subst hd; exact okEx _ (.inl rfl)) (by simp) (by decide) (by decide) (by simp [ob]; omega) (by simp; omega)).mono ?_
  intro e w4 hto
  obtain ⟨xb, rfl, hxb, lxb, hb⟩ := hto.wh
  have B4 := Lib.hid (B3.out.trans ((new1 hb).2.2.mono B3.out.size))
  have HB2x := Lib.hid (below2 B23.out (new1 hb).2.2 B23.out.size)
  have hz4 : w1.heap.size ≤ w4.heap.size := by have := (new1 hb).2.1; omega
  have HBt := Lib.hid hxb
  have HLB := Lib.hid lxb
  clear hxb lxb hb B3 hz3
  simp only [cwcells, Wh.cw, mB, lA, lB, lC, lD, lO, List.length_cons, List.length_nil, Nat.zero_add, Nat.reduceAdd]
  go_wp2_with fail
  refine (on_any w1.heap.size 0 1 none 0 [] mA _ (Sl.nil _ _) onA (fun d hd => by cases hd) (by simp) (by decide) (by decide) (by simp [ob]) hz4).mono ?_
  intro e w5 hto
  obtain ⟨xe2, rfl, hxe2, lxe2, hb⟩ := hto.wh
  have B5 := Lib.hid (B4.out.trans (hb.mono B4.out.size))
  have B45 := Lib.hid hb
  have hz5 : w1.heap.size ≤ w5.heap.size := by have := hb.size; omega
  clear hxe2 lxe2 hb
  simp only [cwcells, Wh.cw, mA, lA, lB, lC, lD, lO, List.length_cons, List.length_nil, Nat.zero_add, Nat.reduceAdd]
  go_wp2_with fail
  refine (on_any w1.heap.size 2 2 (some ⟨w5.heap.size, 0, none⟩) 1 [lA] mC _ (Sl.blk (n := 1) (size := 3) (C := #[.int .u8 0, .int .u32 1, .int .u64 1]) (heap_new _ _) rfl (by decide)) onC (fun d hd => by simp at hd; subst hd; exact okEx _ (.inl rfl)) (by simp) (by decide) (by decide) (by simp [ob]; omega) (by simp; omega)).mono ?_
  intro e w6 hto
  obtain ⟨xc, rfl, hxc, lxc, hb⟩ := hto.wh
  have B6 := Lib.hid (B5.out.trans ((new1 hb).2.2.mono B5.out.size))
  have B46 := Lib.hid (below2 B45.out (new1 hb).2.2 B45.out.size)
  have HBx := Lib.hid (below2 HB2x.out B46.out HB2x.out.size)
  have hz6 : w1.heap.size ≤ w6.heap.size := by have := (new1 hb).2.1; omega
  have HCt := Lib.hid hxc
  have HLC := Lib.hid lxc
  clear hxc lxc hb B4 B5 B45 hz4 hz5
  simp only [cwcells, Wh.cw, mC, lA, lB, lC, lD, lO, List.length_cons, List.length_nil, Nat.zero_add, Nat.reduceAdd]
  go_wp2_with fail
  refine (on_any w1.heap.size 3 3 (some ⟨w6.heap.size + 1 + 1 + 1, 0, none⟩) 2 [lB, lC] mD _ (Sl.blk (n := 2) (size := 3) (C := #[.int .u8 1, .int .u32 1, .int .u64 1, .int .u8 2, .int .u32 1, .int .u64 1]) (heap_at _ _ (by simp)) rfl (by decide)) onD (fun d hd => by simp at hd; rcases hd with rfl | rfl; exact okEx _ (.inr (.inl rfl)); exact okEx _ (.inr (.inr (.inl rfl)))) (by simp) (by decide) (by decide) (by simp [ob]; omega) (by simp; omega)).mono ?_
  intro e w7 hto
  obtain ⟨xd, rfl, hxd, lxd, hb⟩ := hto.wh
  have hbW : Below ((((w6.alloc (.cells (xa.cells 0 1 0 1) 46)).alloc (.cells (xb.cells 1 2 1 2) 46)).alloc (.cells (xc.cells 2 2 1 2) 46)).alloc (.cells #[.int .u8 1, .int .u32 1, .int .u64 1, .int .u8 2, .int .u32 1, .int .u64 1] 41)).heap.size ((((w6.alloc (.cells (xa.cells 0 1 0 1) 46)).alloc (.cells (xb.cells 1 2 1 2) 46)).alloc (.cells (xc.cells 2 2 1 2) 46)).alloc (.cells #[.int .u8 1, .int .u32 1, .int .u64 1, .int .u8 2, .int .u32 1, .int .u64 1] 41)) w7 := hb
  have hW : Below w6.heap.size w6 ((((w6.alloc (.cells (xa.cells 0 1 0 1) 46)).alloc (.cells (xb.cells 1 2 1 2) 46)).alloc (.cells (xc.cells 2 2 1 2) 46)).alloc (.cells #[.int .u8 1, .int .u32 1, .int .u64 1, .int .u8 2, .int .u32 1, .int .u64 1] 41)) := ((((Below.refl _ _).alloc (Nat.le_refl _) _).alloc (by simp) _).alloc (by simp <;> omega) _).alloc (by simp <;> omega) _
  have ha7 : w7.heap[w6.heap.size]? = some (.cells (xa.cells 0 1 0 1) 46 (0, 0)) := (hbW.block _ (by simp <;> omega)).trans ((heap_old _ _ (by simp <;> omega)).trans ((heap_old _ _ (by simp <;> omega)).trans ((heap_old _ _ (by simp <;> omega)).trans (heap_at _ _ (by simp)))))
  have hb7 : w7.heap[w6.heap.size + 1]? = some (.cells (xb.cells 1 2 1 2) 46 (0, 0)) := (hbW.block _ (by simp <;> omega)).trans ((heap_old _ _ (by simp <;> omega)).trans ((heap_old _ _ (by simp <;> omega)).trans (heap_at _ _ (by simp))))
  have hc7 : w7.heap[w6.heap.size + 2]? = some (.cells (xc.cells 2 2 1 2) 46 (0, 0)) := (hbW.block _ (by simp <;> omega)).trans ((heap_old _ _ (by simp <;> omega)).trans (heap_at _ _ (by simp)))
  have B67 := Lib.hid (below2 hW hbW hW.size)
  have hz7 : w1.heap.size ≤ w7.heap.size := by have := B67.out.size; omega
  have HDt := Lib.hid hxd
  have HLD := Lib.hid lxd
  have Ha7 := Lib.hid ha7
  have Hb7 := Lib.hid hb7
  have Hc7 := Lib.hid hc7
  have da := cells_at ha7
  have db := cells_at hb7
  have dc := cells_at hc7
  simp only [Wh.cells, ccells] at da db dc
  have za := heap_lt ha7
  have zb := heap_lt hb7
  have zc := heap_lt hc7
  clear hxd lxd hb hbW hW ha7 hb7 hc7
  simp only [cwcells, Wh.cw, mD, lA, lB, lC, lD, lO, List.length_cons, List.length_nil, Nat.zero_add, Nat.reduceAdd]
  go_wp2_with fail
  have hW8 : Below w7.heap.size w7 ((w7.alloc (.cells (xd.cells 3 3 2 4) 46)).alloc (.cells (ccs (exL xa xb xc xd)).toArray 46)) := ((Below.refl _ _).alloc (Nat.le_refl _) _).alloc (by simp) _
  have K0 : Hid (KvE w ((w7.alloc (.cells (xd.cells 3 3 2 4) 46)).alloc (.cells (ccs (exL xa xb xc xd)).toArray 46)) w1.heap.size w6.heap.size w7.heap.size xa xb xc xd) := Lib.hid ⟨(hW8.block _ za).trans Ha7.out, (hW8.block _ zb).trans Hb7.out, (hW8.block _ zc).trans Hc7.out, (heap_old _ _ (by simp)).trans (heap_new _ _), heap_at _ _ (by simp), fun v hv => by
      simp only [exL, List.mem_cons, List.not_mem_nil, or_false] at hv
      rcases hv with rfl | rfl | rfl | rfl
      · exact ⟨(((HA.out.below HB2x.out).below B46.out).below B67.out).below hW8, HLA.out⟩
      · exact ⟨((HBt.out.below B46.out).below B67.out).below hW8, HLB.out⟩
      · exact ⟨(HCt.out.below B67.out).below hW8, HLC.out⟩
      · exact ⟨HDt.out.below hW8, HLD.out⟩, ⟨hz6, hz7⟩, (((HB.out.trans (HB2.out.mono HB.out.size)).trans (HBx.out.mono (by have := HB.out.size; omega))).trans (B67.out.mono (by have := HB.out.size; omega))).trans (hW8.mono (by have := HB.out.size; omega))⟩
  have HG0 : Hid (GrAt ((w7.alloc (.cells (xd.cells 3 3 2 4) 46)).alloc (.cells (ccs (exL xa xb xc xd)).toArray 46)) pg mb w0 0 b [] va vc []) := Lib.hid ((((HG.out.below HB2.out).below HBx.out).below B67.out).below hW8)
  clear hW8 da db dc za zb zc Ha7 Hb7 Hc7 HA HBt HCt HDt HLA HLB HLC HLD B46 B67 hz2 hz6 hz7
  go_loopw [42] (fun j wr => ∃ (q : Nat) (Lq : List Cw) (va : Option Addr) (vc : Nat) (vv : List Dt), q ≤ 4 ∧ j = .int .i64 q ∧ Hid (cms Lq = mL.take q) ∧ Hid (GrAt wr pg mb w0 0 b Lq va vc vv) ∧ Hid (KvE w wr w1.heap.size w6.heap.size w7.heap.size xa xb xc xd)) (fun j _ => 4 - (intOf j).toNat)
  case atStart => exact ⟨0, [], va, vc, [], by decide, rfl, Lib.hid rfl, HG0, K0⟩
  case round =>
    obtain ⟨q, Lq, va, vc, vv, hq, rfl, HL, HG, K⟩ := hrel
    by_cases hlt : q < 4
    · obtain ⟨v, hv⟩ : ∃ v, (exL xa xb xc xd)[q]? = some v := ⟨(exL xa xb xc xd)[q]'(by simp [exL]; omega), by simp⟩
      have hmem := List.mem_of_getElem? hv
      have HR := Lib.hid (K.out.own.range hv)
      have HA := Lib.hid (K.out.at_ v hmem).1
      have hvc : mL[q]? = some v.c := by
        rw [← exL_c (xa := xa) (xb := xb) (xc := xc) (xd := xd)]
        unfold cms
        rw [List.getElem?_map, hv]; rfl
      have hLq : Lq.length = q := by
        have h1 := congrArg List.length HL.out
        unfold cms at h1
        rw [List.length_map, List.length_take] at h1
        have : mL.length = 4 := rfl
        omega
      have HOk := Lib.hid (show insE b.b.f (findC (cms Lq)) Lq.length v.c = 0 by rw [HL.out, hLq, Hbb.out]; exact ex_ok hvc)
      have hvl : v.c.vv.length ≤ 64 := by
        simp only [exL, List.mem_cons, List.not_mem_nil, or_false] at hmem
        rcases hmem with rfl | rfl | rfl | rfl
        · show mA.vv.length ≤ 64; decide
        · show mB.vv.length ≤ 64; decide
        · show mC.vv.length ≤ 64; decide
        · show mD.vv.length ≤ 64; decide
      have HTk := Lib.hid (show mL.take (q + 1) = mL.take q ++ [v.c] from take_snoc' hvc)
      clear hv hmem hvc hLq
      obtain ⟨⟨⟨⟨r, i⟩, s⟩, ps, uu, t, ⟨k, n, x, p, ds⟩⟩, qa, qc, ua, uc, pa, pc, da, dc⟩ := v
      dsimp only at hvl
      have hA : Below wr.heap.size wr (wr.alloc (.cells (ccells r i s qa ps.length qc ua uu.length uc t k pa p.length pc n x da ds.length dc) 46)) := (Below.refl _ _).alloc (Nat.le_refl _) _
      have HAl := Lib.hid hA
      clear hA
      go_wp2_with (refine wpList_load_cw rfl _ rfl (w7.heap.size + 1) (q * 11) (by first | rfl | simp [Addr.add]) ⟨⟨((r, i), s), ps, uu, t, ⟨k, n, x, p, ds⟩⟩, qa, qc, ua, uc, pa, pc, da, dc⟩ HR.out ?_; simp only [cwcells])
      refine (insert_G pg mb w0 0 b Lq va vc vv ⟨⟨((r, i), s), ps, uu, t, ⟨k, n, x, p, ds⟩⟩, qa, qc, ua, uc, pa, pc, da, dc⟩ _ (HG.out.below HAl.out) (HA.out.below HAl.out) (by dsimp only; omega)).mono ?_
      intro e w9 hto
      obtain ⟨he, hto⟩ := hto
      rw [HOk.out] at he hto
      subst he
      obtain ⟨h0, _⟩ | ⟨_, u, va', vc', hu, hG9, hc9⟩ := hto
      · exact absurd rfl h0
      have K9 := Lib.hid ((K.out.below HAl.out).chg hc9 (fun k hk => by simp at hk; rcases hk with rfl | rfl <;> assumption) (fun k hk => by simp at hk; rcases hk with rfl | rfl <;> omega))
      have HG9 := Lib.hid hG9
      have HL9 := Lib.hid (show cms (Lq ++ [u]) = mL.take (q + 1) by
        rw [HTk.out, ← HL.out]
        dsimp only at hu
        simp [cms, hu])
      clear hG9 hc9 hu
      go_wp2_with fail
      go_roundw
      case rel => exact ⟨q + 1, Lq ++ [u], va', vc', _, by omega, by go_num, HL9, HG9, K9⟩
      case measure => simp [intOf]; omega
    · have hq4 : q = 4 := by omega
      have HLm := Lib.hid (show cms Lq = mL by rw [HL.out, hq4]; rfl)
      clear hq4 HL
      go_wp2_with fail
      refine (levels_any (.pointer (some ⟨pg, 0, none⟩)) (cms Lq) _ (Coms.of HG.out)).mono ?_
      intro e w9 hto
      obtain ⟨a9, c9, R, S, rfl, hp, hs, hl, ho, hr, hap, hRl, hrl, hb⟩ := hto
      have hS : S = mL := mL_uniq (by rw [← HLm.out]; exact hp) hs
      subst hS
      obtain ⟨a0, c0, a1, c1, a2, c2, rfl⟩ := three_rows hl.known
      obtain ⟨g9, rfl⟩ := ho.ptr (by simp)
      have e0 := ho.cell (q := 0) rfl
      have e1 := ho.cell (q := 1) rfl
      have e2 := ho.cell (q := 2) rfl
      have V1 := Lib.hid (OwnD.vec (hr ⟨a1, c1, [lB, lC]⟩ (by simp)))
      have V2 := Lib.hid (OwnD.vec (hr ⟨a2, c2, [lD]⟩ (by simp)))
      have hg9 := (owns_lt ho g9 (by simp [ob])).2
      dsimp only [List.length_cons, List.length_nil] at e0 e1 e2
      have HG9 := Lib.hid (HG.out.below hb)
      have K9 := Lib.hid (K.out.below hb)
      have db := cells_at K9.out.b
      have dc := cells_at K9.out.c
      have dd := cells_at K9.out.d
      simp only [Wh.cells, ccells] at db dc dd
      have zb := heap_lt K9.out.b
      have zc := heap_lt K9.out.c
      have zd := heap_lt K9.out.d
      have heq : eqD ((3, 1), 1) ((3, 1), 1) = true := by decide
      clear hp hs hl ho hr hap hrl hb
      go_wp2_with fail
      refine region_text [([0, 1, 2, 3, 4, 5, 6, 7, 8, 9, 10, 11, 12, 13, 14, 15, 16, 17, 18, 19, 20, 21, 22, 23, 24, 25, 26, 27, 28, 29, 30, 31, 32, 33, 34, 35, 36], false)] mixed (by kernel_rfl) ?_
      simp only [wpSegs, List.map_cons, List.map_nil, List.getD_cons_succ, List.getD_cons_zero]
      go_wp2_with fail
      have hA9 : Below w9.heap.size w9 (w9.alloc (.cells #[.int .u8 1, .int .u32 1, .int .u64 1, .int .u8 2, .int .u32 1, .int .u64 1] 41)).drew := ((Below.refl _ _).alloc (Nat.le_refl _) _).drew
      have HA9 := Lib.hid hA9
      clear hA9
      refine (same47_any a1 (some ⟨w9.heap.size, 0, none⟩) c1 2 [lB, lC] [lB, lC] _ (V1.out.below HA9.out) (Sl.blk (n := 2) (size := 3) (C := #[.int .u8 1, .int .u32 1, .int .u64 1, .int .u8 2, .int .u32 1, .int .u64 1]) (heap_new _ _) rfl (by decide)) (by simp) (by simp)).mono ?_
      rintro e w10 ⟨rfl, hb10⟩
      rw [show decide ([lB, lC] = [lB, lC]) = true from decide_eq_true rfl]
      have B10 := Lib.hid (below2 HA9.out hb10 HA9.out.size)
      have HG10 := Lib.hid (HG9.out.below B10.out)
      have K10 := Lib.hid (K9.out.below B10.out)
      have e2' : w10.cell? ⟨g9, 2, none⟩ = some (.slice a2 1 c2) := ((bcell B10.out).1 _ _ hg9).trans e2
      obtain ⟨ad, had, x0, x1, x2, hl0⟩ := (V2.out.below B10.out).at (k := 0) (d := lD) rfl
      have ez : ad.add (0 * 3) = ad := by simp [Addr.add]
      rw [ez] at x0 x1 x2
      subst had
      simp only [lD] at x0 x1 x2
      have dd' := cells_at K10.out.d
      simp only [Wh.cells, ccells] at dd'
      have zd' := heap_lt K10.out.d
      clear hb10 ez e0 e1 e2 db dc dd zb zc zd hg9
      go_wp2_with fail
      refine (pairs_any (.pointer (some ⟨pg, 0, none⟩)) (cms Lq) _ (Coms.of HG10.out)).mono ?_
      rintro e w11 ⟨S', hp', hs', rfl, hb11⟩
      have hS' : S' = mL := mL_uniq (by rw [← HLm.out]; exact hp') hs'
      subst hS'
      rw [show pairsP mL mL.length = 1 from pairs_mL]
      have B11 := Lib.hid ((K10.out.below hb11).bel)
      clear hp' hs' hb11
      go_wp2_with fail
      refine And.intro (by kernel_rfl) ?_
      go_wp2_with fail
      go_ret
      exact ⟨rfl, B11.out⟩
end Go.Proofs.YthdmoplclllhjaaGreat
