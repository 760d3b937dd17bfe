/- Trees in rows of one's own; copies of rows of nodes and of leaves. | Rows of leaves and of nodes, while each is made one's own. -/
import Derived.Test.YtaandcblndldmaaGreatMeanY
import Derived.Test.YtaandcblndldmaaGreatBatC
/- OwtA -/
namespace Go.Proofs.YtaandcblndldmaaGreat
open Go.RowKit
set_option linter.unusedVariables false
set_option linter.unusedSimpArgs false

theorem OwnN.made (w : World) {base : Nat} (h : base ≤ w.heap.size) : OwnN (w.alloc (.cells #[] 175)) base (some ⟨w.heap.size, 0, none⟩) 0 [] := World.ownsRow_made w #[] 0 h (by decide) rfl
theorem OwnF.made (w : World) {base : Nat} (h : base ≤ w.heap.size) : OwnF (w.alloc (.cells #[] 178)) base (some ⟨w.heap.size, 0, none⟩) 0 [] := World.ownsRow_made w #[] 0 h (by decide) rfl
theorem cloneN_any (a : Option Addr) (c : Nat) (l : List Nd) (w : World) (hv : Sl w 3 a l.length c (l.flatMap ndcell)) (hn : l.length ≤ 2000000) :
    Calls Tryz.prog 191 #[.slice a l.length c] w fun e w' => ∃ a' c' v', e = .returned (.slice a' (List.length v') c') ∧ v' = l ∧ OwnN w' w.heap.size a' c' v' ∧ Below w.heap.size w w' := by
  have Hv := Lib.hid hv
  have heq := fun (w : World) (a : Option Addr) (n c : Nat) => Lib.run_eql_slice_nil (P := Tryz.prog) w 30 175 a n c 0 0 Tryz.underlying30
  cases a with
  | none =>
    obtain ⟨h1, h2, h3, ⟨_, h4, h5⟩ | ⟨b, hb, _⟩⟩ := hv
    · subst h5
      obtain rfl : l = [] := List.eq_nil_of_length_eq_zero h4
      clear h1 h2 h3 h4 Hv
      go_enter Tryz.func191, Tryz.ntmps191
      go_wp2_with fail
      go_ret
      exact ⟨none, 0, [], rfl, rfl, OwnN.nil _ _, Below.refl _ _⟩
    · cases hb
  | some ad =>
    clear hv
    go_enter Tryz.func191, Tryz.ntmps191
    go_wp2_with (at_builtin; go_must (refine wpList_appN rfl _ _ rfl w.heap.size (some ⟨w.heap.size, 0, none⟩) 0 [] rfl (OwnN.made w (Nat.le_refl _)) (some ad) c l rfl (Hv.out.below ((Below.refl _ _).alloc (Nat.le_refl _) _)) ?n1 ?b1 ?_))
    case n1 => simp; omega
    case b1 => simp
    intro v' a' c' w2 hv' ho2 hb2 _ _
    have Hv' := Lib.hid hv'
    have HB2 : Hid (Below w.heap.size w w2) := Lib.hid (((Below.refl _ _).alloc (Nat.le_refl _) _).trans hb2)
    have Ho2 := Lib.hid ho2
    clear hv' ho2 hb2
    go_wp2_with fail
    go_ret
    exact ⟨a', c', v', rfl, by rw [Hv'.out], Ho2.out, HB2.out⟩
theorem cloneF_any (a : Option Addr) (c : Nat) (l : List Lv) (w : World) (hv : Sl w 9 a l.length c (l.flatMap lvcell)) (hn : l.length ≤ 2000000) :
    Calls Tryz.prog 192 #[.slice a l.length c] w fun e w' => ∃ a' c' v', e = .returned (.slice a' (List.length v') c') ∧ v' = l ∧ OwnF w' w.heap.size a' c' v' ∧ Below w.heap.size w w' := by
  have Hv := Lib.hid hv
  have heq := fun (w : World) (a : Option Addr) (n c : Nat) => Lib.run_eql_slice_nil (P := Tryz.prog) w 173 178 a n c 0 0 Tryz.underlying173
  cases a with
  | none =>
    obtain ⟨h1, h2, h3, ⟨_, h4, h5⟩ | ⟨b, hb, _⟩⟩ := hv
    · subst h5
      obtain rfl : l = [] := List.eq_nil_of_length_eq_zero h4
      clear h1 h2 h3 h4 Hv
      go_enter Tryz.func192, Tryz.ntmps192
      go_wp2_with fail
      go_ret
      exact ⟨none, 0, [], rfl, rfl, OwnF.nil _ _, Below.refl _ _⟩
    · cases hb
  | some ad =>
    clear hv
    go_enter Tryz.func192, Tryz.ntmps192
    go_wp2_with (at_builtin; go_must (refine wpList_appF rfl _ _ rfl w.heap.size (some ⟨w.heap.size, 0, none⟩) 0 [] rfl (OwnF.made w (Nat.le_refl _)) (some ad) c l rfl (Hv.out.below ((Below.refl _ _).alloc (Nat.le_refl _) _)) ?n1 ?b1 ?_))
    case n1 => simp; omega
    case b1 => simp
    intro v' a' c' w2 hv' ho2 hb2 _ _
    have Hv' := Lib.hid hv'
    have HB2 : Hid (Below w.heap.size w w2) := Lib.hid (((Below.refl _ _).alloc (Nat.le_refl _) _).trans hb2)
    have Ho2 := Lib.hid ho2
    clear hv' ho2 hb2
    go_wp2_with fail
    go_ret
    exact ⟨a', c', v', rfl, by rw [Hv'.out], Ho2.out, HB2.out⟩
/-! trees in rows of one's own -/
/-- a leaf, its rows one's own -/
structure OwnLv (w : World) (base : Nat) (v : Lv) : Prop where
  its : OwnI w base v.ia v.ic v.l.items
  tms : OwnD w base v.ta v.tc v.l.tombs
  ok : okL v.l
  num : IntKind.wrap .i64 v.l.n = v.l.n
def OwnLs (w : World) (base : Nat) (a : Option Addr) (c : Nat) (ls : List Lv) : Prop := OwnF w base a c ls ∧ ∀ v ∈ ls, OwnLv w base v
def OwnT (w : World) (base : Nat) : Nat → Option Addr → Nat → List Nd → Prop
  | 0, a, c, T => T = [] ∧ OwnN w base a c []
  | n + 1, a, c, T => OwnN w base a c T ∧ ∀ x ∈ T, OwnLs w base x.la x.lc x.ls ∧ OwnT w base n x.ba x.bc x.kids
theorem OwnLv.chg {w w' : World} {base : Nat} {v : Lv} {F : List Nat} (h : OwnLv w base v) (hc : Chg F w w') (hF : ∀ k ∈ F, k < base) : OwnLv w' base v :=
  ⟨owns_chg h.its hc (fun k hk hm => by have := (owns_lt h.its k hk).1; have := hF k hm; omega), owns_chg h.tms hc (fun k hk hm => by have := (owns_lt h.tms k hk).1; have := hF k hm; omega), h.ok, h.num⟩
theorem OwnLs.chg {w w' : World} {base : Nat} {a : Option Addr} {c : Nat} {ls : List Lv} {F : List Nat} (h : OwnLs w base a c ls) (hc : Chg F w w') (hF : ∀ k ∈ F, k < base) : OwnLs w' base a c ls :=
  ⟨owns_chg h.1 hc (fun k hk hm => by have := (owns_lt h.1 k hk).1; have := hF k hm; omega), fun v hv => (h.2 v hv).chg hc hF⟩
theorem OwnT.chg {w w' : World} {base : Nat} {F : List Nat} (hc : Chg F w w') (hF : ∀ k ∈ F, k < base) : ∀ {n : Nat} {a : Option Addr} {c : Nat} {T : List Nd}, OwnT w base n a c T → OwnT w' base n a c T
  | 0, _, _, _, h => ⟨h.1, owns_chg h.2 hc (fun k hk hm => by have := (owns_lt h.2 k hk).1; have := hF k hm; omega)⟩
  | n + 1, _, _, _, h => ⟨owns_chg h.1 hc (fun k hk hm => by have := (owns_lt h.1 k hk).1; have := hF k hm; omega), fun x hx => ⟨(h.2 x hx).1.chg hc hF, OwnT.chg hc hF (h.2 x hx).2⟩⟩
theorem OwnLs.below {w w' : World} {base : Nat} {a : Option Addr} {c : Nat} {ls : List Lv} (h : OwnLs w base a c ls) (hb : Below w.heap.size w w') : OwnLs w' base a c ls := h.chg (F := []) (Chg.of_below hb) (fun k hk => by cases hk)
theorem OwnT.below {w w' : World} {base n : Nat} {a : Option Addr} {c : Nat} {T : List Nd} (h : OwnT w base n a c T) (hb : Below w.heap.size w w') : OwnT w' base n a c T := h.chg (F := []) (Chg.of_below hb) (fun k hk => by cases hk)
theorem OwnLv.base {w : World} {base b2 : Nat} {v : Lv} (h : OwnLv w base v) (hb : b2 ≤ base) : OwnLv w b2 v := ⟨owns_base h.its hb, owns_base h.tms hb, h.ok, h.num⟩
theorem OwnLs.base {w : World} {base b2 : Nat} {a : Option Addr} {c : Nat} {ls : List Lv} (h : OwnLs w base a c ls) (hb : b2 ≤ base) : OwnLs w b2 a c ls := ⟨owns_base h.1 hb, fun v hv => (h.2 v hv).base hb⟩
theorem OwnT.base {w : World} {base b2 : Nat} (hb : b2 ≤ base) : ∀ {n : Nat} {a : Option Addr} {c : Nat} {T : List Nd}, OwnT w base n a c T → OwnT w b2 n a c T
  | 0, _, _, _, h => ⟨h.1, owns_base h.2 hb⟩
  | n + 1, _, _, _, h => ⟨owns_base h.1 hb, fun x hx => ⟨(h.2 x hx).1.base hb, OwnT.base hb (h.2 x hx).2⟩⟩
theorem OwnLs.rd {w : World} {base : Nat} {a : Option Addr} {c : Nat} {ls : List Lv} (h : OwnLs w base a c ls) : LvsRd w a c ls := ⟨OwnF.sl h.1, fun v hv => ⟨⟨OwnI.its (h.2 v hv).its, OwnD.vec (h.2 v hv).tms, (h.2 v hv).ok⟩, (h.2 v hv).num⟩⟩
theorem OwnT.rd {w : World} {base : Nat} : ∀ {n : Nat} {a : Option Addr} {c : Nat} {T : List Nd}, OwnT w base n a c T → TrRd w n a c T
  | 0, _, _, _, h => ⟨h.1, by have := OwnN.sl h.2; exact this⟩
  | n + 1, _, _, _, h => ⟨OwnN.sl h.1, fun x hx => ⟨(h.2 x hx).1.rd, OwnT.rd (h.2 x hx).2⟩⟩
/-- all rows are so long at the most -/
def BdA (b : Nat) : Nat → List Nd → Prop
  | 0, T => T.length ≤ b
  | n + 1, T => T.length ≤ b ∧ ∀ x ∈ T, x.ls.length ≤ b ∧ (∀ v ∈ x.ls, v.l.items.length ≤ b ∧ v.l.tombs.length ≤ b) ∧ BdA b n x.kids
theorem BdA.len {b : Nat} : ∀ {n : Nat} {T : List Nd}, BdA b n T → T.length ≤ b
  | 0, _, h => h
  | _ + 1, _, h => h.1
/-! the same content -/
def sameT : Nat → List Nd → List Nd → Prop
  | 0, T, U => T = [] ∧ U = []
  | n + 1, T, U => T.length = U.length ∧ ∀ (i : Nat) (x y : Nd), T[i]? = some x → U[i]? = some y → x.name = y.name ∧ x.ls.map (·.l) = y.ls.map (·.l) ∧ sameT n x.kids y.kids
theorem MayLs.same {l m : List Lv} (h : MayLs l) (e : l.map (·.l) = m.map (·.l)) : MayLs m := by
  have h1 : ∀ x ∈ l.map (·.l), MayLf x := fun x hx => by obtain ⟨v, hv, rfl⟩ := List.mem_map.1 hx; exact h.1 v hv
  have h2 : (l.map (fun v : Lv => v.l)).Pairwise (fun a b : Lf => a.k < b.k) := List.pairwise_map.2 h.2
  rw [e] at h1 h2
  exact ⟨fun v hv => h1 _ (List.mem_map.2 ⟨v, hv, rfl⟩), (List.pairwise_map (f := fun v : Lv => v.l) (R := fun a b : Lf => a.k < b.k)).1 h2⟩
theorem MayT.same : ∀ {n : Nat} {T U : List Nd}, MayT n T → sameT n T U → MayT n U
  | 0, _, _, _, hs => hs.2
  | n + 1, T, U, h, hs => by
    obtain ⟨hl, he⟩ := hs
    have hat : ∀ i (y : Nd), U[i]? = some y → ∃ x, T[i]? = some x := fun i y hy => by
      have := (List.getElem?_eq_some_iff.1 hy).1
      exact ⟨T[i]'(by omega), List.getElem?_eq_getElem (by omega)⟩
    refine ⟨?_, fun y hy => ?_⟩
    · unfold risesN
      rw [List.pairwise_iff_getElem]
      intro i j hi hj hij
      have h1 := List.pairwise_iff_getElem.1 h.1 i j (by omega) (by omega) hij
      rw [(he i _ _ (List.getElem?_eq_getElem (by omega)) (List.getElem?_eq_getElem hi)).1, (he j _ _ (List.getElem?_eq_getElem (by omega)) (List.getElem?_eq_getElem hj)).1] at h1
      exact h1
    · obtain ⟨i, hi⟩ := List.getElem?_of_mem hy
      obtain ⟨x, hx⟩ := hat i y hi
      obtain ⟨e1, e2, e3⟩ := he i x y hx hi
      obtain ⟨h1, h2, h3, h4⟩ := h.2 x (List.mem_of_getElem? hx)
      refine ⟨e1 ▸ h1, ?_, MayT.same h3 e3, h4.same e2⟩
      rcases h2 with h2 | h2
      · left
        intro e
        rw [e, List.map_nil, List.map_eq_nil_iff] at e2
        exact h2 e2
      · right
        intro e
        apply h2
        cases n with
        | zero => exact e3.1
        | succ n => have := e3.1; rw [e] at this; exact List.eq_nil_of_length_eq_zero this
end Go.Proofs.YtaandcblndldmaaGreat

/- OwtB -/
namespace Go.Proofs.YtaandcblndldmaaGreat
open Go.RowKit
set_option linter.unusedVariables false
set_option linter.unusedSimpArgs false

/-- rows of one's own of different types lie apart -/
theorem owns_dif2 {w : World} {base base' : Nat} {e e' : TypeId} {size size' : Nat} {a b : Option Addr} {n c m n' c' m' : Nat} {xs ys : List Value} (h : w.ownsRow base e size (.slice a n c) m xs) (k : w.ownsRow base' e' size' (.slice b n' c') m' ys) (hne : e ≠ e') : ∀ q ∈ ob a, q ∉ ob b := by
  intro q hq hm
  rcases h.2 with ⟨h2, _⟩ | ⟨g, cap, cur, h2, _, hg, _⟩
  · injection h2 with h2
    subst h2
    simp [ob] at hq
  · rcases k.2 with ⟨k2, _⟩ | ⟨g', cap', cur', k2, _, hg', _⟩
    · injection k2 with k2
      subst k2
      simp [ob] at hm
    · injection h2 with h2
      injection k2 with k2
      subst h2 k2
      simp [ob] at hq hm
      subst hq
      subst hm
      rw [hg] at hg'
      injection hg' with hg'
      injection hg' with _ h3
      exact hne h3
theorem lv_set2 {x y : Value} {u v : Lv} (hu : lvcell u = ((lvcell v).set 7 x).set 8 y) : ∀ {N : List Lv} {r : Nat}, N[r]? = some v → ((N.flatMap lvcell).set (r * 9 + 7) x).set (r * 9 + 8) y = (N.set r u).flatMap lvcell
  | [], r, h => by simp at h
  | z :: N, 0, h => by
    simp at h
    subst h
    have hl := lvcell_len z
    rw [List.flatMap_cons, List.set_cons_zero, List.flatMap_cons, hu, List.set_append_left _ _ (by omega), List.set_append_left _ _ (by rw [List.length_set]; omega)]
  | z :: N, r + 1, h => by
    have hl := lvcell_len z
    have ih := lv_set2 hu (N := N) (r := r) (by simpa using h)
    rw [List.flatMap_cons, List.set_cons_succ, List.flatMap_cons, List.set_append_right _ _ (by omega), List.set_append_right _ _ (by omega), hl, show (r + 1) * 9 + 7 - 9 = r * 9 + 7 by omega, show (r + 1) * 9 + 8 - 9 = r * 9 + 8 by omega, ih]
theorem nd_set3 {x y z : Value} {u v : Nd} (hu : ndcell u = (((ndcell v).set 0 x).set 1 y).set 2 z) : ∀ {N : List Nd} {r : Nat}, N[r]? = some v → (((N.flatMap ndcell).set (r * 3) x).set (r * 3 + 1) y).set (r * 3 + 2) z = (N.set r u).flatMap ndcell
  | [], r, h => by simp at h
  | n :: N, 0, h => by
    simp at h
    subst h
    have hl := ndcell_len n
    rw [List.flatMap_cons, List.set_cons_zero, List.flatMap_cons, hu, Nat.zero_mul, List.set_append_left _ _ (by omega), List.set_append_left _ _ (by rw [List.length_set]; omega), List.set_append_left _ _ (by rw [List.length_set, List.length_set]; omega)]
  | n :: N, r + 1, h => by
    have hl := ndcell_len n
    have ih := nd_set3 hu (N := N) (r := r) (by simpa using h)
    rw [List.flatMap_cons, List.set_cons_succ, List.flatMap_cons, List.set_append_right _ _ (by omega), List.set_append_right _ _ (by omega), List.set_append_right _ _ (by omega), hl, show (r + 1) * 3 - 3 = r * 3 by omega, show (r + 1) * 3 + 1 - 3 = r * 3 + 1 by omega, show (r + 1) * 3 + 2 - 3 = r * 3 + 2 by omega, ih]
/-- a row of leaves while each is made one's own -/
structure LsE (base : Nat) (wr : World) (a : Option Addr) (c : Nat) (ls N : List Lv) (r : Nat) : Prop where
  len : N.length = ls.length
  row : OwnF wr base a c N
  done : ∀ (i : Nat) (v u : Lv), i < r → ls[i]? = some v → N[i]? = some u → u.l = v.l ∧ OwnLv wr base u
  rest : N.drop r = ls.drop r
theorem LsE.start {base : Nat} {wr : World} {a : Option Addr} {c : Nat} {ls : List Lv} (h : OwnF wr base a c ls) : LsE base wr a c ls ls 0 := ⟨rfl, h, fun i v u hi => absurd hi (Nat.not_lt_zero _), rfl⟩
theorem OwnLv.below {w w' : World} {base : Nat} {v : Lv} (h : OwnLv w base v) (hb : Below w.heap.size w w') : OwnLv w' base v := h.chg (F := []) (Chg.of_below hb) (fun k hk => by cases hk)
theorem LsE.below {base : Nat} {wr w2 : World} {a : Option Addr} {c : Nat} {ls N : List Lv} {r : Nat} (h : LsE base wr a c ls N r) (hb : Below wr.heap.size wr w2) : LsE base w2 a c ls N r :=
  ⟨h.len, h.row.below hb, fun i v u hi h1 h2 => ⟨(h.done i v u hi h1 h2).1, (h.done i v u hi h1 h2).2.below hb⟩, h.rest⟩
theorem LsE.at_ {base : Nat} {wr : World} {a : Option Addr} {c : Nat} {ls N : List Lv} {r : Nat} (h : LsE base wr a c ls N r) {v : Lv} (hv : ls[r]? = some v) : N[r]? = some v := by
  have h1 : (N.drop r)[0]? = (ls.drop r)[0]? := by rw [h.rest]
  simpa [List.getElem?_drop, hv] using h1
theorem lf_ne_item : 178 ≠ 180 := by decide
theorem lf_ne_dot : 178 ≠ 49 := by decide
theorem OwnLv.put {w : World} {base g : Nat} {v : Lv} {c : Nat} {N : List Lv} (h : OwnLv w base v) (hr : OwnF w base (some ⟨g, 0, none⟩) c N) {w' : World} (hc : Chg [g] w w') : OwnLv w' base v :=
  ⟨owns_chg h.its hc (fun k hk hm => owns_dif2 hr h.its lf_ne_item k (by simp at hm; subst hm; simp [ob]) hk), owns_chg h.tms hc (fun k hk hm => owns_dif2 hr h.tms lf_ne_dot k (by simp at hm; subst hm; simp [ob]) hk), h.ok, h.num⟩
theorem LsE.step {base : Nat} {wr : World} {g c : Nat} {ls N : List Lv} {r : Nat} {v : Lv} {ai ta : Option Addr} {ci tc : Nat} (h : LsE base wr (some ⟨g, 0, none⟩) c ls N r) (hv : ls[r]? = some v) (hi : OwnI wr base ai ci v.l.items) (ht : OwnD wr base ta tc v.l.tombs) (hok : okL v.l) (hn : IntKind.wrap .i64 v.l.n = v.l.n) :
    LsE base ((wr.setCell ⟨g, r * 9 + 7, none⟩ (.slice ai v.l.items.length ci)).setCell ⟨g, r * 9 + 8, none⟩ (.slice ta v.l.tombs.length tc)) (some ⟨g, 0, none⟩) c ls (N.set r ⟨v.l, ai, ci, ta, tc⟩) (r + 1) ∧
      Chg [g] wr ((wr.setCell ⟨g, r * 9 + 7, none⟩ (.slice ai v.l.items.length ci)).setCell ⟨g, r * 9 + 8, none⟩ (.slice ta v.l.tombs.length tc)) := by
  have hc : Chg [g] wr ((wr.setCell ⟨g, r * 9 + 7, none⟩ (.slice ai v.l.items.length ci)).setCell ⟨g, r * 9 + 8, none⟩ (.slice ta v.l.tombs.length tc)) := ((Chg.refl _ _).put _ _ (by simp)).put _ _ (by simp)
  have hat := h.at_ hv
  have hrl : r < N.length := (List.getElem?_eq_some_iff.1 hat).1
  refine ⟨⟨by rw [List.length_set]; exact h.len, ?_, fun i y u hi' h1 h2 => ?_, ?_⟩, hc⟩
  · have h1 := (World.ownsRow.stored (World.ownsRow.stored h.row (r * 9 + 7) (.slice ai v.l.items.length ci)).1 (r * 9 + 8) (.slice ta v.l.tombs.length tc)).1
    unfold OwnF
    rw [List.length_set, ← lv_set2 (v := v) (u := ⟨v.l, ai, ci, ta, tc⟩) rfl hat]
    exact h1
  · rw [List.getElem?_set] at h2
    by_cases e : r = i
    · subst e
      rw [if_pos rfl, if_pos hrl] at h2
      cases h2
      rw [hv] at h1
      cases h1
      exact ⟨rfl, (OwnLv.mk hi ht hok hn : OwnLv wr base ⟨v.l, ai, ci, ta, tc⟩).put h.row hc⟩
    · rw [if_neg e] at h2
      have h3 := h.done i y u (by omega) h1 h2
      exact ⟨h3.1, h3.2.put h.row hc⟩
  · rw [List.drop_set_of_lt (by omega)]
    have := congrArg (List.drop 1) h.rest
    simpa [List.drop_drop, Nat.add_comm] using this
theorem LsE.fin {base : Nat} {wr : World} {a : Option Addr} {c : Nat} {ls N : List Lv} (h : LsE base wr a c ls N ls.length) : OwnLs wr base a c N ∧ N.map (·.l) = ls.map (·.l) := by
  have hat : ∀ (i : Nat) (u : Lv), N[i]? = some u → ∃ v : Lv, ls[i]? = some v ∧ u.l = v.l ∧ OwnLv wr base u := fun i u hu => by
    have hi := (List.getElem?_eq_some_iff.1 hu).1
    rw [h.len] at hi
    have hv := List.getElem?_eq_getElem hi
    exact ⟨_, hv, h.done i _ u hi hv hu⟩
  refine ⟨⟨h.row, fun u hu => ?_⟩, ?_⟩
  · obtain ⟨i, hi⟩ := List.getElem?_of_mem hu
    obtain ⟨v, _, _, h3⟩ := hat i u hi
    exact h3
  · apply List.ext_getElem?
    intro i
    rw [List.getElem?_map, List.getElem?_map]
    by_cases hi : i < N.length
    · obtain ⟨v, h1, h2, _⟩ := hat i _ (List.getElem?_eq_getElem hi)
      rw [List.getElem?_eq_getElem hi, h1]
      simp [h2]
    · rw [List.getElem?_eq_none (by omega), List.getElem?_eq_none (by rw [← h.len]; omega)]
/-! nodes -/
/-- a row of nodes while each is made one's own -/
structure OtE (base b1 : Nat) (wr : World) (a : Option Addr) (c : Nat) (f : Nat) (T M : List Nd) (q : Nat) : Prop where
  len : M.length = T.length
  row : OwnN wr base a c M
  low : ∀ k ∈ ob a, k < b1
  done : ∀ (i : Nat) (x y : Nd), i < q → T[i]? = some x → M[i]? = some y → x.name = y.name ∧ x.ls.map (·.l) = y.ls.map (·.l) ∧ sameT f x.kids y.kids ∧ OwnLs wr b1 y.la y.lc y.ls ∧ OwnT wr b1 f y.ba y.bc y.kids
  rest : M.drop q = T.drop q
theorem OtE.start {base b1 : Nat} {wr : World} {a : Option Addr} {c f : Nat} {T : List Nd} (h : OwnN wr base a c T) (hl : ∀ k ∈ ob a, k < b1) : OtE base b1 wr a c f T T 0 := ⟨rfl, h, hl, fun i x y hi => absurd hi (Nat.not_lt_zero _), rfl⟩
theorem OtE.below {base b1 : Nat} {wr w2 : World} {a : Option Addr} {c f : Nat} {T M : List Nd} {q : Nat} (h : OtE base b1 wr a c f T M q) (hb : Below wr.heap.size wr w2) : OtE base b1 w2 a c f T M q :=
  ⟨h.len, h.row.below hb, h.low, fun i x y hi h1 h2 => by obtain ⟨e1, e2, e3, e4, e5⟩ := h.done i x y hi h1 h2; exact ⟨e1, e2, e3, e4.below hb, e5.below hb⟩, h.rest⟩
theorem OtE.at_ {base b1 : Nat} {wr : World} {a : Option Addr} {c f : Nat} {T M : List Nd} {q : Nat} (h : OtE base b1 wr a c f T M q) {x : Nd} (hx : T[q]? = some x) : M[q]? = some x := by
  have h1 : (M.drop q)[0]? = (T.drop q)[0]? := by rw [h.rest]
  simpa [List.getElem?_drop, hx] using h1
theorem OtE.step {base b1 : Nat} {wr : World} {g c f : Nat} {T M : List Nd} {q : Nat} {x : Nd} {la ba : Option Addr} {lc bc : Nat} {N : List Lv} {U : List Nd} (h : OtE base b1 wr (some ⟨g, 0, none⟩) c f T M q) (hx : T[q]? = some x)
    (hl : OwnLs wr b1 la lc N) (hN : N.map (·.l) = x.ls.map (·.l)) (hk : OwnT wr b1 f ba bc U) (hU : sameT f x.kids U) :
    OtE base b1 (((wr.setCell ⟨g, q * 3, none⟩ (.string x.name)).setCell ⟨g, q * 3 + 1, none⟩ (.slice la N.length lc)).setCell ⟨g, q * 3 + 2, none⟩ (.slice ba U.length bc)) (some ⟨g, 0, none⟩) c f T (M.set q (.mk x.name la lc N ba bc U)) (q + 1) ∧
      Chg [g] wr (((wr.setCell ⟨g, q * 3, none⟩ (.string x.name)).setCell ⟨g, q * 3 + 1, none⟩ (.slice la N.length lc)).setCell ⟨g, q * 3 + 2, none⟩ (.slice ba U.length bc)) := by
  have hc : Chg [g] wr (((wr.setCell ⟨g, q * 3, none⟩ (.string x.name)).setCell ⟨g, q * 3 + 1, none⟩ (.slice la N.length lc)).setCell ⟨g, q * 3 + 2, none⟩ (.slice ba U.length bc)) := (((Chg.refl _ _).put _ _ (by simp)).put _ _ (by simp)).put _ _ (by simp)
  have hF : ∀ k ∈ [g], k < b1 := fun k hk => by rw [List.mem_singleton] at hk; subst hk; exact h.low _ (by simp [ob])
  have hat := h.at_ hx
  have hql : q < M.length := (List.getElem?_eq_some_iff.1 hat).1
  refine ⟨⟨by rw [List.length_set]; exact h.len, ?_, h.low, fun i y z hi h1 h2 => ?_, ?_⟩, hc⟩
  · have h1 := (World.ownsRow.stored (World.ownsRow.stored (World.ownsRow.stored h.row (q * 3) (.string x.name)).1 (q * 3 + 1) (.slice la N.length lc)).1 (q * 3 + 2) (.slice ba U.length bc)).1
    unfold OwnN
    rw [List.length_set, ← nd_set3 (v := x) (u := .mk x.name la lc N ba bc U) rfl hat]
    exact h1
  · rw [List.getElem?_set] at h2
    by_cases e : q = i
    · subst e
      rw [if_pos rfl, if_pos hql] at h2
      cases h2
      rw [hx] at h1
      cases h1
      exact ⟨rfl, hN.symm, hU, hl.chg hc hF, hk.chg hc hF⟩
    · rw [if_neg e] at h2
      obtain ⟨e1, e2, e3, e4, e5⟩ := h.done i y z (by omega) h1 h2
      exact ⟨e1, e2, e3, e4.chg hc hF, e5.chg hc hF⟩
  · rw [List.drop_set_of_lt (by omega)]
    have := congrArg (List.drop 1) h.rest
    simpa [List.drop_drop, Nat.add_comm] using this
theorem OtE.fin {base b1 : Nat} {wr : World} {a : Option Addr} {c f : Nat} {T M : List Nd} (h : OtE base b1 wr a c f T M T.length) (hb : base ≤ b1) : OwnT wr base (f + 1) a c M ∧ sameT (f + 1) T M := by
  refine ⟨⟨h.row, fun y hy => ?_⟩, h.len.symm, fun i x y h1 h2 => ?_⟩
  · obtain ⟨i, hi⟩ := List.getElem?_of_mem hy
    have hil := (List.getElem?_eq_some_iff.1 hi).1
    rw [h.len] at hil
    obtain ⟨_, _, _, e4, e5⟩ := h.done i _ y hil (List.getElem?_eq_getElem hil) hi
    exact ⟨e4.base hb, e5.base hb⟩
  · obtain ⟨e1, e2, e3, _, _⟩ := h.done i x y (List.getElem?_eq_some_iff.1 h1).1 h1 h2
    exact ⟨e1, e2, e3⟩
end Go.Proofs.YtaandcblndldmaaGreat
