/- Maps of numbers by actors; dot.numbers. -/
import Derived.Test.YtblahapjdgncfaaDotB
import Derived.Test.YtblahapjdgncfaaOpen
namespace Go.Proofs.Ytblahapjdgncfaa
open Go.RowKit
set_option linter.unusedVariables false
set_option linter.unusedSimpArgs false

/-- the cells of dots -/
def dcell (d : Dt) : List Value := [.int .u8 d.1.1, .int .u32 d.1.2, .int .u64 d.2]
def dcells (v : List Dt) : List Value := v.flatMap dcell
theorem dcells_length (v : List Dt) : (dcells v).length = v.length * 3 := by
  induction v with
  | nil => rfl
  | cons x v ih => simp only [dcells, List.flatMap_cons, List.length_append, List.length_cons] at ih ⊢; rw [ih]; simp [dcell]; omega
theorem dcells_snoc (v : List Dt) (d : Dt) : dcells (v ++ [d]) = dcells v ++ dcell d := by simp [dcells]
theorem dcells_append (v u : List Dt) : dcells (v ++ u) = dcells v ++ dcells u := by simp [dcells]
theorem dcells_one (v : List Dt) : ∀ u ∈ dcells v, u.oneCell' = true := by
  intro u hu
  obtain ⟨d, _, hd⟩ := List.mem_flatMap.1 hu
  simp [dcell] at hd
  rcases hd with rfl | rfl | rfl <;> rfl
theorem dcells_at {v : List Dt} {k : Nat} {d : Dt} (h : v[k]? = some d) : ∀ j, j < 3 → (dcells v)[k * 3 + j]? = (dcell d)[j]? := by
  induction v generalizing k with
  | nil => simp at h
  | cons x v ih =>
    intro j hj
    cases k with
    | zero =>
      simp at h
      subst h
      simp only [dcells, List.flatMap_cons]
      rw [List.getElem?_append_left (by simp [dcell]; omega)]
      congr 1; omega
    | succ k =>
      simp at h
      have := ih h j hj
      simp only [dcells, List.flatMap_cons] at this ⊢
      rw [List.getElem?_append_right (by simp [dcell]; omega), ← this]
      congr 1; simp [dcell]; omega
/-- a slice that reads as the vector v -/
def Vec (w : World) (a : Option Addr) (c : Nat) (v : List Dt) : Prop := Sl w 3 a v.length c (dcells v)
theorem Vec.below {w w' : World} {a : Option Addr} {c : Nat} {v : List Dt} (h : Vec w a c v) (hb : Below w.heap.size w w') : Vec w' a c v := Sl.below h hb
theorem Vec.at {w : World} {a : Option Addr} {c : Nat} {v : List Dt} (h : Vec w a c v) {k : Nat} {d : Dt} (hd : v[k]? = some d) :
    ∃ ad, a = some ad ∧ w.cell? (ad.add (k * 3)) = some (.int .u8 d.1.1) ∧ w.cell? ⟨(ad.add (k * 3)).block, (ad.add (k * 3)).off + 1, none⟩ = some (.int .u32 d.1.2) ∧ w.cell? ⟨(ad.add (k * 3)).block, (ad.add (k * 3)).off + 2, none⟩ = some (.int .u64 d.2) ∧ ad.block < w.heap.size := by
  have hk : k < v.length := (List.getElem?_eq_some_iff.1 hd).1
  obtain ⟨_, _, _, ⟨_, h0, _⟩ | ⟨ad, rfl, hc⟩⟩ := h
  · omega
  · have h0 := hc (k * 3) (.int .u8 d.1.1) (by simpa [dcell] using dcells_at hd 0 (by omega))
    have h1 := hc (k * 3 + 1) (.int .u32 d.1.2) (by simpa [dcell] using dcells_at hd 1 (by omega))
    have h2 := hc (k * 3 + 2) (.int .u64 d.2) (by simpa [dcell] using dcells_at hd 2 (by omega))
    rw [← Go.Deep.add_add] at h1 h2
    have e1 : (ad.add (k * 3)).add 1 = ⟨(ad.add (k * 3)).block, (ad.add (k * 3)).off + 1, none⟩ := rfl
    have e2 : (ad.add (k * 3)).add 2 = ⟨(ad.add (k * 3)).block, (ad.add (k * 3)).off + 2, none⟩ := rfl
    refine ⟨ad, rfl, h0, e1 ▸ h1, e2 ▸ h2, ?_⟩
    have := World.block_lt_of_cell? w _ h0
    have hb : (ad.add (k * 3)).block = ad.block := by unfold Addr.add; split <;> rfl
    rwa [hb] at this

/-- a map of numbers that reads as g -/
def NumsAt (w : World) (b n : Nat) (g : Ac → Int) : Prop :=
  ∃ f, MapF w Try.prog 31 mkA b n f ∧ ∀ a, okA a → (f a = none ∧ g a = 0) ∨ f a = some (.int .u64 (g a))
theorem NumsAt.made (w : World) : NumsAt (w.alloc (.map #[] 0)) w.heap.size 0 (fun _ => 0) := ⟨_, MapF.made w, fun a _ => .inl ⟨rfl, rfl⟩⟩
theorem NumsAt.lt {w : World} {b n : Nat} {g : Ac → Int} (h : NumsAt w b n g) : b < w.heap.size := by obtain ⟨f, h, _⟩ := h; exact h.lt
theorem NumsAt.chg {F : List Nat} {w w' : World} {b n : Nat} {g : Ac → Int} (h : NumsAt w b n g) (hc : Chg F w w') (hb : b ∉ F) : NumsAt w' b n g := by
  obtain ⟨f, h1, h2⟩ := h
  exact ⟨f, h1.chg hc hb, h2⟩
theorem NumsAt.below {w w' : World} {b n : Nat} {g : Ac → Int} (h : NumsAt w b n g) (hb : Below w.heap.size w w') : NumsAt w' b n g := h.chg (F := []) (Chg.of_below hb) (by simp)
theorem NumsAt.alloc {w : World} {b n : Nat} {g : Ac → Int} (h : NumsAt w b n g) (o : Obj) : NumsAt (w.alloc o) b n g := h.chg (F := []) (Chg.alloc _ _ _) (by simp)
theorem NumsAt.congr {w : World} {b n : Nat} {g g' : Ac → Int} (h : NumsAt w b n g) (hg : ∀ a, okA a → g a = g' a) : NumsAt w b n g' := by
  obtain ⟨f, h1, h2⟩ := h
  exact ⟨f, h1, fun a ha => by rw [← hg a ha]; exact h2 a ha⟩
theorem zeroU64 (w : World) : (zeroValue 32).run Try.prog w = .ok (.int .u64 0) w := Try.zeroValue32 w
section
variable {w : World} {ops : Array Oper} {rest : List Oper} {o : Oper} {a : Act} {Q : Exit → Act → World → Prop}
theorem wpList_look_N (hg : o.guard = none) (m x : Operand) (hop : o.op = Op.lookup 85 m x false) (b n : Nat) (g : Ac → Int)
    (hm : a.eval m = .map (some b)) (h : NumsAt w b n g) (r i : Int) (hx : a.eval x = .agg #[.int .u8 r, .int .u32 i]) (hk : okA (r, i))
    (hK : wpList Try.prog ops Q rest (a.put o.dst (.int .u64 (g (r, i)))) w) : wpList Try.prog ops Q (o :: rest) a w := by
  obtain ⟨f, h1, h2⟩ := h
  obtain ⟨l, hl⟩ := keyA_ok hk
  refine wpList_look_F keysA hg m x _ hop _ Try.underlying85 (.int .u64 0) zeroU64 b n f hm h1 (r, i) l hx hl ?_
  rcases h2 _ hk with ⟨h3, h4⟩ | h3
  · rw [h3, ← h4]; rw [h4] at hK; simpa [h4] using hK
  · rw [h3]; exact hK
theorem wpList_update_N (hg : o.guard = none) (m x v : Operand) (hop : o.op = Op.mapUpdate 85 m x v) (b n : Nat) (g : Ac → Int)
    (hm : a.eval m = .map (some b)) (h : NumsAt w b n g) (hn : n < 1000000000) (r i u : Int) (hx : a.eval x = .agg #[.int .u8 r, .int .u32 i]) (hk : okA (r, i)) (hv : a.eval v = .int .u64 u)
    (hK : ∀ w', NumsAt w' b (n + 1) (fun x => if x = (r, i) then u else g x) → Chg [b] w w' → wpList Try.prog ops Q rest (a.put o.dst undef) w') : wpList Try.prog ops Q (o :: rest) a w := by
  obtain ⟨f, h1, h2⟩ := h
  obtain ⟨l, hl⟩ := keyA_ok hk
  refine wpList_update_F keysA hg m x v _ hop _ Try.underlying85 b n f hm h1 (by unfold maxLen; omega) (r, i) l (.int .u64 u) hx hv hl ?_
  intro w' h3 h4
  refine hK w' ⟨_, h3, fun c hc => ?_⟩ (Chg.grown h4)
  by_cases e : c = (r, i)
  · simp [e]
  · simp only [e, if_false]; exact h2 c hc
end

theorem take_snoc' {α : Type} {v : List α} {k : Nat} {d : α} (h : v[k]? = some d) : v.take (k + 1) = v.take k ++ [d] := by
  obtain ⟨hk, rfl⟩ := List.getElem?_eq_some_iff.1 h
  rw [List.take_succ_eq_append_getElem hk]

set_option maxHeartbeats 1000000 in
theorem numbers_any (a : Option Addr) (c : Nat) (v : List Dt) (w : World) (hv : Vec w a c v) (hok : okV v) (hn : v.length ≤ 1000000) :
    Calls Try.prog 63 #[.slice a v.length c] w fun e w' => ∃ b n, e = .returned (.map (some b)) ∧ w.heap.size ≤ b ∧ n ≤ v.length ∧ NumsAt w' b n (getN v) ∧ Below w.heap.size w w' := by
  have hmm := @run_makeMap Try.prog
  have Hv := Lib.hid hv
  have Hok := Lib.hid hok
  clear hv hok
  go_enter Try.func63, Try.ntmps63
  go_wp2_with fail
  go_loopw [9] (fun i wr => ∃ k n : Nat, k ≤ v.length ∧ i = .int .i64 k ∧ n ≤ k ∧ NumsAt wr w.heap.size n (getN (v.take k)) ∧ Below w.heap.size w wr) (fun i _ => v.length - (intOf i).toNat)
  case atStart => exact ⟨0, 0, Nat.zero_le _, rfl, Nat.le_refl _, NumsAt.made w, (Below.refl _ _).alloc (Nat.le_refl _) _⟩
  case round =>
    obtain ⟨k, n, hk, rfl, hnk, hN, hB⟩ := hrel
    have HN := Lib.hid hN
    have hs := hB.size
    have HB := Lib.hid hB
    clear hN hB hmm
    by_cases hlt : k < v.length
    · obtain ⟨⟨⟨r, i⟩, s⟩, hx⟩ : ∃ x, v[k]? = some x := ⟨v[k], by simp [hlt]⟩
      obtain ⟨ad, had, c0, c1, c2, hlt0⟩ := (Hv.out.below HB.out).at hx
      have had' := had
      subst had'
      have hokd := Hok.out _ (List.mem_of_getElem? hx)
      have Hx := Lib.hid hx
      dsimp only at c0 c1 c2
      clear hx had
      go_wp2_with fail
      refine (may_any r i s _).mono ?_
      rintro e w1 ⟨rfl, hb⟩
      obtain ⟨hb0, hz, hB1⟩ := new1 hb
      have d0 := cells_at hb0
      clear hb hb0 c0 c1 c2
      have HN1 := Lib.hid (HN.out.below hB1)
      have HB1 := Lib.hid (HB.out.trans (hB1.mono hs))
      have hl1 := HN1.out.lt
      cases hm : may ((r, i), s) with
      | false =>
        have Hm := Lib.hid hm
        clear hm
        go_wp2_with fail
        go_roundw
        case rel => exact ⟨k + 1, n, by omega, by go_num, by omega, HN1.out.congr (fun a ha => by rw [take_snoc' Hx.out, getN_snoc, if_neg (by rw [Hm.out]; simp)]), HB1.out⟩
        case measure => simp [intOf]; omega
      | true =>
        have Hm := Lib.hid hm
        clear hm
        go_wp2_with fail
        refine region_text [([0, 1, 2, 3, 4, 5, 7, 8], false), ([6], true), ([9, 10], false)] mixed (by kernel_rfl) ?_
        simp only [wpSegs, List.map_cons, List.map_nil, List.getD_cons_succ, List.getD_cons_zero]
        go_wp2_with (at_lookup; go_must (refine wpList_look_N rfl _ _ rfl _ _ _ rfl HN1.out r i rfl hokd.1 ?_))
        refine And.intro (Agree.refl _) ?_
        go_wp2_with (at_mapUpdate; go_must (refine wpList_update_N rfl _ _ _ rfl _ _ _ rfl HN1.out (by omega) r i _ rfl hokd.1 rfl ?_))
        all_goals
          intro w2 hN2 hC2
          have HN2 := Lib.hid hN2
          have HB2 := Lib.hid (HB1.out.drew.trans (hC2.below (B := w.heap.size) (Nat.le_of_lt hl1) (by simp)))
          clear hN2 hC2 d0
          go_wp2_with fail
          refine And.intro (by kernel_rfl) ?_
          go_wp2_with fail
          go_roundw
          case rel =>
            refine ⟨k + 1, n + 1, by omega, by go_num, by omega, HN2.out.congr (fun a ha => ?_), HB2.out⟩
            rw [take_snoc' Hx.out, getN_snoc]
            by_cases e : a = (r, i)
            · subst e; rw [if_pos rfl, if_pos ⟨Hm.out, rfl⟩]; show _ = max _ s; omega
            · rw [if_neg e, if_neg (fun h => e h.2.symm)]
          case measure => simp [intOf]; omega
    · have e : v.take k = v := List.take_of_length_le (by omega)
      have HN' : Hid (NumsAt wr w.heap.size n (getN v)) := by have := HN.out; rw [e] at this; exact Lib.hid this
      clear e
      go_wp2_with fail
      go_ret
      exact ⟨_, n, rfl, Nat.le_refl _, by omega, HN'.out, HB.out⟩
end Go.Proofs.Ytblahapjdgncfaa
