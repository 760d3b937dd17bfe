/- The reference's All, Same. -/
import Derived.Test.YtkgbdgnfidpelaaRefC
namespace Go.Proofs.Ytkgbdgnfidpelaa
open Go.RowKit
set_option linter.unusedVariables false
set_option linter.unusedSimpArgs false

theorem own_adr {w : World} {base : Nat} {e : TypeId} {size : Nat} {oa : Option Addr} {n oc : Nat} {xs : List Value} (h : w.ownsRow base e size (.slice oa n oc) n xs) : ∀ ad, oa = some ad → ∃ g, ad = ⟨g, 0, none⟩ := by
  intro ad had
  subst had
  rcases h.2 with ⟨h1, _⟩ | ⟨g, cap, cur, h1, _⟩
  · simp at h1
  · simp at h1; exact ⟨g, h1.1⟩
/-- letters that can be read -/
structure Ls (w : World) (N : List Ml) (oa : Option Addr) (oc : Nat) : Prop where
  row : Sl w 2 oa N.length oc (acells N)
  bytes : ∀ x ∈ N, Sl w 1 x.2.1 x.1.b.length x.2.2 (u8s x.1.b)
  adr : ∀ ad, oa = some ad → ∃ g, ad = ⟨g, 0, none⟩
theorem Ls.below {w w' : World} {N : List Ml} {oa : Option Addr} {oc : Nat} (h : Ls w N oa oc) (hb : Below w.heap.size w w') : Ls w' N oa oc :=
  ⟨h.row.below hb, fun x hx => (h.bytes x hx).below hb, h.adr⟩
theorem AllAt.ls {w : World} {B : Nat} {N : List Ml} {oa : Option Addr} {oc : Nat} (h : AllAt w B N oa oc) : Ls w N oa oc :=
  ⟨Sl.of_owns h.row, fun x hx => Sl.of_owns (h.bytes x hx), own_adr h.row⟩
theorem acells_at (x : Ml) : ∀ (N : List Ml) (i : Nat), N[i]? = some x → (acells N)[i * 2]? = some (.int .u8 x.1.t) ∧ (acells N)[i * 2 + 1]? = some (.slice x.2.1 x.1.b.length x.2.2) := by
  intro N
  induction N with
  | nil => intro i h; simp at h
  | cons y N ih =>
    intro i h
    cases i with
    | zero => simp at h; subst h; simp [acells, acell]
    | succ i =>
      simp at h
      have := ih i h
      have e : ∀ k, (acells (y :: N))[(i + 1) * 2 + k]? = (acells N)[i * 2 + k]? := fun k => by
        simp only [acells, List.flatMap_cons]
        rw [List.getElem?_append_right (by simp [acell]; omega)]
        congr 1
        simp [acell]; omega
      have e0 := e 0
      simp only [Nat.add_zero] at e0
      rw [e0, e 1]; exact this
theorem acells_one (N : List Ml) : ∀ u ∈ acells N, u.oneCell' = true := by
  intro u hu
  obtain ⟨x, _, hx⟩ := List.mem_flatMap.1 hu
  simp [acell] at hx
  rcases hx with rfl | rfl <;> rfl
theorem Ls.at {w : World} {N : List Ml} {oa : Option Addr} {oc i : Nat} {x : Ml} (h : Ls w N oa oc) (hx : N[i]? = some x) : ∃ g, oa = some ⟨g, 0, none⟩ ∧ w.cell? ⟨g, i * 2, none⟩ = some (.int .u8 x.1.t) ∧ w.cell? ⟨g, i * 2 + 1, none⟩ = some (.slice x.2.1 x.1.b.length x.2.2) ∧ g < w.heap.size := by
  have hi : i < N.length := by
    rcases Nat.lt_or_ge i N.length with h | h
    · exact h
    · rw [List.getElem?_eq_none h] at hx; cases hx
  obtain ⟨k1, k2⟩ := acells_at x N i hx
  obtain ⟨h1, h2, h3, ⟨_, h4, _⟩ | ⟨b, rfl, h4⟩⟩ := h.row
  · omega
  · obtain ⟨g, rfl⟩ := h.adr b rfl
    have hadd : ∀ j, (⟨g, 0, none⟩ : Addr).add j = ⟨g, j, none⟩ := fun j => by unfold Addr.add; split <;> simp_all
    have c1 := h4 _ _ k1
    have c2 := h4 _ _ k2
    rw [hadd] at c1 c2
    exact ⟨g, rfl, c1, c2, World.block_lt_of_cell? w _ c1⟩

set_option maxHeartbeats 2000000 in
theorem same_eq (N1 N2 : List Ml) (o1 o2 : Option Addr) (c1 c2 : Nat) (w : World) (h1 : Ls w N1 o1 c1) (h2 : Ls w N2 o2 c2) (he : N1.map (fun x => (x.1.t, x.1.b)) = N2.map (fun x => (x.1.t, x.1.b))) (hm : N1.length ≤ 1000000) :
    Calls Try.prog 16 #[.slice o1 N1.length c1, .slice o2 N2.length c2] w fun e w' => e = .returned (.bool true) ∧ Below w.heap.size w w' := by
  have hlen : N2.length = N1.length := by have := congrArg List.length he; simpa using this.symm
  have H1 := Lib.hid h1
  have H2 := Lib.hid h2
  have He := Lib.hid he
  rw [hlen]
  clear h1 h2 he
  go_enter Try.func16, Try.ntmps16
  go_wp2_with fail
  go_loopw [5] (fun s wr => ∃ k : Nat, k ≤ N1.length ∧ s = .int .i64 k ∧ Below w.heap.size w wr) (fun s _ => N1.length - (intOf s).toNat)
  case atStart => exact ⟨0, Nat.zero_le _, rfl, Below.refl _ _⟩
  case round =>
    obtain ⟨k, hk, rfl, hbel⟩ := hrel
    by_cases hlt : k < N1.length
    · have hlt' : (k : Int) < (N1.length : Int) := by omega
      have hx1 : ∃ x, N1[k]? = some x := ⟨N1[k], by simp [hlt]⟩
      obtain ⟨⟨⟨t1, b1, ch1⟩, xa1, xc1⟩, hx1⟩ := hx1
      have hx2 : ∃ x, N2[k]? = some x := ⟨N2[k], by simp [hlen, hlt]⟩
      obtain ⟨⟨⟨t2, b2, ch2⟩, xa2, xc2⟩, hx2⟩ := hx2
      have hee : t1 = t2 ∧ b1 = b2 := by
        have := congrArg (fun l => l[k]?) He.out
        simp only [List.getElem?_map, hx1, hx2, Option.map_some, Option.some.injEq, Prod.mk.injEq] at this
        exact this
      obtain ⟨rfl, rfl⟩ := hee
      obtain ⟨g1, rfl, e1, e2, l1⟩ := (H1.out.below hbel).at hx1
      obtain ⟨g2, rfl, e3, e4, l2⟩ := (H2.out.below hbel).at hx2
      dsimp only at e1 e2 e3 e4
      have hcv1 := conv_str (((H1.out.below hbel).bytes _ (List.mem_of_getElem? hx1)).below (Below.refl _ _).drew)
      have hcv2 := conv_str (((H2.out.below hbel).bytes _ (List.mem_of_getElem? hx2)).below (Below.refl _ _).drew)
      dsimp only at hcv1 hcv2
      have Hbel := Lib.hid hbel
      clear hx1 hx2 hbel
      go_wp2_with fail
      refine region_text [([0, 1, 2, 3, 4, 5, 6, 7, 8, 9, 10, 11, 12, 13, 14, 15, 16, 17, 18, 19, 20, 21, 22, 23, 24, 25], false)] mixed (by kernel_rfl) ?_
      simp only [wpSegs, List.map_cons, List.map_nil, List.getD_cons_succ, List.getD_cons_zero]
      go_wp2_with fail
      refine And.intro (by kernel_rfl) ?_
      go_wp2_with fail
      go_roundw
      case rel => exact ⟨k + 1, by omega, by simp, Hbel.out.drew⟩
      case measure => simp [intOf]; omega
    · have hlt' : ¬ (k : Int) < (N1.length : Int) := by omega
      have Hbel := Lib.hid hbel
      clear hbel
      go_wp2_with fail
      go_ret
      exact ⟨rfl, Hbel.out⟩
end Go.Proofs.Ytkgbdgnfidpelaa
