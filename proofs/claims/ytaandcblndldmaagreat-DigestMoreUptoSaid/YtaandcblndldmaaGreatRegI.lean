/- A region of many orders by an invariant: one walk for each operation. -/
import Derived.Test.YtaandcblndldmaaGreatFilX
namespace Go.Proofs.YtaandcblndldmaaGreat.RegI
open Go.RowKit Go.Proofs.YtaandcblndldmaaGreat
set_option linter.unusedVariables false
set_option linter.unusedSimpArgs false

section
variable {P : Program} {ops : Array Oper} {Q : Exit → Act → World → Prop} {md : Region.Mode}
theorem getD_set {l : Array Bool} {i j : Nat} (d : Bool) (hi : i < l.size) : (l.setIfInBounds i true).getD j d = if j = i then true else l.getD j d := by
  by_cases e : j = i
  · subst e
    rw [if_pos rfl, Array.getD_eq_getD_getElem?]
    simp [hi]
  · rw [if_neg e, Array.getD_eq_getD_getElem?, Array.getD_eq_getD_getElem?, Array.getElem?_setIfInBounds_ne (Ne.symm e)]
theorem getD_any {l : Array Bool} {i : Nat} (hi : i < l.size) (d e : Bool) : l.getD i d = l.getD i e := by
  rw [Array.getD_eq_getD_getElem?, Array.getD_eq_getD_getElem?, Array.getElem?_eq_getElem hi]; rfl
theorem mem_ready {l : Array Bool} {i : Nat} : i ∈ Region.ready md ops l ↔ i < ops.size ∧ l.getD i true = false ∧ ∃ o, ops[i]? = some o ∧ ∀ e ∈ o.after, Region.binds md e = true → l.getD e.on false = true := by
  unfold Region.ready
  rw [List.mem_filter, List.mem_range]
  constructor
  · rintro ⟨h1, h2⟩
    obtain ⟨o, ho⟩ : ∃ o, ops[i]? = some o := ⟨ops[i], Array.getElem?_eq_getElem h1⟩
    rw [ho] at h2
    simp only [Option.map_some, Option.getD_some, Bool.and_eq_true, Bool.not_eq_true', Array.all_eq_true_iff_forall_mem, Bool.or_eq_true] at h2
    refine ⟨h1, h2.1, o, ho, fun e he hb => ?_⟩
    rcases h2.2 e he with h | h
    · rw [hb] at h; cases h
    · exact h
  · rintro ⟨h1, h2, o, ho, h3⟩
    refine ⟨h1, ?_⟩
    rw [ho]
    simp only [Option.map_some, Option.getD_some, Bool.and_eq_true, Bool.not_eq_true', Array.all_eq_true_iff_forall_mem, Bool.or_eq_true]
    refine ⟨h2, fun e he => ?_⟩
    cases hb : Region.binds md e with
    | false => exact .inl rfl
    | true => exact .inr (h3 e he hb)
theorem wpAny_inv (J : Array Bool → Act → World → Prop)
    (step : ∀ l a w i, l.size = ops.size → J l a w → i ∈ Region.ready md ops l → wpOp P ops Q i (J (l.setIfInBounds i true)) a w)
    (last : ∀ l a w, l.size = ops.size → Region.ready md ops l = [] → J l a w → Q .normal a w) :
    ∀ (fuel : Nat) (l : Array Bool) (a : Act) (w : World), l.size = ops.size → l.toList.countP (fun b => !b) ≤ fuel → J l a w → wpAny P md ops Q fuel l a w
  | 0, l, a, w, hs, hc, h => by
    have hr : Region.ready md ops l = [] := by
      rw [List.eq_nil_iff_forall_not_mem]
      intro i hi
      obtain ⟨h1, h2, _⟩ := mem_ready.1 hi
      have hi' : i < l.toList.length := by simpa [hs] using h1
      have hz := List.countP_eq_zero.1 (Nat.le_zero.1 hc) (l.toList[i]) (List.getElem_mem hi')
      rw [Array.getD_eq_getD_getElem?, Array.getElem?_eq_getElem (by omega)] at h2
      simp at h2 hz
      rw [h2] at hz
      cases hz
    exact ⟨hr, last l a w hs hr h⟩
  | fuel + 1, l, a, w, hs, hc, h => by
    refine ⟨fun hr => last l a w hs hr h, fun i hi => ?_⟩
    obtain ⟨h1, h2, _⟩ := mem_ready.1 hi
    have hi' : i < l.toList.length := by simpa [hs] using h1
    have hl : l.toList[i] = false := by
      rw [Array.getD_eq_getD_getElem?, Array.getElem?_eq_getElem (by omega)] at h2
      simpa using h2
    refine wpOp_mono (fun a' w' hj => wpAny_inv J step last fuel _ a' w' (by simpa using hs) ?_ hj) (step l a w i hs h hi)
    have h3 : (l.setIfInBounds i true).toList = l.toList.set i true := by simp
    rw [h3, List.countP_set hi', hl]
    show l.toList.countP (fun b => !b) - 1 + 0 ≤ fuel
    omega

def predsOf (md : Region.Mode) (ops : Array Oper) (i : Nat) : List Nat :=
  match ops[i]? with
  | some o => (o.after.toList.filter fun e => Region.binds md e).map fun e => e.on
  | none => []
/-- the static check: what must come before has a lower number; before the last there is all -/
def stOk (md : Region.Mode) (ops : Array Oper) (z : Nat) : Bool :=
  (z + 1 == ops.size) && ((List.range ops.size).all fun i => (predsOf md ops i).all fun k => decide (k < i)) && (List.range z).all fun k => (predsOf md ops z).contains k
theorem listed_of {l : Array Bool} {i : Nat} {o : Oper} (ho : ops[i]? = some o) (h : ∀ e ∈ o.after, Region.binds md e = true → l.getD e.on false = true) {k : Nat} (hk : k ∈ predsOf md ops i) : l.getD k false = true := by
  unfold predsOf at hk
  rw [ho] at hk
  simp only [List.mem_map, List.mem_filter, Array.mem_toList_iff] at hk
  obtain ⟨e, ⟨h1, h2⟩, rfl⟩ := hk
  exact h e h1 h2
def upd (x : Nat → Value) (i : Nat) (v : Value) : Nat → Value := fun j => if j = i then v else x j
theorem upd_same (x : Nat → Value) (i : Nat) (v : Value) : upd x i v i = v := if_pos rfl
theorem upd_ne (x : Nat → Value) {i j : Nat} (v : Value) (h : j ≠ i) : upd x i v j = x j := if_neg h

/-- THE LAW -/
theorem region_inv (M : (Nat → Value) → Act) (F : World → Prop) (E : Nat → Value → World → Prop) (z : Nat) (x0 : Nat → Value) {id : Nat} {a : Act} {w : World} (hm : P.follows .mixedOrders = true) (hok : stOk .any ops z = true)
    (h0 : a = M x0) (hF : F w.drew)
    (mono : ∀ j v w w', F w → E j v w → Below w.heap.size w w' → E j v w')
    (step : ∀ i, i < z → ∀ x w, F w → (∀ k, (predsOf .any ops i).contains k = true → E k (x k) w) → wpList P ops (Exit.then (fun a' w' => ∃ v, a' = M (upd x i v) ∧ F w' ∧ Below w.heap.size w w' ∧ E i v w') shut) [ops.toList.getD i default] (M x) w)
    (fin : ∀ x w, F w → (∀ j, j < z → E j (x j) w) → wpList P ops (Exit.then (Q .normal) shut) [ops.toList.getD z default] (M x) w) : (Code.region id ops true).wp P Q a w := by
  unfold stOk at hok
  simp only [Bool.and_eq_true, beq_iff_eq, List.all_eq_true, List.mem_range, decide_eq_true_eq, List.contains_iff_mem] at hok
  obtain ⟨⟨hz, hlow⟩, hall⟩ := hok
  have one : ∀ (i : Nat) (K : Act → World → Prop) (a : Act) (w : World), i < ops.size → wpList P ops (Exit.then K shut) [ops.toList.getD i default] a w → wpOp P ops (Tame Q) i K a w := fun i K a w hi h => by
    have ho : ops[i]? = some ops[i] := Array.getElem?_eq_getElem hi
    rw [show ops.toList.getD i default = ops[i] from by simp [List.getD_eq_getElem?_getD, hi]] at h
    have h1 := wpList_cons_op ho h
    have h2 := wpOp_monoQ (Q2 := Tame Q) (fun e a w hne hh => by cases e <;> first | exact absurd rfl hne | exact hh) h1
    exact wpOp_mono (fun a' w' h3 => h3) h2
  refine Code.wp_mono Tame.imp ?_
  refine wp_region_any hm ?_
  refine wpAny_inv (Q := Tame Q) (fun l a w => (∃ x, a = M x ∧ F w ∧ l.getD z true = false ∧ ∀ j, j < z → l.getD j false = true → E j (x j) w) ∨ ((∀ j, j < ops.size → l.getD j true = true) ∧ Q .normal a w)) ?_ ?_ _ _ _ _ (by simp) ?_ ?_
  · intro l a w i hs hj hi
    obtain ⟨h1, h2, o, ho, h3⟩ := mem_ready.1 hi
    rcases hj with ⟨x, rfl, hF, hlz, hE⟩ | ⟨hd, _⟩
    case inr => rw [hd i h1] at h2; cases h2
    by_cases hiz : i = z
    · subst hiz
      have hp : ∀ j, j < i → l.getD j false = true := fun j hj => listed_of ho h3 (hall j hj)
      refine wpOp_mono (fun a' w' hq => .inr ⟨fun j hj => ?_, hq⟩) (one i _ _ _ h1 (fin x w hF fun j hj => hE j hj (hp j hj)))
      rw [getD_set _ (by omega)]
      by_cases e : j = i
      · rw [if_pos e]
      · rw [if_neg e, getD_any (by omega) true false]
        exact hp j (by omega)
    · have hiz' : i < z := by omega
      refine wpOp_mono (fun a' w' hq => ?_) (one i _ _ _ h1 (step i hiz' x w hF fun k hk => by
        have hk' : k ∈ predsOf .any ops i := by simpa using hk
        have := hlow i h1 k hk'
        exact hE k (by omega) (listed_of ho h3 hk')))
      obtain ⟨v, rfl, hF', hB, hEi⟩ := hq
      refine .inl ⟨_, rfl, hF', ?_, fun j hj hl => ?_⟩
      · rw [getD_set _ (by omega), if_neg (by omega)]
        exact hlz
      · by_cases e : j = i
        · subst e
          rw [upd_same]
          exact hEi
        · rw [getD_set _ (by omega), if_neg e] at hl
          rw [upd_ne _ _ e]
          exact mono j _ _ _ hF (hE j hj hl) hB
  · intro l a w hs hr hj
    rcases hj with ⟨x, rfl, hF, hlz, hE⟩ | ⟨_, hq⟩
    case inr => exact hq
    exfalso
    have hl : ∀ n i, i < n → i < ops.size → l.getD i true = true := by
      intro n
      induction n with
      | zero => intro i hi; omega
      | succ n ih =>
        intro i hi hi'
        cases hc : l.getD i true with
        | true => rfl
        | false =>
          have : i ∈ Region.ready .any ops l := mem_ready.2 ⟨hi', hc, ops[i], Array.getElem?_eq_getElem hi', fun e he hb => by
            have hk : e.on ∈ predsOf .any ops i := by
              unfold predsOf
              rw [Array.getElem?_eq_getElem hi']
              simp only [List.mem_map, List.mem_filter, Array.mem_toList_iff]
              exact ⟨e, ⟨he, hb⟩, rfl⟩
            have h4 := hlow i hi' _ hk
            rw [getD_any (by omega) false true]
            exact ih _ (by omega) (by omega)⟩
          rw [hr] at this
          cases this
    rw [hl (z + 1) z (by omega) (by omega)] at hlz
    cases hlz
  · have := List.countP_le_length (p := fun b : Bool => !b) (l := (Array.replicate ops.size false).toList)
    simpa using this
  · refine .inl ⟨x0, h0, hF, ?_, fun j hj hl => ?_⟩
    · simp [Array.getD_eq_getD_getElem?, show z < ops.size by omega]
    · simp [Array.getD_eq_getD_getElem?, show j < ops.size by omega] at hl
/-- slots put, one after the other -/
def putAll (x : Nat → Value) : List Nat → Nat → Act → Act
  | [], _, a => a
  | d :: ds, i, a => putAll x ds (i + 1) (a.put (some d) (x i))
theorem put_eval (a : Act) (d : Nat) : a.put (some d) (a.eval (.tmp d)) = a := by
  obtain ⟨t, f⟩ := a
  simp only [Act.put, Act.eval]
  congr 1
  apply Array.ext_getElem?
  intro j
  by_cases e : d = j
  · subst e
    rw [Array.getElem?_setIfInBounds_self]
    split
    · rename_i h
      exact (Array.getElem?_eq_getElem h).symm
    · rename_i h
      rw [Array.getElem?_eq_none (by omega)]
  · rw [Array.getElem?_setIfInBounds_ne e]
theorem putAll_self (a : Act) (x : Nat → Value) : ∀ (ds : List Nat) (i : Nat), (∀ j d, ds[j]? = some d → x (i + j) = a.eval (.tmp d)) → putAll x ds i a = a
  | [], _, _ => rfl
  | d :: ds, i, h => by
    unfold putAll
    have h0 : x i = a.eval (.tmp d) := h 0 d rfl
    rw [h0, put_eval]
    exact putAll_self a x ds (i + 1) fun j e hj => by
      have := h (j + 1) e (by simpa using hj)
      rwa [show i + 1 + j = i + (j + 1) by omega]
theorem region_put (ds : List Nat) (F : World → Prop) (E : Nat → Value → World → Prop) (z : Nat) {id : Nat} {a : Act} {w : World} (hm : P.follows .mixedOrders = true) (hok : stOk .any ops z = true)
    (hF : F w.drew) (mono : ∀ j v w w', F w → E j v w → Below w.heap.size w w' → E j v w')
    (step : ∀ i, i < z → ∀ x w, F w → (∀ k, (predsOf .any ops i).contains k = true → E k (x k) w) → wpList P ops (Exit.then (fun a' w' => ∃ v, a' = putAll (upd x i v) ds 0 a ∧ F w' ∧ Below w.heap.size w w' ∧ E i v w') shut) [ops.toList.getD i default] (putAll x ds 0 a) w)
    (fin : ∀ x w, F w → (∀ j, j < z → E j (x j) w) → wpList P ops (Exit.then (Q .normal) shut) [ops.toList.getD z default] (putAll x ds 0 a) w) : (Code.region id ops true).wp P Q a w :=
  region_inv (fun x => putAll x ds 0 a) F E z (fun j => a.eval (.tmp (ds.getD j 0))) hm hok (putAll_self a _ ds 0 fun j d hj => by
    show a.eval (.tmp (ds.getD (0 + j) 0)) = _
    rw [Nat.zero_add, List.getD_eq_getElem?_getD, hj]; rfl).symm hF mono step fin
end
end Go.Proofs.YtaandcblndldmaaGreat.RegI
