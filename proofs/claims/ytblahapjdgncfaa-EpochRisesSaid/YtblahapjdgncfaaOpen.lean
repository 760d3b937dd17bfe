/- Arguments opened: slices of whatever can be read. No function in sight. -/
import Derived.Test.YtblahapjdgncfaaMem
import Derived.Deep.Slices
import Derived.ChangeSame
namespace Go.Proofs.Ytblahapjdgncfaa
open Go.RowKit Go.ChangeShapes Go.WideShapes
set_option linter.unusedVariables false
set_option linter.unusedSimpArgs false

/-- a slice of elements of 'size' cells each, each read by R -/
def RdL {α : Type} (w : World) (size : Nat) (R : List Value → α → Prop) (a : Option Addr) (n c : Nat) (ys : List α) : Prop :=
  ys.length = n ∧ n ≤ c ∧ c ≤ maxLen ∧ (a = none → n = 0 ∧ c = 0) ∧
    ∀ i y, ys[i]? = some y → ∃ ad cs, a = some ad ∧ cs.length = size ∧ (∀ j, j < size → w.cell? (ad.add (i * size + j)) = cs[j]?) ∧ R cs y

section
variable {H : Type} {enc : TypeId × Value → H} {P : Program} {w : World} {base : Nat} {spare : Nat → Bool} {held : Bool}
theorem trod_list {α : Type} {R : List Value → α → Prop} {t e : TypeId} {size fuel : Nat} {cs : List Value} {x : DataW H × List MemPlace} (ht : P.underlying t = some (.slice e)) (hs : P.cellsOf e = size)
    (hR : ∀ n cs x, DataW.trod enc P w base spare held n e cs = some x → ∃ y : α, R cs y) (h : DataW.trod enc P w base spare held fuel t cs = some x) :
    ∃ a n c ys, cs = [.slice a n c] ∧ RdL w size R a n c ys := by
  rcases Deep.open_slice ht h with ⟨h0, _⟩ | ⟨a, len, cap, m, n, D, Pl, hcs, hb, hl, hm, hmm, hx, hi⟩
  · exact ⟨none, 0, 0, [], h0, rfl, Nat.le_refl _, Nat.zero_le _, fun _ => ⟨rfl, rfl⟩, fun i y hy => by simp at hy⟩
  · have hlm : len ≤ m := by rw [hmm]; split <;> omega
    have key : ∀ i : Fin len, ∃ y : α, ∃ cs', cs'.length = size ∧ (∀ j, j < size → w.cell? (a.add (i.1 * size + j)) = cs'[j]?) ∧ R cs' y := by
      intro i
      obtain ⟨cs', h1, h2⟩ := hi i.1 (by omega)
      obtain ⟨y, hy⟩ := hR _ _ _ h2
      obtain ⟨_, h3, h4⟩ := World.cells?_some h1
      rw [hs] at h3 h4
      refine ⟨y, cs', h3, fun j hj => ?_, hy⟩
      rw [← Go.Deep.add_add]
      exact h4 j hj
    refine ⟨some a, len, cap, List.ofFn fun i => Classical.choose (key i), hcs, by simp, hl, hm, nofun, fun i y hy => ?_⟩
    rw [List.getElem?_ofFn] at hy
    split at hy
    · rename_i hil
      have hy' := Option.some.inj hy
      subst hy'
      obtain ⟨cs', h1, h2, h3⟩ := Classical.choose_spec (key ⟨i, hil⟩)
      exact ⟨a, cs', rfl, h1, h2, h3⟩
    · cases hy
end

theorem flat_at {α β : Type} (f : α → List β) (size : Nat) : ∀ (ys : List α), (∀ y ∈ ys, (f y).length = size) → ∀ (k : Nat) (u : β), (ys.flatMap f)[k]? = some u → ∃ i j y, k = i * size + j ∧ j < size ∧ ys[i]? = some y ∧ (f y)[j]? = some u
  | [], _, k, u, h => by simp at h
  | y :: ys, hl, k, u, h => by
    rw [List.flatMap_cons] at h
    have hy := hl y (by simp)
    rcases Nat.lt_or_ge k size with hk | hk
    · rw [List.getElem?_append_left (by omega)] at h
      exact ⟨0, k, y, by simp, hk, rfl, h⟩
    · rw [List.getElem?_append_right (by omega), hy] at h
      obtain ⟨i, j, y', h1, h2, h3, h4⟩ := flat_at f size ys (fun z hz => hl z (by simp [hz])) (k - size) u h
      exact ⟨i + 1, j, y', by rw [Nat.succ_mul]; omega, h2, by simpa using h3, h4⟩
theorem flat_len {α β : Type} (f : α → List β) (size : Nat) : ∀ (ys : List α), (∀ y ∈ ys, (f y).length = size) → (ys.flatMap f).length = ys.length * size
  | [], _ => by simp
  | y :: ys, hl => by
    rw [List.flatMap_cons, List.length_append, flat_len f size ys (fun z hz => hl z (by simp [hz])), hl y (by simp), List.length_cons, Nat.succ_mul]
    omega

/-- elements whose cells are known: the slice reads as all of them -/
theorem RdL.sl {α : Type} {w : World} {size : Nat} {R : List Value → α → Prop} {a : Option Addr} {n c : Nat} {ys : List α} (f : α → List Value) (hR : ∀ cs y, R cs y → cs = f y) (h : RdL w size R a n c ys) :
    Sl w size a n c (ys.flatMap f) := by
  obtain ⟨h1, h2, h3, h4, h5⟩ := h
  have hlen : ∀ y ∈ ys, (f y).length = size := fun y hy => by
    obtain ⟨i, hi⟩ := List.getElem?_of_mem hy
    obtain ⟨ad, cs, _, g1, _, g2⟩ := h5 i y hi
    rw [← hR _ _ g2]; exact g1
  refine ⟨by rw [flat_len f size ys hlen, h1], h2, h3, ?_⟩
  cases a with
  | none => exact .inl ⟨rfl, h4 rfl⟩
  | some ad =>
    refine .inr ⟨ad, rfl, fun k u hk => ?_⟩
    obtain ⟨i, j, y, rfl, g1, g2, g3⟩ := flat_at f size ys hlen k u hk
    obtain ⟨ad', cs, hh, _, g5, g6⟩ := h5 i y g2
    cases hh
    rw [g5 j g1, hR _ _ g6, g3]

theorem u8_of_wf {n : Int} (h : (Lit.int .u8 n).wf = true) : ∃ b : UInt8, n = (b.toNat : Int) := by
  have hh : 0 ≤ n ∧ n ≤ 255 := by simpa [Lit.wf, IntKind.min, IntKind.max, IntKind.signed, IntKind.bits] using h
  refine ⟨UInt8.ofNat n.toNat, ?_⟩
  rw [UInt8.toNat_ofNat']
  omega
theorem u8s_flat (bs : List UInt8) : bs.flatMap (fun b => [Value.int .u8 (b.toNat : Int)]) = u8s bs := by
  induction bs with
  | nil => rfl
  | cons b bs ih => rw [List.flatMap_cons, ih]; simp [u8s]

section
variable {H : Type} {enc : TypeId × Value → H} {P : Program} {w : World} {base : Nat} {spare : Nat → Bool} {held : Bool}
theorem trod_bytes {t e : TypeId} {fuel : Nat} {cs : List Value} {x : DataW H × List MemPlace} (ht : P.underlying t = some (.slice e)) (he : P.underlying e = some (.int .u8)) (hs : P.cellsOf e = 1)
    (h : DataW.trod enc P w base spare held fuel t cs = some x) : ∃ a c bs, cs = [.slice a bs.length c] ∧ Sl w 1 a bs.length c (u8s bs) := by
  obtain ⟨a, n, c, ys, h1, h2⟩ := trod_list (R := fun cs (b : UInt8) => cs = [.int .u8 (b.toNat : Int)]) ht hs (fun n cs x h => by
    obtain ⟨k, rfl, _, hw⟩ := DataW.trod_int he h
    obtain ⟨b, rfl⟩ := u8_of_wf hw
    exact ⟨b, rfl⟩) h
  obtain rfl : ys.length = n := h2.1
  exact ⟨a, c, ys, h1, by rw [← u8s_flat]; exact h2.sl _ (fun _ _ h => h)⟩
end
end Go.Proofs.Ytblahapjdgncfaa
