/- More plain laws on memory: append from any readable slice; a string's bytes; strings of bytes. -/
import Derived.Test.YtblahapjdgncfaaMemB
import Derived.Laws.BytesString
import Derived.Laws.IdiomStrings
namespace Go.Proofs.Ytblahapjdgncfaa
open Go.RowKit
set_option linter.unusedVariables false
set_option linter.unusedSimpArgs false

section
variable {P : Program}
/-- append to a row of one's own of whatever can be read, nil too -/
theorem run_append_sl (w : World) (t ty : TypeId) (base : Nat) (e : TypeId) (i : TypeInfo) (z : Value) (size bytes : Nat) (ht : P.underlying t = some (.slice e)) (hi : P.info? e = some i) (hz : i.zero = some z)
    (hsize : i.size = size) (hby : i.bytes = bytes) (hzs : z.cells.size = size) (hsz : 0 < size)
    (va : Option Addr) (n vc : Nat) (xs : List Value) (hown : w.ownsRow base e size (.slice va n vc) n xs)
    (sa : Option Addr) (m c : Nat) (news : List Value) (hsl : Sl w size sa m c news) (h1 : ∀ u ∈ news, u.oneCell' = true)
    (h63 : n + m ≤ maxLen) (hbytes : (n + m) * bytes ≤ 140737488355328) (hbase : base ≤ w.heap.size) :
    ∃ a' c' w', (Builtin.append_ #[t, t] ty #[.slice va n vc, .slice sa m c]).run P w = .ok (.slice a' (n + m) c') w' ∧ w'.ownsRow base e size (.slice a' (n + m) c') (n + m) (xs ++ news) ∧ Chg (ob va) w w' ∧ (∀ k ∈ ob a', k ∈ ob va ∨ w.heap.size ≤ k) := by
  obtain ⟨hl, hc1, hc2, ⟨rfl, rfl, rfl⟩ | ⟨ad, rfl, hnews⟩⟩ := hsl
  · obtain rfl : news = [] := List.eq_nil_of_length_eq_zero (by simpa using hl)
    have hr := run_append_owned_none (P := P) w base t ty e i size ht hi _ n xs hown
    exact ⟨va, vc, w, by simpa using hr, by simpa using hown, Chg.refl _ _, fun k hk => .inl hk⟩
  · obtain ⟨v', w', hr, h2, h3, _, h5⟩ := run_append_own_at (P := P) w base t ty e i z size bytes ht hi hz hsize hby hzs hsz _ n xs hown ad m c news hl hnews h1 h63 hbytes hbase
    obtain ⟨a', c', rfl⟩ := owns_slice h2
    refine ⟨a', c', w', hr, h2, (Chg.grown h3).mono ?_, ?_⟩
    · intro x hx _; rw [ownBlock_eq] at hx; cases va <;> simp [ob] at hx ⊢; exact hx
    · intro k hk
      rw [ownBlock_eq, ownBlock_eq] at h5
      cases a' with
      | none => simp [ob] at hk
      | some x =>
        simp [ob] at hk h5
        rcases h5 with h5 | h5
        · left; cases va <;> simp [ob] at h5 ⊢; omega
        · right; omega
theorem wpList_append_sl {w : World} {ops : Array Oper} {rest : List Oper} {o : Oper} {a : Act} {Q : Exit → Act → World → Prop} (hgd : o.guard = none) (s x : Operand) (t : TypeId)
    (ho : o.op = .call { callee := .builtin .append, args := #[s, x], argTypes := #[t, t] })
    (base : Nat) (e : TypeId) (i : TypeInfo) (z : Value) (size bytes : Nat) (ht : P.underlying t = some (.slice e)) (hi : P.info? e = some i) (hz : i.zero = some z)
    (hsize : i.size = size) (hby : i.bytes = bytes) (hzs : z.cells.size = size) (hsz : 0 < size)
    (va : Option Addr) (n vc : Nat) (xs : List Value) (hs : a.eval s = .slice va n vc) (hown : w.ownsRow base e size (.slice va n vc) n xs)
    (sa : Option Addr) (m c : Nat) (news : List Value) (hx : a.eval x = .slice sa m c) (hsl : Sl w size sa m c news) (h1 : ∀ u ∈ news, u.oneCell' = true)
    (h63 : n + m ≤ maxLen) (hbytes : (n + m) * bytes ≤ 140737488355328) (hbase : base ≤ w.heap.size)
    (h : ∀ a' c' w', w'.ownsRow base e size (.slice a' (n + m) c') (n + m) (xs ++ news) → Chg (ob va) w w' → (∀ k ∈ ob a', k ∈ ob va ∨ w.heap.size ≤ k) → wpList P ops Q rest (a.put o.dst (.slice a' (n + m) c')) w') : wpList P ops Q (o :: rest) a w := by
  obtain ⟨a', c', w', hr, h2, h3, h4⟩ := run_append_sl (P := P) w t o.type base e i z size bytes ht hi hz hsize hby hzs hsz va n vc xs hown sa m c news hsl h1 h63 hbytes hbase
  refine wpList_plain hgd fun K hK => ?_
  unfold Oper.wp
  simp only [execOp, ho, resolve, invoke, builtin, Sem.run_bind, Sem.run_pure, Result.andThen_ok, List.map_toArray, List.map_cons, List.map_nil, hs, hx, hr]
  exact hK _ _ (h a' c' w' h2 h3 h4)

/-- a string's bytes in a row of their own (a mark behind it) -/
theorem run_string_bytes (w : World) (src dst e : TypeId) (s : ByteArray) (hs : P.underlying src = some .string) (hd : P.underlying dst = some (.slice e)) (he : P.underlying e = some (.int .u8)) (hn : s.size ≤ maxLen) :
    ∃ c w', (convert src dst (.string s)).run P w = .ok (.slice (some ⟨w.heap.size, 0, none⟩) s.size c) w' ∧ Sl w' 1 (some ⟨w.heap.size, 0, none⟩) s.size c (u8s s.data.toList) ∧ Below w.heap.size w w' ∧ w'.heap.size = w.heap.size + 1 := by
  have hcap := grownCap_ge w s.size 0 e
  have hcm := grownCap_le_maxLen w s.size 0 e hn
  refine ⟨_, _, run_bytes_of_string w src dst e s hs hd he, ⟨by rw [u8s_length, Array.length_toList, Nat.mul_one]; rfl, hcap, hcm, .inr ⟨_, rfl, ?_⟩⟩, ?_, by simp⟩
  · intro j u hu
    have hj : j < s.data.size := by
      rcases Nat.lt_or_ge j s.data.size with h | h
      · exact h
      · rw [List.getElem?_eq_none (by rw [u8s_length]; simpa using h)] at hu; cases hu
    have hadd : (⟨w.heap.size, 0, none⟩ : Addr).add j = ⟨w.heap.size, j, none⟩ := by unfold Addr.add; split <;> simp_all
    rw [hadd]
    have := World.cell?_alloc_mark w.drew (bytesRow s (grownCap w s.size 0 e)) e ((bytesRow s (grownCap w s.size 0 e)).size, (bytesRow s (grownCap w s.size 0 e)).size + 1) j
    refine Eq.trans this ?_
    rw [bytesRow_at s _ j hj]
    simp [u8s] at hu
    obtain ⟨x, hx, rfl⟩ := hu
    rw [Array.getElem?_eq_getElem hj] at hx
    cases hx
    rfl
  · exact ((Below.refl _ _).drew).alloc (by simp) _
theorem wpList_string_bytes {w : World} {ops : Array Oper} {rest : List Oper} {o : Oper} {a : Act} {Q : Exit → Act → World → Prop} (hgd : o.guard = none) (src dst e : TypeId) (x : Operand)
    (ho : o.op = .convert src dst x) (s : ByteArray) (hs : P.underlying src = some .string) (hd : P.underlying dst = some (.slice e)) (he : P.underlying e = some (.int .u8)) (hx : a.eval x = .string s) (hn : s.size ≤ maxLen)
    (h : ∀ c w', Sl w' 1 (some ⟨w.heap.size, 0, none⟩) s.size c (u8s s.data.toList) → Below w.heap.size w w' → w'.heap.size = w.heap.size + 1 → wpList P ops Q rest (a.put o.dst (.slice (some ⟨w.heap.size, 0, none⟩) s.size c)) w') : wpList P ops Q (o :: rest) a w := by
  obtain ⟨c, w', hr, h2, h3, h4⟩ := run_string_bytes (P := P) w src dst e s hs hd he hn
  refine wpList_plain hgd fun K hK => ?_
  unfold Oper.wp
  simp only [execOp, ho, Sem.run_bind, Sem.run_pure, Result.andThen_ok, hx, hr]
  exact hK _ _ (h c w' h2 h3 h4)
end
end Go.Proofs.Ytblahapjdgncfaa
