/- What operations come to at a path, and that the few come to the same. No program in sight. | What a tree's leaves answer behind operations that are done by new dots: it hangs on what the operations come to. No program in sight. | The same for sets and logs; what is answered. No program in sight. | A leaf, and where its items and tombs lie. | Trees in plain words: which may be, what is found at a path, a leaf laid at a path. No program in sight. | Trees in memory; a tree that came in, and how great it is. | Baselines and graphs, plainly: what may be inserted, what that makes. No program in sight. -/
import Derived.Test.YtaandcblndldmaaGreatBatA
import Derived.Test.YtaandcblndldmaaGreatRefLA
import Derived.Test.YtaandcblndldmaaGreatLfOpen
import Derived.Test.YtaandcblndldmaaGreatGraA
/- MeanT -/
/- MeanP -/


/- MeanQ -/
namespace Go.Proofs.YtaandcblndldmaaGreat
set_option linter.unusedVariables false
set_option linter.unusedSimpArgs false

/-! the order of names -/
def ltS (a b : ByteArray) : Bool := Op.bytesLess a.toList b.toList
theorem bl_trans : ∀ x y z : List UInt8, Op.bytesLess x y = true → Op.bytesLess y z = true → Op.bytesLess x z = true
  | [], [], _, h, _ => by simp [Op.bytesLess] at h
  | [], _ :: _, [], _, k => by simp [Op.bytesLess] at k
  | [], _ :: _, _ :: _, _, _ => by simp [Op.bytesLess]
  | _ :: _, [], _, h, _ => by simp [Op.bytesLess] at h
  | _ :: _, _ :: _, [], _, k => by simp [Op.bytesLess] at k
  | a :: x, b :: y, c :: z, h, k => by
    simp only [Op.bytesLess, Bool.or_eq_true, Bool.and_eq_true, decide_eq_true_eq, beq_iff_eq] at h k ⊢
    rcases h with h | ⟨rfl, h⟩ <;> rcases k with k | ⟨rfl, k⟩
    · exact .inl (UInt8.lt_trans h k)
    · exact .inl h
    · exact .inl k
    · exact .inr ⟨rfl, bl_trans x y z h k⟩
theorem ltS_trans {a b c : ByteArray} (h : ltS a b = true) (k : ltS b c = true) : ltS a c = true := bl_trans _ _ _ h k
/-! leaves behind operations -/
end Go.Proofs.YtaandcblndldmaaGreat

/- MeanR -/


/- LvA -/
namespace Go.Proofs.YtaandcblndldmaaGreat
open Go.RowKit
set_option linter.unusedVariables false
set_option linter.unusedSimpArgs false

/-- a leaf, and where its items and tombs lie -/
structure Lv where
  l : Lf
  ia : Option Addr
  ic : Nat
  ta : Option Addr
  tc : Nat
end Go.Proofs.YtaandcblndldmaaGreat

/- MeanT -/
namespace Go.Proofs.YtaandcblndldmaaGreat
set_option linter.unusedVariables false
set_option linter.unusedSimpArgs false

/-- a node, and where its leaves and what is below it lie -/
inductive Nd where
  | mk (name : ByteArray) (la : Option Addr) (lc : Nat) (ls : List Lv) (ba : Option Addr) (bc : Nat) (kids : List Nd) : Nd
def Nd.name : Nd → ByteArray | .mk x _ _ _ _ _ _ => x
def Nd.la : Nd → Option Addr | .mk _ x _ _ _ _ _ => x
def Nd.lc : Nd → Nat | .mk _ _ x _ _ _ _ => x
def Nd.ls : Nd → List Lv | .mk _ _ _ x _ _ _ => x
def Nd.ba : Nd → Option Addr | .mk _ _ _ _ x _ _ => x
def Nd.bc : Nd → Nat | .mk _ _ _ _ _ x _ => x
def Nd.kids : Nd → List Nd | .mk _ _ _ _ _ _ x => x
def MayLs (ls : List Lv) : Prop := (∀ v ∈ ls, MayLf v.l) ∧ ls.Pairwise (fun a b => a.l.k < b.l.k)
def risesN (T : List Nd) : Prop := T.Pairwise (fun a b => ltS a.name b.name = true)
/-- a tree that may be, at most so deep -/
def MayT : Nat → List Nd → Prop
  | 0, T => T = []
  | n + 1, T => risesN T ∧ ∀ x ∈ T, NameP x.name ∧ (x.ls ≠ [] ∨ x.kids ≠ []) ∧ MayT n x.kids ∧ MayLs x.ls
theorem MayT.nil (n : Nat) : MayT n [] := by
  cases n with
  | zero => rfl
  | succ n => exact ⟨List.Pairwise.nil, fun x hx => by cases hx⟩
/-! a leaf laid at a path -/
end Go.Proofs.YtaandcblndldmaaGreat

/- MeanU -/
namespace Go.Proofs.YtaandcblndldmaaGreat
open Go.RowKit Go.ChangeShapes Go.WideShapes
set_option linter.unusedVariables false
set_option linter.unusedSimpArgs false

def ndcell (x : Nd) : List Value := [.string x.name, .slice x.la x.ls.length x.lc, .slice x.ba x.kids.length x.bc]
def lvcell (v : Lv) : List Value := (lcells v.l v.ia v.ic v.ta v.tc).toList
theorem ndcell_len (x : Nd) : (ndcell x).length = 3 := rfl
theorem lvcell_len (v : Lv) : (lvcell v).length = 9 := rfl
/-- a leaf in memory, whatever its lengths -/
def LvRd (w : World) (v : Lv) : Prop := LfRd w v.l v.ia v.ic v.ta v.tc ∧ IntKind.wrap .i64 v.l.n = v.l.n
def LvsRd (w : World) (a : Option Addr) (c : Nat) (ls : List Lv) : Prop := Sl w 9 a ls.length c (ls.flatMap lvcell) ∧ ∀ v ∈ ls, LvRd w v
/-- a tree in memory, no deeper than so many names -/
def TrRd (w : World) : Nat → Option Addr → Nat → List Nd → Prop
  | 0, a, c, T => T = [] ∧ Sl w 3 a 0 c []
  | n + 1, a, c, T => Sl w 3 a T.length c (T.flatMap ndcell) ∧ ∀ x ∈ T, LvsRd w x.la x.lc x.ls ∧ TrRd w n x.ba x.bc x.kids
theorem LvRd.below {w w' : World} {v : Lv} (h : LvRd w v) (hb : Below w.heap.size w w') : LvRd w' v := ⟨⟨h.1.its.below hb, h.1.tms.below hb, h.1.ok⟩, h.2⟩
theorem LvsRd.below {w w' : World} {a : Option Addr} {c : Nat} {ls : List Lv} (h : LvsRd w a c ls) (hb : Below w.heap.size w w') : LvsRd w' a c ls := ⟨h.1.below hb, fun v hv => (h.2 v hv).below hb⟩
theorem TrRd.below {w w' : World} (hb : Below w.heap.size w w') : ∀ {n : Nat} {a : Option Addr} {c : Nat} {T : List Nd}, TrRd w n a c T → TrRd w' n a c T
  | 0, _, _, _, h => ⟨h.1, h.2.below hb⟩
  | n + 1, _, _, _, h => ⟨h.1.below hb, fun x hx => ⟨(h.2 x hx).1.below hb, TrRd.below hb (h.2 x hx).2⟩⟩
theorem TrRd.sl {w : World} {n : Nat} {a : Option Addr} {c : Nat} {T : List Nd} (h : TrRd w n a c T) : Sl w 3 a T.length c (T.flatMap ndcell) := by
  cases n with
  | zero => obtain ⟨rfl, h⟩ := h; exact h
  | succ n => exact h.1
theorem TrRd.nil (w : World) (n : Nat) : TrRd w n none 0 [] := by
  cases n with
  | zero => exact ⟨rfl, Sl.nil _ _⟩
  | succ n => exact ⟨Sl.nil _ _, fun x hx => by cases hx⟩
/-- deeper bounds say less -/
theorem TrRd.deep {w : World} : ∀ {n : Nat} {a : Option Addr} {c : Nat} {T : List Nd}, TrRd w n a c T → TrRd w (n + 1) a c T
  | 0, _, _, _, ⟨h1, h2⟩ => by subst h1; exact ⟨h2, fun x hx => by cases hx⟩
  | n + 1, _, _, _, h => ⟨h.1, fun x hx => ⟨(h.2 x hx).1, TrRd.deep (h.2 x hx).2⟩⟩
/-- a tree that may be, so deep -/
theorem TrRd.may {w : World} : ∀ {n m : Nat} {a : Option Addr} {c : Nat} {T : List Nd}, TrRd w n a c T → MayT m T → TrRd w m a c T
  | _, 0, _, _, T, h, hm => by
    have e : T = [] := hm
    subst e
    exact ⟨rfl, h.sl⟩
  | 0, m + 1, _, _, T, ⟨h1, h2⟩, hm => by subst h1; exact ⟨h2, fun x hx => by cases hx⟩
  | n + 1, m + 1, _, _, _, h, hm => ⟨h.1, fun x hx => ⟨(h.2 x hx).1, TrRd.may (h.2 x hx).2 (hm.2 x hx).2.2.1⟩⟩
/-! sizes, as Great counts them -/
def szI (x : It) : Nat := 1 + x.x.size
def szL (l : Lf) : Nat := 1 + l.x.size + l.tombs.length + (l.items.map szI).sum
def szT : Nat → List Nd → Nat
  | 0, _ => 0
  | n + 1, T => (T.map fun x => 1 + x.name.size + szT n x.kids + (x.ls.map fun v => szL v.l).sum).sum
theorem sum_le_bulk {α H : Type} (sz : α → Nat) : ∀ (l : List α) (m : List (DataW H)), l.length = m.length → (∀ (i : Nat) (x : α) (d : DataW H), l[i]? = some x → m[i]? = some d → sz x ≤ Rows.uptoBulk d) → (l.map sz).sum ≤ Rows.uptoBulkAll m
  | [], [], _, _ => by simp [Rows.uptoBulkAll]
  | [], _ :: _, h, _ => by cases h
  | _ :: _, [], h, _ => by cases h
  | x :: l, d :: m, h, hh => by
    have h0 := hh 0 x d rfl rfl
    have h1 := sum_le_bulk sz l m (by simpa using h) fun i y e hy he => hh (i + 1) y e (by simpa using hy) (by simpa using he)
    simp only [List.map_cons, List.sum_cons, Rows.uptoBulkAll]
    omega
section
variable {H : Type} {enc : TypeId × Value → H} {w : World} {base : Nat} {spare : Nat → Bool} {held : Bool}
theorem trod_listB {α : Type} {R : List Value → α → Prop} {sz : α → Nat} {t e : TypeId} {size fuel : Nat} {cs : List Value} {x : DataW H × List MemPlace} (ht : Tryz.prog.underlying t = some (.slice e)) (hs : Tryz.prog.cellsOf e = size)
    (hR : ∀ n cs x, n < fuel → DataW.trod enc Tryz.prog w base spare held n e cs = some x → ∃ y : α, R cs y ∧ sz y ≤ Rows.uptoBulk x.1) (h : DataW.trod enc Tryz.prog w base spare held fuel t cs = some x) :
    ∃ a n c ys, cs = [.slice a n c] ∧ RdL w size R a n c ys ∧ (ys.map sz).sum + 1 ≤ Rows.uptoBulk x.1 := by
  rcases DataW.trod_slice ht h with ⟨h0, hx0⟩ | ⟨a, len, cap, elems, rest, n, hfu, hcs, hxx, hb, hl, hm, hlen, hel, _, _⟩
  · refine ⟨none, 0, 0, [], h0, ⟨rfl, Nat.le_refl _, Nat.zero_le _, fun _ => ⟨rfl, rfl⟩, fun i y hy => by simp at hy⟩, ?_⟩
    rw [hx0]; simp [Rows.uptoBulk]
  · have key : ∀ i : Fin len, ∃ y : α, (∃ cs', cs'.length = size ∧ (∀ j, j < size → w.cell? (a.add (i.1 * size + j)) = cs'[j]?) ∧ R cs' y) ∧ sz y ≤ Rows.uptoBulk (elems[i.1]'(by omega)).1 := by
      intro i
      have hi := hel i.1 i.2
      rw [List.getElem?_eq_getElem (by omega), Option.bind_eq_some_iff] at hi
      obtain ⟨cs', h1, h2⟩ := hi
      obtain ⟨y, hy, hz⟩ := hR n cs' _ (by omega) h2
      obtain ⟨_, h3, h4⟩ := World.cells?_some h1
      rw [hs] at h3 h4
      refine ⟨y, ⟨cs', h3, fun j hj => ?_, hy⟩, hz⟩
      rw [← Go.Deep.add_add]
      exact h4 j hj
    refine ⟨some a, len, cap, List.ofFn fun i => Classical.choose (key i), hcs, ⟨by simp, hl, hm, nofun, fun i y hy => ?_⟩, ?_⟩
    · rw [List.getElem?_ofFn] at hy
      split at hy
      · rename_i hil
        have hy' := Option.some.inj hy
        subst hy'
        obtain ⟨⟨cs', h1, h2, h3⟩, _⟩ := Classical.choose_spec (key ⟨i, hil⟩)
        exact ⟨a, cs', rfl, h1, h2, h3⟩
      · cases hy
    · have hsum := sum_le_bulk (H := H) sz (List.ofFn fun i => Classical.choose (key i)) (elems.map (·.1)) (by simp [hlen]) (fun i y d hy hd => by
        rw [List.getElem?_ofFn] at hy
        split at hy
        · rename_i hil
          have hy' := Option.some.inj hy
          subst hy'
          rw [List.getElem?_map, List.getElem?_eq_getElem (by omega)] at hd
          simp at hd
          subst hd
          exact (Classical.choose_spec (key ⟨i, hil⟩)).2
        · cases hy)
      rw [hxx]
      simp only [Rows.uptoBulk]
      omega
theorem bulk_part {d : DataW H} : ∀ {l : List (DataW H)}, d ∈ l → Rows.uptoBulk d ≤ Rows.uptoBulkAll l
  | [], h => by cases h
  | x :: l, h => by
    simp only [Rows.uptoBulkAll]
    rcases List.mem_cons.1 h with rfl | h
    · omega
    · have := bulk_part h; omega
theorem str_bulk (s : ByteArray) : Rows.uptoBulk (DataW.lit (H := H) (.string s.data.toList)) = s.size + 1 := by simp [Rows.uptoBulk]
theorem rd_itemB {n : Nat} {cs : List Value} {x : DataW H × List MemPlace} (h : DataW.trod enc Tryz.prog w base spare held n 180 cs = some x) : ∃ y : It, (cs = icell y ∧ isU y.t ∧ okD y.d) ∧ szI y ≤ Rows.uptoBulk x.1 := by
  obtain ⟨xs, m, _, hxx, hl, hxl, hf⟩ := DataW.trod_struct Tryz.underlying180 h
  have hc : Tryz.prog.cellsOf 180 = 5 := by kernel_rfl
  obtain ⟨c0, c1, c2, c3, c4, rfl⟩ := listN5 (hl.trans hc)
  have hxs : xs.length = 3 := hxl
  have e1 : Tryz.prog.cellsOf 26 = 1 := by kernel_rfl
  have e2 : Tryz.prog.cellsOf 49 = 3 := by kernel_rfl
  have e3 : Tryz.prog.cellsOf 9 = 1 := by kernel_rfl
  have h0 : DataW.trod enc Tryz.prog w base spare held m 26 ((List.drop 0 [c0, c1, c2, c3, c4]).take (Tryz.prog.cellsOf 26)) = xs[0]? := hf 0 _ rfl
  have h1 : DataW.trod enc Tryz.prog w base spare held m 49 ((List.drop 1 [c0, c1, c2, c3, c4]).take (Tryz.prog.cellsOf 49)) = xs[1]? := hf 1 _ rfl
  have h2 : DataW.trod enc Tryz.prog w base spare held m 9 ((List.drop 4 [c0, c1, c2, c3, c4]).take (Tryz.prog.cellsOf 9)) = xs[2]? := hf 2 _ rfl
  rw [List.getElem?_eq_getElem (by omega)] at h0 h1 h2
  simp only [e1, e2, e3, List.drop_zero, List.drop_succ_cons, List.take_succ_cons, List.take_zero] at h0 h1 h2
  obtain ⟨k0, hk0, _, w0⟩ := DataW.trod_int Tryz.underlying26 h0
  obtain ⟨d, hd, hok⟩ := rd_dot h1
  obtain ⟨s, hs, hsx, _⟩ := DataW.trod_string Tryz.underlying9 h2
  simp only [dcell, List.cons.injEq, and_true] at hk0 hd hs
  obtain ⟨rfl, rfl, rfl⟩ := hd
  subst hk0 hs
  refine ⟨⟨k0, d, s⟩, ⟨rfl, (wf64 k0).1 w0, hok⟩, ?_⟩
  have hb := bulk_part (H := H) (d := xs[2].1) (l := xs.map (·.1)) (List.mem_map_of_mem (List.getElem_mem _))
  have e : xs[2].1 = .lit (.string s.data.toList) := by have := congrArg Prod.fst hsx; exact this
  rw [e, str_bulk] at hb
  rw [hxx]
  simp only [Rows.uptoBulk, szI]
  omega
theorem rd_itemsB {n : Nat} {cs : List Value} {x : DataW H × List MemPlace} (h : DataW.trod enc Tryz.prog w base spare held n 176 cs = some x) :
    ∃ a c v, cs = [.slice a (List.length v) c] ∧ Its w a c v ∧ (∀ y ∈ v, isU y.t ∧ okD y.d) ∧ (v.map szI).sum + 1 ≤ Rows.uptoBulk x.1 := by
  obtain ⟨a, n, c, ys, h1, h2, h3⟩ := trod_listB (R := fun cs (y : It) => cs = icell y ∧ isU y.t ∧ okD y.d) (sz := szI) Tryz.underlying176 (by kernel_rfl) (fun n cs x _ h => rd_itemB h) h
  obtain rfl : ys.length = n := h2.1
  refine ⟨a, c, ys, h1, h2.sl icell (fun _ _ h => h.1), fun d hd => ?_, h3⟩
  obtain ⟨i, hi⟩ := List.getElem?_of_mem hd
  obtain ⟨_, _, _, _, _, h⟩ := h2.2.2.2.2 i d hi
  exact h.2
theorem sum_ones {α : Type} (l : List α) : (l.map fun _ => 1).sum = l.length := by
  induction l with
  | nil => rfl
  | cons a l ih => simp only [List.map_cons, List.sum_cons, ih, List.length_cons]; omega
theorem rd_vecB {t : TypeId} (ht : Tryz.prog.underlying t = some (.slice 49)) {n : Nat} {cs : List Value} {x : DataW H × List MemPlace} (h : DataW.trod enc Tryz.prog w base spare held n t cs = some x) :
    ∃ a c v, cs = [.slice a (List.length v) c] ∧ Vec w a c v ∧ okV v ∧ v.length + 1 ≤ Rows.uptoBulk x.1 := by
  obtain ⟨a, n, c, ys, h1, h2, h3⟩ := trod_listB (R := fun cs (d : Dt) => cs = dcell d ∧ okD d) (sz := fun _ => 1) ht (by kernel_rfl) (fun n cs x _ h => by
    obtain ⟨d, hd⟩ := rd_dot h
    refine ⟨d, hd, ?_⟩
    obtain ⟨xs, m, _, hxx, _⟩ := DataW.trod_struct Tryz.underlying49 h
    rw [hxx]; simp only [Rows.uptoBulk]; omega) h
  obtain rfl : ys.length = n := h2.1
  refine ⟨a, c, ys, h1, h2.sl dcell (fun _ _ h => h.1), fun d hd => ?_, by rwa [sum_ones] at h3⟩
  obtain ⟨i, hi⟩ := List.getElem?_of_mem hd
  obtain ⟨_, _, _, _, _, h⟩ := h2.2.2.2.2 i d hi
  exact h.2
theorem bulk_two {l : List (DataW H)} {i j k : Nat} {a b c : DataW H} (ha : l[i]? = some a) (hb : l[j]? = some b) (hc : l[k]? = some c) (hij : i < j) (hjk : j < k) : Rows.uptoBulk a + Rows.uptoBulk b + Rows.uptoBulk c ≤ Rows.uptoBulkAll l := by
  induction l generalizing i j k with
  | nil => simp at ha
  | cons x l ih =>
    cases j with
    | zero => omega
    | succ j =>
      cases k with
      | zero => omega
      | succ k =>
        simp only [Rows.uptoBulkAll]
        cases i with
        | zero =>
          simp at ha hb hc
          subst ha
          have key : ∀ {l : List (DataW H)} {j k : Nat} {b c : DataW H}, l[j]? = some b → l[k]? = some c → j < k → Rows.uptoBulk b + Rows.uptoBulk c ≤ Rows.uptoBulkAll l := by
            intro l
            induction l with
            | nil => intro j k b c hb; simp at hb
            | cons y l ih2 =>
              intro j k b c hb hc hjk
              cases k with
              | zero => omega
              | succ k =>
                simp only [Rows.uptoBulkAll]
                cases j with
                | zero =>
                  simp at hb hc
                  subst hb
                  have := bulk_part (List.mem_of_getElem? hc)
                  omega
                | succ j => have := ih2 (by simpa using hb) (by simpa using hc) (by omega : j < k); omega
          have := key hb hc (by omega)
          omega
        | succ i =>
          have := ih (i := i) (j := j) (k := k) (by simpa using ha) (by simpa using hb) (by simpa using hc) (by omega) (by omega)
          omega
theorem wrap64_in {n : Int} (h : (Lit.int .i64 n).wf = true) : IntKind.wrap .i64 n = n := by
  simp [Lit.wf, IntKind.min, IntKind.max, IntKind.signed, IntKind.bits] at h
  unfold IntKind.wrap
  simp [IntKind.signed, IntKind.bits]
  omega
theorem rd_leafB {n : Nat} {cs : List Value} {x : DataW H × List MemPlace} (h : DataW.trod enc Tryz.prog w base spare held n 178 cs = some x) :
    ∃ v : Lv, (cs = lvcell v ∧ LvRd w v) ∧ szL v.l ≤ Rows.uptoBulk x.1 := by
  obtain ⟨xs, m, _, hxx, hl, hxl, hf⟩ := DataW.trod_struct Tryz.underlying178 h
  have hc : Tryz.prog.cellsOf 178 = 9 := by kernel_rfl
  obtain ⟨c0, c1, c2, c3, c4, c5, c6, c7, c8, rfl⟩ := listN9 (hl.trans hc)
  have hxs : xs.length = 7 := hxl
  have e0 : Tryz.prog.cellsOf 5 = 1 := by kernel_rfl
  have e9 : Tryz.prog.cellsOf 2 = 1 := by kernel_rfl
  have e1 : Tryz.prog.cellsOf 26 = 1 := by kernel_rfl
  have e2 : Tryz.prog.cellsOf 49 = 3 := by kernel_rfl
  have e3 : Tryz.prog.cellsOf 9 = 1 := by kernel_rfl
  have e4 : Tryz.prog.cellsOf 176 = 1 := by kernel_rfl
  have e5 : Tryz.prog.cellsOf 27 = 1 := by kernel_rfl
  have h0 : DataW.trod enc Tryz.prog w base spare held m 5 ((List.drop 0 [c0, c1, c2, c3, c4, c5, c6, c7, c8]).take (Tryz.prog.cellsOf 5)) = xs[0]? := hf 0 _ rfl
  have h1 : DataW.trod enc Tryz.prog w base spare held m 2 ((List.drop 1 [c0, c1, c2, c3, c4, c5, c6, c7, c8]).take (Tryz.prog.cellsOf 2)) = xs[1]? := hf 1 _ rfl
  have h2 : DataW.trod enc Tryz.prog w base spare held m 26 ((List.drop 2 [c0, c1, c2, c3, c4, c5, c6, c7, c8]).take (Tryz.prog.cellsOf 26)) = xs[2]? := hf 2 _ rfl
  have h3 : DataW.trod enc Tryz.prog w base spare held m 49 ((List.drop 3 [c0, c1, c2, c3, c4, c5, c6, c7, c8]).take (Tryz.prog.cellsOf 49)) = xs[3]? := hf 3 _ rfl
  have h4 : DataW.trod enc Tryz.prog w base spare held m 9 ((List.drop 6 [c0, c1, c2, c3, c4, c5, c6, c7, c8]).take (Tryz.prog.cellsOf 9)) = xs[4]? := hf 4 _ rfl
  have h5 : DataW.trod enc Tryz.prog w base spare held m 176 ((List.drop 7 [c0, c1, c2, c3, c4, c5, c6, c7, c8]).take (Tryz.prog.cellsOf 176)) = xs[5]? := hf 5 _ rfl
  have h6 : DataW.trod enc Tryz.prog w base spare held m 27 ((List.drop 8 [c0, c1, c2, c3, c4, c5, c6, c7, c8]).take (Tryz.prog.cellsOf 27)) = xs[6]? := hf 6 _ rfl
  rw [List.getElem?_eq_getElem (by omega)] at h0 h1 h2 h3 h4 h5 h6
  simp only [e0, e9, e1, e2, e3, e4, e5, List.drop_zero, List.drop_succ_cons, List.take_succ_cons, List.take_zero] at h0 h1 h2 h3 h4 h5 h6
  obtain ⟨k0, hk0, _, w0⟩ := DataW.trod_int Tryz.underlying5 h0
  obtain ⟨k1, hk1, _, w1⟩ := DataW.trod_int Tryz.underlying2 h1
  obtain ⟨k2, hk2, _, w2⟩ := DataW.trod_int Tryz.underlying26 h2
  obtain ⟨d, hd, hok⟩ := rd_dot h3
  obtain ⟨s, hs, hsx, _⟩ := DataW.trod_string Tryz.underlying9 h4
  obtain ⟨ia, ic, is, g5, hits, oki, b5⟩ := rd_itemsB h5
  obtain ⟨ta, tc, ts, g6, htms, okt, b6⟩ := rd_vecB Tryz.underlying27 h6
  simp only [dcell, List.cons.injEq, and_true] at hk0 hk1 hk2 hd hs g5 g6
  obtain ⟨rfl, rfl, rfl⟩ := hd
  subst hk0 hk1 hk2 hs g5 g6
  refine ⟨⟨⟨k0, k1, k2, d, s, is, ts⟩, ia, ic, ta, tc⟩, ⟨rfl, ⟨hits, htms, (wf8 k0).1 w0, (wf64 k2).1 w2, hok, oki, okt⟩, wrap64_in w1⟩, ?_⟩
  have e : xs[4].1 = .lit (.string s.data.toList) := by have := congrArg Prod.fst hsx; exact this
  have hb := bulk_two (H := H) (l := xs.map (·.1)) (i := 4) (j := 5) (k := 6) (a := xs[4].1) (b := xs[5].1) (c := xs[6].1) (by rw [List.getElem?_map, List.getElem?_eq_getElem (by omega)]; rfl) (by rw [List.getElem?_map, List.getElem?_eq_getElem (by omega)]; rfl) (by rw [List.getElem?_map, List.getElem?_eq_getElem (by omega)]; rfl) (by omega) (by omega)
  rw [e, str_bulk] at hb
  rw [hxx]
  simp only [Rows.uptoBulk, szL]
  omega
theorem sum_map_le {α : Type} (f g : α → Nat) {l : List α} (h : ∀ x ∈ l, f x ≤ g x) : (l.map f).sum ≤ (l.map g).sum := by
  induction l with
  | nil => simp
  | cons a l ih =>
    have := h a (.head _)
    have := ih fun x hx => h x (.tail _ hx)
    simp only [List.map_cons, List.sum_cons]; omega
theorem szT_le {w : World} : ∀ {n : Nat} {a : Option Addr} {c : Nat} {T : List Nd}, TrRd w n a c T → ∀ k, szT k T ≤ szT n T
  | 0, _, _, T, ⟨h, _⟩, k => by
    subst h
    cases k <;> simp [szT]
  | n + 1, _, _, T, h, k => by
    cases k with
    | zero => simp [szT]
    | succ k =>
      unfold szT
      refine sum_map_le _ _ fun x hx => ?_
      have := szT_le (h.2 x hx).2 k
      omega
theorem rd_leavesB {n : Nat} {cs : List Value} {x : DataW H × List MemPlace} (h : DataW.trod enc Tryz.prog w base spare held n 173 cs = some x) :
    ∃ a c ls, cs = [.slice a (List.length ls) c] ∧ LvsRd w a c ls ∧ (ls.map fun v => szL v.l).sum + 1 ≤ Rows.uptoBulk x.1 := by
  obtain ⟨a, n, c, ys, h1, h2, h3⟩ := trod_listB (R := fun cs (v : Lv) => cs = lvcell v ∧ LvRd w v) (sz := fun v => szL v.l) Tryz.underlying173 (by kernel_rfl) (fun n cs x _ h => rd_leafB h) h
  obtain rfl : ys.length = n := h2.1
  refine ⟨a, c, ys, h1, ⟨h2.sl lvcell (fun _ _ h => h.1), fun d hd => ?_⟩, h3⟩
  obtain ⟨i, hi⟩ := List.getElem?_of_mem hd
  obtain ⟨_, _, _, _, _, h⟩ := h2.2.2.2.2 i d hi
  exact h.2
/-- a tree that came in, and how great it is at the most -/
theorem rd_tree : ∀ (fuel : Nat) {cs : List Value} {x : DataW H × List MemPlace}, DataW.trod enc Tryz.prog w base spare held fuel 30 cs = some x →
    ∃ a c T, cs = [.slice a (List.length T) c] ∧ TrRd w fuel a c T ∧ szT fuel T ≤ Rows.uptoBulk x.1 := by
  intro fuel
  induction fuel using Nat.strongRecOn with
  | ind fuel ih =>
    intro cs x h
    have deep : ∀ {m n : Nat} {a : Option Addr} {c : Nat} {T : List Nd}, TrRd w m a c T → m ≤ n → TrRd w n a c T := by
      intro m n a c T h1 h2
      obtain ⟨d, rfl⟩ : ∃ d, n = m + d := ⟨n - m, by omega⟩
      clear h2
      induction d with
      | zero => exact h1
      | succ d ihd => exact TrRd.deep ihd
    obtain ⟨f, rfl⟩ : ∃ f, fuel = f + 1 := by
      cases fuel with
      | zero => simp [DataW.trod] at h
      | succ f => exact ⟨f, rfl⟩
    obtain ⟨a, n, c, ys, h1, h2, h3⟩ := trod_listB (R := fun cs (y : Nd) => cs = ndcell y ∧ LvsRd w y.la y.lc y.ls ∧ TrRd w f y.ba y.bc y.kids) (sz := fun y => 1 + y.name.size + szT f y.kids + (y.ls.map fun v => szL v.l).sum) Tryz.underlying30 (by kernel_rfl) (fun n cs x hn h => by
      obtain ⟨xs, m, hnm, hxx, hl, hxl, hf⟩ := DataW.trod_struct Tryz.underlying175 h
      have hc : Tryz.prog.cellsOf 175 = 3 := by kernel_rfl
      obtain ⟨c0, c1, c2, rfl⟩ := listN3 (hl.trans hc)
      have hxs : xs.length = 3 := hxl
      have e1 : Tryz.prog.cellsOf 9 = 1 := by kernel_rfl
      have e2 : Tryz.prog.cellsOf 173 = 1 := by kernel_rfl
      have e3 : Tryz.prog.cellsOf 30 = 1 := by kernel_rfl
      have h0 : DataW.trod enc Tryz.prog w base spare held m 9 ((List.drop 0 [c0, c1, c2]).take (Tryz.prog.cellsOf 9)) = xs[0]? := hf 0 _ rfl
      have h1 : DataW.trod enc Tryz.prog w base spare held m 173 ((List.drop 1 [c0, c1, c2]).take (Tryz.prog.cellsOf 173)) = xs[1]? := hf 1 _ rfl
      have h2 : DataW.trod enc Tryz.prog w base spare held m 30 ((List.drop 2 [c0, c1, c2]).take (Tryz.prog.cellsOf 30)) = xs[2]? := hf 2 _ rfl
      rw [List.getElem?_eq_getElem (by omega)] at h0 h1 h2
      simp only [e1, e2, e3, List.drop_zero, List.drop_succ_cons, List.take_succ_cons, List.take_zero] at h0 h1 h2
      obtain ⟨s, hs, hsx, _⟩ := DataW.trod_string Tryz.underlying9 h0
      obtain ⟨la, lc, ls, g1, hls, b1⟩ := rd_leavesB h1
      obtain ⟨ba, bc, B, g2, hB, b2⟩ := ih m (by omega) h2
      simp only [List.cons.injEq, and_true] at hs g1 g2
      subst hs g1 g2
      refine ⟨.mk s la lc ls ba bc B, ⟨rfl, hls, deep hB (by omega)⟩, ?_⟩
      have e : xs[0].1 = .lit (.string s.data.toList) := by have := congrArg Prod.fst hsx; exact this
      have hb := bulk_two (H := H) (l := xs.map (·.1)) (i := 0) (j := 1) (k := 2) (a := xs[0].1) (b := xs[1].1) (c := xs[2].1) (by rw [List.getElem?_map, List.getElem?_eq_getElem (by omega)]; rfl) (by rw [List.getElem?_map, List.getElem?_eq_getElem (by omega)]; rfl) (by rw [List.getElem?_map, List.getElem?_eq_getElem (by omega)]; rfl) (by omega) (by omega)
      rw [e, str_bulk] at hb
      rw [hxx]
      simp only [Rows.uptoBulk]
      have hle := szT_le hB f
      show 1 + s.size + szT f B + (ls.map fun v => szL v.l).sum ≤ _
      omega) h
    obtain rfl : ys.length = n := h2.1
    refine ⟨a, c, ys, h1, ⟨h2.sl ndcell (fun _ _ h => h.1), fun y hy => ?_⟩, ?_⟩
    · obtain ⟨i, hi⟩ := List.getElem?_of_mem hy
      obtain ⟨_, _, _, _, _, h⟩ := h2.2.2.2.2 i y hi
      exact h.2
    · unfold szT
      omega
end
end Go.Proofs.YtaandcblndldmaaGreat

/- GraP -/
namespace Go.Proofs.YtaandcblndldmaaGreat
open Go.RowKit
set_option linter.unusedVariables false
set_option linter.unusedSimpArgs false

/-- a baseline -/
structure Bs where
  num : Int
  f : List Dt
  tips : List Dt
  t : Int
  tr : List Nd
structure BaseP (b : Bs) : Prop where
  canon : canonV b.f = b.f
  few : b.tips.length ≤ 64
  rise : b.tips.Pairwise ltD
  within : ∀ d ∈ b.tips, hasV b.f d = true
  time : b.t ≤ 1099511627776
  some1 : b.f ≠ [] ↔ 0 < b.t
  some2 : b.f ≠ [] ↔ b.tips ≠ []
  tree : MayT 3 b.tr
theorem BaseP.empty : BaseP ⟨0, [], [], 0, []⟩ :=
  ⟨rfl, by decide, List.Pairwise.nil, fun d h => (by cases h), by decide, by simp, by simp, MayT.nil 3⟩

/-- the commit of a dot -/
abbrev Fd := Dt → Option Cm
def findC (L : List Cm) : Fd := fun d => L.find? fun c => decide (c.d = d)
theorem findC_some {L : List Cm} {d : Dt} {c : Cm} (h : findC L d = some c) : c ∈ L ∧ c.d = d :=
  ⟨List.mem_of_find?_eq_some h, by have := List.find?_some h; simpa using this⟩
theorem findC_none {L : List Cm} {d : Dt} : findC L d = none ↔ ∀ c ∈ L, c.d ≠ d := by simp [findC, List.find?_eq_none]
theorem findC_mem {L : List Cm} (hn : (L.map (·.d)).Nodup) {c : Cm} (h : c ∈ L) : findC L c.d = some c := by
  induction L with
  | nil => cases h
  | cons a L ih =>
    rw [List.map_cons, List.nodup_cons] at hn
    unfold findC
    rw [List.find?_cons]
    by_cases e : a.d = c.d
    · rw [decide_eq_true e]
      rcases List.mem_cons.1 h with rfl | h
      · rfl
      · exact absurd (List.mem_map.2 ⟨c, h, e.symm⟩) hn.1
    · rw [decide_eq_false e]
      rcases List.mem_cons.1 h with rfl | h
      · exact absurd rfl e
      · exact ih hn.2 h
theorem findC_snoc {L : List Cm} {c : Cm} (hf : findC L c.d = none) (d : Dt) : findC (L ++ [c]) d = if d = c.d then some c else findC L d := by
  unfold findC
  rw [List.find?_append]
  by_cases e : d = c.d
  · subst e
    rw [if_pos rfl]
    have : L.find? (fun x => decide (x.d = c.d)) = none := hf
    rw [this]
    simp
  · rw [if_neg e]
    cases L.find? (fun x => decide (x.d = d)) with
    | some x => rfl
    | none => simp; exact fun h => e h.symm

def vvOf (o : Option Cm) : List Dt := match o with | some c => c.vv | none => []
/-- is a dot there -/
def hasG (F : List Dt) (fd : Fd) (d : Dt) : Bool := (fd d).isSome || hasV F d
/-- what a commit must know, by actors -/
def knN (F : List Dt) (fd : Fd) (c : Cm) (ps : List Dt) : Ac → Int := fun x =>
  ps.foldl (fun n p => max n (getN (vvOf (fd p)) x)) (max (min (getN c.vv x) (getN F x)) (getN (c.d :: c.ps) x))
theorem knN_snoc (F : List Dt) (fd : Fd) (c : Cm) (ps : List Dt) (p : Dt) (x : Ac) : knN F fd c (ps ++ [p]) x = max (knN F fd c ps x) (getN (vvOf (fd p)) x) := by
  simp [knN, List.foldl_append]
/-- a commit's dot ahead -/
def aheadD (d : Dt) : Dt := (d.1, d.2 - 1)
structure FollowsP (F : List Dt) (fd : Fd) (c : Cm) : Prop where
  known : c.d.2 = 1 ∨ hasV F (aheadD c.d) = true ∨ ∃ p ∈ c.ps, ∃ x, fd p = some x ∧ hasV x.vv (aheadD c.d) = true
  each : ∀ p ∈ c.ps, ∀ x, fd p = some x → (∀ q ∈ c.ps, q ≠ p → hasV x.vv q = false) ∧ x.t < c.t
structure GapP (F : List Dt) (fd : Fd) (c : Cm) : Prop where
  ps : ∀ p ∈ c.ps, hasG F fd p = true
  own : 1 < c.d.2 → hasG F fd (aheadD c.d) = true
  knows : ∀ x, getN c.vv x ≤ knN F fd c c.ps x
open Classical in
/-- what an insertion tells -/
noncomputable def insE (F : List Dt) (fd : Fd) (n : Nat) (c : Cm) : Int :=
  if ¬ CmP c then 4 else if hasG F fd c.d = true then 8 else if ¬ GapP F fd c then 9
  else if ¬ ((∀ x, knN F fd c c.ps x ≤ getN c.vv x) ∧ FollowsP F fd c) then 4 else if 200 ≤ n then 10 else 0
theorem insE_may {F : List Dt} {fd : Fd} {n : Nat} {c : Cm} (h : ¬ CmP c) : insE F fd n c = 4 := by unfold insE; rw [if_pos h]
theorem insE_twice {F : List Dt} {fd : Fd} {n : Nat} {c : Cm} (h : CmP c) (h1 : hasG F fd c.d = true) : insE F fd n c = 8 := by unfold insE; rw [if_neg (fun k => k h), if_pos h1]
theorem insE_gap {F : List Dt} {fd : Fd} {n : Nat} {c : Cm} (h : CmP c) (h1 : hasG F fd c.d = false) (h2 : ¬ GapP F fd c) : insE F fd n c = 9 := by
  unfold insE; rw [if_neg (fun k => k h), if_neg (by rw [h1]; simp), if_pos h2]
theorem insE_form {F : List Dt} {fd : Fd} {n : Nat} {c : Cm} (h : CmP c) (h1 : hasG F fd c.d = false) (h2 : GapP F fd c) (h3 : ¬ ((∀ x, knN F fd c c.ps x ≤ getN c.vv x) ∧ FollowsP F fd c)) : insE F fd n c = 4 := by
  unfold insE; rw [if_neg (fun k => k h), if_neg (by rw [h1]; simp), if_neg (fun k => k h2), if_pos h3]
theorem insE_full {F : List Dt} {fd : Fd} {n : Nat} {c : Cm} (h : CmP c) (h1 : hasG F fd c.d = false) (h2 : GapP F fd c) (h3 : (∀ x, knN F fd c c.ps x ≤ getN c.vv x) ∧ FollowsP F fd c) (h4 : 200 ≤ n) : insE F fd n c = 10 := by
  unfold insE; rw [if_neg (fun k => k h), if_neg (by rw [h1]; simp), if_neg (fun k => k h2), if_neg (fun k => k h3), if_pos h4]
theorem insE_ok {F : List Dt} {fd : Fd} {n : Nat} {c : Cm} (h : CmP c) (h1 : hasG F fd c.d = false) (h2 : GapP F fd c) (h3 : (∀ x, knN F fd c c.ps x ≤ getN c.vv x) ∧ FollowsP F fd c) (h4 : n < 200) : insE F fd n c = 0 := by
  unfold insE; rw [if_neg (fun k => k h), if_neg (by rw [h1]; simp), if_neg (fun k => k h2), if_neg (fun k => k h3), if_neg (by omega)]
end Go.Proofs.YtaandcblndldmaaGreat
