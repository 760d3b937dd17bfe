/- Vectors as an argument; what EpochRises knows in its loop. -/
import Derived.Test.YtblahapjdgncfaaEpoB
import Derived.Test.YtblahapjdgncfaaEpoC
import Derived.Test.YtblahapjdgncfaaVec5
import Derived.Test.YtblahapjdgncfaaMatJ
namespace Go.Proofs.Ytblahapjdgncfaa
open Go.RowKit Go.ChangeShapes Go.WideShapes
set_option linter.unusedVariables false
set_option linter.unusedSimpArgs false

def VecRd (w : World) (cs : List Value) (v : List Dt) : Prop := ∃ a c, cs = [.slice a v.length c] ∧ Vec w a c v ∧ okV v
/-- a slice of vectors -/
def Vecs (w : World) (a : Option Addr) (c : Nat) (us : List (List Dt)) : Prop := RdL w 1 (VecRd w) a us.length c us
theorem Vecs.at {w : World} {a : Option Addr} {c : Nat} {us : List (List Dt)} (h : Vecs w a c us) {k : Nat} {u : List Dt} (hu : us[k]? = some u) : ∃ ad b d, a = some ad ∧ w.cell? (ad.add k) = some (.slice b u.length d) ∧ Vec w b d u ∧ okV u ∧ ad.block < w.heap.size := by
  obtain ⟨_, _, _, _, h5⟩ := h
  obtain ⟨ad, cs, rfl, hl, hc, b, d, rfl, hv, ok⟩ := h5 k u hu
  have g0 := hc 0 (by omega)
  rw [Nat.mul_one, Nat.add_zero] at g0
  refine ⟨ad, b, d, rfl, g0, hv, ok, ?_⟩
  have := World.block_lt_of_cell? w _ g0
  have hb : (ad.add k).block = ad.block := by unfold Addr.add; split <;> rfl
  rwa [hb] at this
theorem Vecs.below {w w' : World} {a : Option Addr} {c : Nat} {us : List (List Dt)} (h : Vecs w a c us) (hb : Below w.heap.size w w') : Vecs w' a c us := by
  obtain ⟨h1, h2, h3, h4, h5⟩ := h
  refine ⟨h1, h2, h3, h4, fun i y hy => ?_⟩
  obtain ⟨ad, cs, h6, h7, h8, b, d, rfl, hv, ok⟩ := h5 i y hy
  refine ⟨ad, _, h6, h7, fun j hj => ?_, b, d, rfl, hv.below hb, ok⟩
  obtain rfl : j = 0 := by omega
  have := h8 0 hj
  rw [← this]
  exact hb.cell (World.block_lt_of_cell? w _ (this.trans (by rfl : _ = some (Value.slice b y.length d))))
theorem Vecs.len {w : World} {a : Option Addr} {c : Nat} {us : List (List Dt)} (h : Vecs w a c us) : us.length ≤ maxLen := Nat.le_trans h.2.1 h.2.2.1
section
variable {H : Type} {enc : TypeId × Value → H} {w : World} {base : Nat} {spare : Nat → Bool} {held : Bool}
theorem rd_vecs {n : Nat} {cs : List Value} {x : DataW H × List MemPlace} (h : DataW.trod enc Try.prog w base spare held n 70 cs = some x) :
    ∃ a c us, cs = [.slice a (List.length us) c] ∧ Vecs w a c us := by
  obtain ⟨a, n, c, us, h1, h2⟩ := trod_list (R := VecRd w) Try.underlying70 (by kernel_rfl) (fun n cs x h => by
    obtain ⟨a, c, v, g1, g2, g3⟩ := rd_vec Try.underlying23 h
    exact ⟨v, a, c, g1, g2, g3⟩) h
  obtain rfl : us.length = n := h2.1
  exact ⟨a, c, us, h1, h2⟩
end
/-- a row of dots of the law's own, behind b -/
structure BoxV (w : World) (b : Nat) (a : Option Addr) (c : Nat) (v : List Dt) : Prop where
  own : w.ownsRow (b + 1) 34 3 (.slice a v.length c) v.length (dcells v)
  ok : okV v
  len : v.length ≤ 64
theorem BoxV.chg {w w' : World} {b : Nat} {a : Option Addr} {c : Nat} {v : List Dt} {G : List Nat} (h : BoxV w b a c v) (hc : Chg G w w') (hG : ∀ x ∈ G, x ≤ b) : BoxV w' b a c v :=
  ⟨owns_chg h.own hc (fun k hk hg => by have := (owns_lt h.own k hk).1; have := hG k hg; omega), h.ok, h.len⟩
theorem BoxV.vec {w : World} {b : Nat} {a : Option Addr} {c : Nat} {v : List Dt} (h : BoxV w b a c v) : Vec w a c v := vec_of h.own
structure BoxI (w : World) (b : Nat) (a : Option Addr) (c : Nat) (l : List Int) : Prop where
  own : w.ownsRow (b + 1) 29 1 (.slice a l.length c) l.length (ucells l)
  len : l.length ≤ 16
theorem BoxI.chg {w w' : World} {b : Nat} {a : Option Addr} {c : Nat} {l : List Int} {G : List Nat} (h : BoxI w b a c l) (hc : Chg G w w') (hG : ∀ x ∈ G, x ≤ b) : BoxI w' b a c l :=
  ⟨owns_chg h.own hc (fun k hk hg => by have := (owns_lt h.own k hk).1; have := hG k hg; omega), h.len⟩
/-- a decision in the box b -/
structure DecAt (w : World) (b bo : Nat) (m : Int) (a : Option Addr) (c : Nat) (v : List Dt) : Prop where
  box : w.heap[b]? = some (.cells #[.int .u64 m, .slice a v.length c] 72 (0, 0))
  vec : BoxV w bo a c v
  lo : 0 ≤ m
  hi : m ≤ 1099511627776
theorem DecAt.chg {w w' : World} {b bo : Nat} {m : Int} {a : Option Addr} {c : Nat} {v : List Dt} {G : List Nat} (h : DecAt w b bo m a c v) (hc : Chg G w w') (hG : ∀ x ∈ G, x ≤ bo) (hb : b ∉ G) : DecAt w' b bo m a c v :=
  ⟨heap_chg h.box hc hb, h.vec.chg hc hG, h.lo, h.hi⟩
/-- what the law knows: the matrix, now, own, has, incs -/
structure EpE (w wr : World) (pm n bn : Nat) (R : Mx) (ia : Option Addr) (ic : Nat) (l : List Int) (ha : Option Addr) (hc : Nat) (has : List Dt) : Prop where
  mat : MatE w wr pm n R
  fmat : MatR wr (fun b => b = pm ∨ bn + 2 ≤ b) pm n R
  lt : pm < bn
  incs : BoxI wr (bn + 1) ia ic l
  has : BoxV wr (bn + 1) ha hc has
  now : ∃ m a c v, DecAt wr bn (bn + 1) m a c v
  own : ∃ m a c v, DecAt wr (bn + 1) (bn + 1) m a c v
theorem EpE.step {w wr w' : World} {pm n bn : Nat} {R : Mx} {ia : Option Addr} {ic : Nat} {l : List Int} {ha : Option Addr} {hc : Nat} {has : List Dt} (h : EpE w wr pm n bn R ia ic l ha hc has) (hb : Below wr.heap.size wr w') : EpE w w' pm n bn R ia ic l ha hc has := by
  obtain ⟨m, a, c, v, h1⟩ := h.now
  obtain ⟨m', a', c', v', h2⟩ := h.own
  exact ⟨h.mat.step hb, h.fmat.below hb, h.lt, h.incs.chg (G := []) (Chg.of_below hb) (by simp), h.has.chg (G := []) (Chg.of_below hb) (by simp), ⟨m, a, c, v, h1.chg (G := []) (Chg.of_below hb) (by simp) (by simp)⟩, ⟨m', a', c', v', h2.chg (G := []) (Chg.of_below hb) (by simp) (by simp)⟩⟩
theorem EpE.size {w wr : World} {pm n bn : Nat} {R : Mx} {ia : Option Addr} {ic : Nat} {l : List Int} {ha : Option Addr} {hc : Nat} {has : List Dt} (h : EpE w wr pm n bn R ia ic l ha hc has) : bn + 2 ≤ wr.heap.size := by
  obtain ⟨m', a', c', v', h2⟩ := h.own
  exact heap_lt h2.box
theorem EpE.take {w wr w' : World} {pm n bn : Nat} {R : Mx} {ia : Option Addr} {ic : Nat} {l : List Int} {ha : Option Addr} {hc : Nat} {has : List Dt} {a : Ak} (h : EpE w wr pm n bn R ia ic l ha hc has) (hk : okAk a) (hm : MatR w' (fun b => (b = pm ∨ bn + 2 ≤ b) ∨ wr.heap.size ≤ b) pm n (nextM n R a)) (hch : Chg [pm] wr w') : EpE w w' pm n bn (nextM n R a) ia ic l ha hc has := by
  have hlt := h.lt
  have hsz := h.size
  obtain ⟨m, a1, c, v, h1⟩ := h.now
  obtain ⟨m', a', c', v', h2⟩ := h.own
  exact ⟨h.mat.take hk hm hch, hm.mono (fun b hb => by omega), h.lt, h.incs.chg hch (by simp; omega), h.has.chg hch (by simp; omega), ⟨m, a1, c, v, h1.chg hch (by simp; omega) (by simp; omega)⟩, ⟨m', a', c', v', h2.chg hch (by simp; omega) (by simp; omega)⟩⟩
/-- new incarnations, a new vector -/
theorem EpE.setI {w wr : World} {pm n bn : Nat} {R : Mx} {ia ia' : Option Addr} {ic ic' : Nat} {l l' : List Int} {ha : Option Addr} {hc : Nat} {has : List Dt} (h : EpE w wr pm n bn R ia ic l ha hc has) (hi : BoxI wr (bn + 1) ia' ic' l') : EpE w wr pm n bn R ia' ic' l' ha hc has :=
  ⟨h.mat, h.fmat, h.lt, hi, h.has, h.now, h.own⟩
theorem EpE.setH {w wr : World} {pm n bn : Nat} {R : Mx} {ia : Option Addr} {ic : Nat} {l : List Int} {ha ha' : Option Addr} {hc hc' : Nat} {has has' : List Dt} (h : EpE w wr pm n bn R ia ic l ha hc has) (hh : BoxV wr (bn + 1) ha' hc' has') : EpE w wr pm n bn R ia ic l ha' hc' has' :=
  ⟨h.mat, h.fmat, h.lt, h.incs, hh, h.now, h.own⟩
def put2 (wr : World) (b : Nat) (x y : Value) : World := (wr.setCell ⟨b, 0, none⟩ x).setCell ⟨b, 1, none⟩ y
theorem put2_chg (wr : World) (b : Nat) (x y : Value) : Chg [b] wr (put2 wr b x y) :=
  ((Chg.refl [b] wr).trans (Chg.setCell wr ⟨b, 0, none⟩ x) (by simp)).trans (Chg.setCell _ ⟨b, 1, none⟩ y) (by simp)
theorem put2_box {wr : World} {b : Nat} {p q x y : Value} {t : TypeId} (h : wr.heap[b]? = some (.cells #[p, q] t (0, 0))) : (put2 wr b x y).heap[b]? = some (.cells #[x, y] t (0, 0)) := by
  unfold put2
  rw [heap_setCell_same _ b 1 _ _ y (heap_setCell_same wr b 0 _ _ x h)]; rfl
theorem EpE.base {w wr : World} {pm n bn : Nat} {R : Mx} {ia : Option Addr} {ic : Nat} {l : List Int} {ha : Option Addr} {hc : Nat} {has : List Dt} (h : EpE w wr pm n bn R ia ic l ha hc has) {b : Nat} (hb : b = bn ∨ b = bn + 1) (x y : Value) : MatR (put2 wr b x y) (fun b => b = pm ∨ bn + 2 ≤ b) pm n R ∧ MatE w (put2 wr b x y) pm n R := by
  have hlt := h.lt
  have hge := h.mat.ge
  have hm := h.fmat.chg (put2_chg wr b x y) (by simp; omega)
  exact ⟨hm, hm.mono (fun _ _ => trivial), h.mat.ok, h.mat.ge, h.mat.below.trans ((put2_chg wr b x y).below h.mat.below.size (by simp; omega))⟩
theorem EpE.setNow {w wr : World} {pm n bn : Nat} {R : Mx} {ia : Option Addr} {ic : Nat} {l : List Int} {ha : Option Addr} {hc : Nat} {has : List Dt} (h : EpE w wr pm n bn R ia ic l ha hc has) {m : Int} {a : Option Addr} {c : Nat} {v : List Dt} (hv : BoxV wr (bn + 1) a c v) (lo : 0 ≤ m) (hi : m ≤ 1099511627776) : EpE w (put2 wr bn (.int .u64 m) (.slice a v.length c)) pm n bn R ia ic l ha hc has := by
  have hlt := h.lt
  have hc' := put2_chg wr bn (.int .u64 m) (.slice a v.length c)
  obtain ⟨h1, h2⟩ := h.base (.inl rfl) (.int .u64 m) (.slice a v.length c)
  obtain ⟨m0, a0, c0, v0, h3⟩ := h.now
  obtain ⟨m', a', c', v', h4⟩ := h.own
  exact ⟨h2, h1, h.lt, h.incs.chg hc' (by simp), h.has.chg hc' (by simp), ⟨m, a, c, v, put2_box h3.box, hv.chg hc' (by simp), lo, hi⟩, ⟨m', a', c', v', h4.chg hc' (by simp) (by simp)⟩⟩
theorem EpE.setOwn {w wr : World} {pm n bn : Nat} {R : Mx} {ia : Option Addr} {ic : Nat} {l : List Int} {ha : Option Addr} {hc : Nat} {has : List Dt} (h : EpE w wr pm n bn R ia ic l ha hc has) {m : Int} {a : Option Addr} {c : Nat} {v : List Dt} (hv : BoxV wr (bn + 1) a c v) (lo : 0 ≤ m) (hi : m ≤ 1099511627776) : EpE w (put2 wr (bn + 1) (.int .u64 m) (.slice a v.length c)) pm n bn R ia ic l ha hc has := by
  have hlt := h.lt
  have hc' := put2_chg wr (bn + 1) (.int .u64 m) (.slice a v.length c)
  obtain ⟨h1, h2⟩ := h.base (.inr rfl) (.int .u64 m) (.slice a v.length c)
  obtain ⟨m0, a0, c0, v0, h3⟩ := h.now
  obtain ⟨m', a', c', v', h4⟩ := h.own
  exact ⟨h2, h1, h.lt, h.incs.chg hc' (by simp), h.has.chg hc' (by simp), ⟨m0, a0, c0, v0, h3.chg hc' (by simp) (by simp)⟩, ⟨m, a, c, v, put2_box h4.box, hv.chg hc' (by simp), lo, hi⟩⟩
theorem joinI_le (a b : List Int) : (joinI a b).length ≤ a.length := by
  unfold joinI
  split
  · simp; omega
  · simp
theorem AckAt.below {w w' : World} {b : Addr} {y : Ak} {ai : Option Addr} {ci : Nat} {av : Option Addr} {cv : Nat} (h : AckAt w b y ai ci av cv) (hb : Below w.heap.size w w') : AckAt w' b y ai ci av cv := by
  have hl := World.block_lt_of_cell? w _ h.c0
  exact ⟨(hb.cell hl).trans h.c0, (hb.cell (p := ⟨b.block, b.off + 1, none⟩) hl).trans h.c1, (hb.cell (p := ⟨b.block, b.off + 2, none⟩) hl).trans h.c2, (hb.cell (p := ⟨b.block, b.off + 3, none⟩) hl).trans h.c3, h.hi.below hb, h.hv.below hb, h.ok⟩
theorem nextE_bd {num inc m e : Int} (h : nextE num inc = (m, e)) (he : e = 0) (h0 : 0 ≤ num) : num < m ∧ 0 ≤ m ∧ m ≤ 1099511627776 := by
  unfold nextE at h
  split at h
  · cases h; omega
  · split at h
    · cases h; omega
    · cases h; omega
theorem decide_facts {n : Nat} {R : Mx} {l : List Int} {num m : Int} {f v : List Dt} (hR : okR n R) (h0 : 0 ≤ num) (h : decideM n R l num f = some (m, v)) : num < m ∧ 0 ≤ m ∧ m ≤ 1099511627776 ∧ withinV f v = true ∧ withinV v f = false ∧ okV v ∧ v.length ≤ 64 := by
  unfold decideM at h
  cases hs : stableM n R l with
  | none => rw [hs] at h; cases h
  | some u =>
    rw [hs] at h
    simp only [decideV] at h
    split at h
    · rename_i hc
      obtain ⟨h1, h2, h3⟩ := hc
      cases h
      have := nextE_bd (m := (nextE num (l.getD 0 0)).1) (e := (nextE num (l.getD 0 0)).2) rfl h3 h0
      have ho := stable_ok hR hs
      exact ⟨this.1, this.2.1, this.2.2, h1, h2, ho.1, ho.2⟩
    · cases h
theorem judge_facts {m num : Int} {F f vv : List Dt} (h : judgeN m num F f vv = 1) : num < m ∧ withinV F vv = true ∧ withinV f F = true := by
  unfold judgeN at h
  split at h
  · cases h
  · split at h
    · cases h
    · split at h
      · cases h
      · rename_i h1 h2 h3
        exact ⟨by omega, by simpa using h2, by simpa using h3⟩
theorem judge_bd (m num : Int) (F f vv : List Dt) : 1 ≤ judgeN m num F f vv ∧ judgeN m num F f vv ≤ 4 := by
  unfold judgeN; split <;> (try split) <;> (try split) <;> omega
end Go.Proofs.Ytblahapjdgncfaa
