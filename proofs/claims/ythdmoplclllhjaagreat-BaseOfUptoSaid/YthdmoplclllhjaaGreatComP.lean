/- The reader, plainly: what bytes begin with; what is laid is read again. No program in sight. | Operations and commits as bytes, plainly: what was laid is read again; cut, it is not. No program in sight. | Commits in memory; arguments that are commits, opened. -/
import Derived.Test.YthdmoplclllhjaaGreatVec3
import Derived.Test.YthdmoplclllhjaaGreatBatA
/- CodP -/
namespace Go.Proofs.YthdmoplclllhjaaGreat
open Go.RowKit
set_option linter.unusedVariables false
set_option linter.unusedSimpArgs false

/-- a reader: what is left, its first error -/
structure Rdr where
  l : List UInt8
  e : Int
/-- what number bytes begin with, from the i-th byte on: it, how many bytes, an error -/
def numT (i acc : Nat) : List UInt8 → Nat × Nat × Int
  | [] => (0, 0, 5)
  | x :: l =>
    if 9 < i ∨ i = 9 ∧ 1 < x.toNat then (0, 0, 14)
    else if 127 < x.toNat then numT (i + 1) (acc + (x.toNat % 128) * 2 ^ (7 * i)) l
    else if x.toNat = 0 ∧ 0 < i then (0, 0, 4)
    else (acc + x.toNat * 2 ^ (7 * i), i + 1, 0)
theorem pow_step (i : Nat) : 2 ^ (7 * (i + 1)) = 128 * 2 ^ (7 * i) := by
  rw [show 7 * (i + 1) = 7 * i + 7 by omega, Nat.pow_add]; omega
theorem pow_top {i : Nat} (h : i ≤ 8) : 2 ^ (7 * i) * 128 ≤ 9223372036854775808 := by
  have : 2 ^ (7 * i) ≤ 2 ^ 56 := Nat.pow_le_pow_right (by omega) (by omega)
  omega
/-- what was read -/
theorem numT_ok : ∀ (l : List UInt8) (i acc n k : Nat), i ≤ 10 → acc < 2 ^ (7 * i) → numT i acc l = (n, k, 0) →
    i < k ∧ k ≤ 10 ∧ k - i ≤ l.length ∧ n < 18446744073709551616 ∧ ∀ m, numT i acc (l.take (k - i) ++ m) = (n, k, 0)
  | [], i, acc, n, k, _, _, h => by simp [numT] at h
  | x :: l, i, acc, n, k, hi, ha, h => by
    rw [numT] at h
    split at h
    · simp at h
    · rename_i h1
      split at h
      · rename_i h2
        have hi9 : i ≤ 8 := by omega
        have h3 := pow_step i
        have hx := x.toNat_lt
        have hm : x.toNat % 128 < 128 := Nat.mod_lt _ (by decide)
        have ha' : acc + (x.toNat % 128) * 2 ^ (7 * i) < 2 ^ (7 * (i + 1)) := by
          rw [h3]
          have : (x.toNat % 128) * 2 ^ (7 * i) ≤ 127 * 2 ^ (7 * i) := Nat.mul_le_mul_right _ (by omega)
          omega
        obtain ⟨g1, g2, g3, g4, g5⟩ := numT_ok l (i + 1) _ n k (by omega) ha' h
        refine ⟨by omega, g2, by simp; omega, g4, fun m => ?_⟩
        rw [show k - i = (k - (i + 1)) + 1 by omega, List.take_succ_cons, List.cons_append, numT, if_neg h1, if_pos h2]
        exact g5 m
      · split at h
        · simp at h
        · rename_i h2 h3
          have e1 := (Prod.mk.inj h).1
          have e2 := (Prod.mk.inj (Prod.mk.inj h).2).1
          subst e2
          refine ⟨by omega, by omega, by simp only [List.length_cons]; omega, ?_, fun m => ?_⟩
          · rw [← e1]
            rcases Nat.lt_or_ge i 9 with h9 | h9
            · have := pow_top (i := i) (by omega)
              have h5 : x.toNat * 2 ^ (7 * i) ≤ 127 * 2 ^ (7 * i) := Nat.mul_le_mul_right _ (by omega)
              omega
            · have h9' : i = 9 := by omega
              subst h9'
              have hx1 : x.toNat ≤ 1 := by omega
              have h5 : x.toNat * 2 ^ (7 * 9) ≤ 1 * 2 ^ (7 * 9) := Nat.mul_le_mul_right _ hx1
              omega
          · rw [show i + 1 - i = 0 + 1 by omega, List.take_succ_cons, List.cons_append, numT, if_neg h1, if_neg h2, if_neg h3, ← e1]
/-- a step of a reader -/
abbrev Ps (α : Type) := Rdr → α × Rdr
def Ps.ret {α : Type} (a : α) : Ps α := fun s => (a, s)
def Ps.bind {α β : Type} (f : Ps α) (g : α → Ps β) : Ps β := fun s => g (f s).1 (f s).2
/-- what a step takes hangs on what it takes alone; an error stays -/
structure Good {α : Type} (f : Ps α) : Prop where
  stop : ∀ s : Rdr, s.e ≠ 0 → (f s).2.e ≠ 0
  pre : ∀ l v l', f ⟨l, 0⟩ = (v, ⟨l', 0⟩) → ∃ p, l = p ++ l' ∧ ∀ m, f ⟨p ++ m, 0⟩ = (v, ⟨m, 0⟩)
theorem Good.ret {α : Type} (a : α) : Good (Ps.ret a) := ⟨fun s h => h, fun l v l' h => by
  simp only [Ps.ret, Prod.mk.injEq, Rdr.mk.injEq, and_true] at h
  exact ⟨[], by rw [h.2]; rfl, fun m => by simp [Ps.ret, h.1]⟩⟩
theorem at_zero {α : Type} {x : α × Rdr} (h : x.2.e = 0) : ∃ a l1, x = (a, ⟨l1, 0⟩) := by obtain ⟨a, l, e⟩ := x; dsimp only at h; exact ⟨a, l, by rw [h]⟩
theorem Good.bind {α β : Type} {f : Ps α} {g : α → Ps β} (hf : Good f) (hg : ∀ a, Good (g a)) : Good (f.bind g) := by
  refine ⟨fun s h => (hg _).stop _ (hf.stop s h), fun l v l' h => ?_⟩
  unfold Ps.bind at h ⊢
  by_cases he : (f ⟨l, 0⟩).2.e = 0
  · obtain ⟨a, l1, hf1⟩ := at_zero he
    rw [hf1] at h
    obtain ⟨p, rfl, hp⟩ := hf.pre l a l1 hf1
    obtain ⟨q, rfl, hq⟩ := (hg a).pre l1 v l' h
    refine ⟨p ++ q, by simp, fun m => ?_⟩
    rw [List.append_assoc, hp (q ++ m)]
    exact hq m
  · have h1 := (hg (f ⟨l, 0⟩).1).stop _ he
    rw [h] at h1
    exact absurd rfl h1

/-- an error, if there is none yet -/
def failS (c : Int) (s : Rdr) : Rdr := if s.e = 0 then ⟨s.l, c⟩ else s
def failIf (b : Bool) (c : Int) : Ps Unit := fun s => ((), if b = true then failS c s else s)
theorem failS_ne {c : Int} (hc : c ≠ 0) (s : Rdr) : (failS c s).e ≠ 0 := by unfold failS; split <;> assumption
theorem Good.failIf (b : Bool) {c : Int} (hc : c ≠ 0) : Good (failIf b c) := by
  cases b with
  | false => exact Good.ret ()
  | true => exact ⟨fun s _ => failS_ne hc s, fun l v l' h => absurd (show (failS c ⟨l, 0⟩).e = 0 from congrArg (fun x : Unit × Rdr => x.2.e) h) (failS_ne hc _)⟩

def numS : Ps Nat := fun s => if s.e = 0 then ((numT 0 0 s.l).1, if (numT 0 0 s.l).2.2 = 0 then ⟨s.l.drop (numT 0 0 s.l).2.1, 0⟩ else ⟨s.l, (numT 0 0 s.l).2.2⟩) else (0, s)
theorem Good.num : Good numS := by
  refine ⟨fun s h => by unfold numS; rw [if_neg h]; exact h, fun l v l' h => ?_⟩
  unfold numS at h
  rw [if_pos rfl] at h
  by_cases he : (numT 0 0 l).2.2 = 0
  · obtain ⟨n, k, hn⟩ : ∃ n k, numT 0 0 l = (n, k, 0) := ⟨_, _, by rw [← he]⟩
    dsimp only at h
    rw [hn, if_pos rfl] at h
    simp only [Prod.mk.injEq, Rdr.mk.injEq, and_true] at h
    obtain ⟨rfl, rfl⟩ := h
    obtain ⟨g1, g2, g3, g4, g5⟩ := numT_ok l 0 0 n k (by omega) (by simp) hn
    refine ⟨l.take k, by simp, fun m => ?_⟩
    have := g5 m
    unfold numS
    rw [if_pos rfl]
    simp only [Nat.sub_zero] at this
    simp only [this, if_true]
    rw [List.drop_left' (by simp; omega)]
  · dsimp only at h
    rw [if_neg he] at h
    exact absurd (congrArg (fun x => x.2.e) h) he
/-- whole numbers both ways -/
def zz (n : Int) : Nat := if 0 ≤ n then (2 * n).toNat else (-(2 * n) - 1).toNat
def unzz (n : Nat) : Int := if n % 2 = 0 then (n / 2 : Nat) else -((n / 2 : Nat) : Int) - 1
def intS : Ps Int := numS.bind fun n => Ps.ret (unzz n)
theorem Good.int : Good intS := Good.num.bind fun _ => Good.ret _
def textT (most : Nat) (l : List UInt8) : ByteArray × Nat × Int :=
  if (numT 0 0 l).2.2 ≠ 0 then (ByteArray.empty, 0, (numT 0 0 l).2.2)
  else if most < (numT 0 0 l).1 then (ByteArray.empty, 0, 3)
  else if l.length - (numT 0 0 l).2.1 < (numT 0 0 l).1 then (ByteArray.empty, 0, 5)
  else (⟨((l.drop (numT 0 0 l).2.1).take (numT 0 0 l).1).toArray⟩, (numT 0 0 l).2.1 + (numT 0 0 l).1, 0)
def textS (most : Nat) : Ps ByteArray := fun s => if s.e = 0 then ((textT most s.l).1, if (textT most s.l).2.2 = 0 then ⟨s.l.drop (textT most s.l).2.1, 0⟩ else ⟨s.l, (textT most s.l).2.2⟩) else (ByteArray.empty, s)
theorem textT_ok {most : Nat} {l : List UInt8} {x : ByteArray} {k : Nat} (h : textT most l = (x, k, 0)) : k ≤ l.length ∧ ∀ m, textT most (l.take k ++ m) = (x, k, 0) := by
  unfold textT at h
  split at h
  · rename_i h0; exact absurd (congrArg (fun x => x.2.2) h) h0
  · rename_i h0
    have h0 : (numT 0 0 l).2.2 = 0 := Decidable.of_not_not h0
    split at h
    · simp at h
    · rename_i h1
      split at h
      · simp at h
      · rename_i h2
        obtain ⟨n, j, hn⟩ : ∃ n j, numT 0 0 l = (n, j, 0) := ⟨_, _, by rw [← h0]⟩
        obtain ⟨g1, g2, g3, g4, g5⟩ := numT_ok l 0 0 n j (by omega) (by simp) hn
        simp only [hn, Prod.mk.injEq, and_true] at h
        simp only [hn] at h1 h2
        obtain ⟨rfl, rfl⟩ := h
        simp only [Nat.sub_zero] at g5 g3
        refine ⟨by omega, fun m => ?_⟩
        have e : l.take (j + n) ++ m = l.take j ++ ((l.drop j).take n ++ m) := by rw [← List.append_assoc, List.take_add]
        unfold textT
        rw [e, g5, if_neg (by simp), if_neg h1, if_neg]
        · simp only [Prod.mk.injEq, and_true]
          rw [show (List.take j l ++ (List.take n (List.drop j l) ++ m)).drop j = List.take n (List.drop j l) ++ m from ?_]
          · rw [List.take_left' (by simp; omega)]
          · rw [List.drop_left' (by simp; omega)]
        · simp; omega
theorem Good.text (most : Nat) : Good (textS most) := by
  refine ⟨fun s h => by unfold textS; rw [if_neg h]; exact h, fun l v l' h => ?_⟩
  unfold textS at h
  rw [if_pos rfl] at h
  by_cases he : (textT most l).2.2 = 0
  · obtain ⟨n, k, hn⟩ : ∃ n k, textT most l = (n, k, 0) := ⟨_, _, by rw [← he]⟩
    dsimp only at h
    rw [hn, if_pos rfl] at h
    simp only [Prod.mk.injEq, Rdr.mk.injEq, and_true] at h
    obtain ⟨rfl, rfl⟩ := h
    obtain ⟨g1, g2⟩ := textT_ok hn
    refine ⟨l.take k, by simp, fun m => ?_⟩
    unfold textS
    rw [if_pos rfl]
    simp only [g2 m, if_true]
    rw [List.drop_left' (by simp; omega)]
  · dsimp only at h
    rw [if_neg he] at h
    exact absurd (congrArg (fun x => x.2.e) h) he
/-- so many times -/
def repS {α : Type} (f : Ps α) : Nat → Ps (List α)
  | 0 => Ps.ret []
  | n + 1 => (repS f n).bind fun l => f.bind fun a => Ps.ret (l ++ [a])
theorem Good.rep {α : Type} {f : Ps α} (hf : Good f) (n : Nat) : Good (repS f n) := by
  induction n with
  | zero => exact Good.ret _
  | succ n ih => exact ih.bind fun _ => hf.bind fun _ => Good.ret _
end Go.Proofs.YthdmoplclllhjaaGreat

/- ComP -/
namespace Go.Proofs.YthdmoplclllhjaaGreat
open Go.RowKit
set_option linter.unusedVariables false
set_option linter.unusedSimpArgs false

/-- a dot, read: op's way, commit's way -/
def zeroD : Dt := ((0, 0), 0)
def dotS (most : Nat) : Ps Dt := numS.bind fun r => numS.bind fun i => numS.bind fun s => Ps.ret (if 16 ≤ r ∨ most ≤ i then zeroD else (((r : Int), (i : Int)), (s : Int)))
theorem Good.dot (most : Nat) : Good (dotS most) := Good.num.bind fun _ => Good.num.bind fun _ => Good.num.bind fun _ => Good.ret _
/-- how many things follow, at most so many -/
def someS (most : Nat) : Ps Nat := numS.bind fun n => (failIf (decide (most < n)) 4).bind fun _ => Ps.ret (if most < n then 0 else n)
theorem Good.some (most : Nat) : Good (someS most) := Good.num.bind fun _ => (Good.failIf _ (by decide)).bind fun _ => Good.ret _
def zeroO : Opn := ⟨0, 0, ByteArray.empty, [], []⟩
/-- the end of a reading: what may not be is none -/
noncomputable def mustS {α : Type} (P : α → Prop) (z a : α) : Ps α := fun s =>
  if s.e = 0 then (@ite _ (P a) (Classical.propDecidable _) (a, s) (z, ⟨s.l, 4⟩)) else (z, s)
theorem Good.must {α : Type} (P : α → Prop) (z a : α) : Good (mustS P z a) := by
  refine ⟨fun s h => by unfold mustS; rw [if_neg h]; exact h, fun l v l' h => ?_⟩
  unfold mustS at h ⊢
  rw [if_pos rfl] at h
  by_cases hp : P a
  · rw [if_pos hp] at h
    simp only [Prod.mk.injEq, Rdr.mk.injEq, and_true] at h
    obtain ⟨rfl, rfl⟩ := h
    exact ⟨[], rfl, fun m => by rw [if_pos rfl, if_pos hp]; rfl⟩
  · rw [if_neg hp] at h
    simp only [Prod.mk.injEq, Rdr.mk.injEq] at h
    exact absurd h.2.2 (by decide)
def MayOpn (o : Opn) : Prop := OpP o.k o.n o.x o.p o.ds
/-- an operation, read -/
noncomputable def opS : Ps Opn :=
  numS.bind fun k => (failIf (decide (255 < k)) 4).bind fun _ =>
  (someS 3).bind fun np => (repS (textS 12) np).bind fun p =>
  intS.bind fun n => (textS 40).bind fun x =>
  (someS 64).bind fun nd => (repS (dotS 4294967296) nd).bind fun ds =>
  mustS MayOpn zeroO ⟨((k % 256 : Nat) : Int), n, x, p, ds⟩
theorem Good.op : Good opS :=
  Good.num.bind fun _ => (Good.failIf _ (by decide)).bind fun _ => (Good.some _).bind fun _ => ((Good.text _).rep _).bind fun _ =>
  Good.int.bind fun _ => (Good.text _).bind fun _ => (Good.some _).bind fun _ => ((Good.dot _).rep _).bind fun _ => Good.must _ _ _
/-- a commit -/
structure Cm where
  d : Dt
  ps : List Dt
  vv : List Dt
  t : Int
  o : Opn
/-- dots that rise, within a vector, none one's own -/
def RiseP (l : List Dt) (d : Dt) (vv : List Dt) : Prop := l.Pairwise ltD ∧ ∀ x ∈ l, x ≠ d ∧ hasV vv x = true
/-- a commit that may be -/
structure CmP (c : Cm) : Prop where
  dot : may c.d = true
  t1 : 1 ≤ c.t
  t2 : c.t ≤ 1099511627776
  op : MayOpn c.o
  canon : canonV c.vv = c.vv
  own : getN c.vv c.d.1 = c.d.2
  few : c.ps.length ≤ 64
  ps : RiseP c.ps c.d c.vv
  ds : RiseP c.o.ds c.d c.vv
/-- numbers that a memory can hold -/
structure okC (c : Cm) : Prop where
  d : okD c.d
  ps : okV c.ps
  vv : okV c.vv
  t : 0 ≤ c.t ∧ c.t ≤ 18446744073709551615
  ds : okV c.o.ds
def dotsS : Ps (List Dt) := numS.bind fun n => (failIf (decide (64 < n)) 4).bind fun _ => repS (dotS 5) (if 64 < n then 0 else n)
theorem Good.dots : Good dotsS := Good.num.bind fun _ => (Good.failIf _ (by decide)).bind fun _ => (Good.dot _).rep _
def zeroC : Cm := ⟨zeroD, [], [], 0, zeroO⟩
noncomputable def cmS : Ps Cm :=
  (dotS 5).bind fun d => dotsS.bind fun ps => dotsS.bind fun vv => numS.bind fun t => opS.bind fun o => mustS CmP zeroC ⟨d, ps, vv, (t : Int), o⟩
theorem Good.cm : Good cmS := (Good.dot _).bind fun _ => Good.dots.bind fun _ => Good.dots.bind fun _ => Good.num.bind fun _ => Good.op.bind fun _ => Good.must _ _ _
theorem hasV_may {v : List Dt} {d : Dt} (h : hasV v d = true) : may d = true := by unfold hasV at h; simp at h; exact h.1
theorem RiseP.may {l : List Dt} {d : Dt} {vv : List Dt} (h : RiseP l d vv) : ∀ x ∈ l, may x = true := fun x hx => hasV_may (h.2 x hx).2
theorem canon_few {v : List Dt} (h : canonV v = v) : v.length ≤ 64 := by rw [← h]; exact vecOf_length _
end Go.Proofs.YthdmoplclllhjaaGreat

/- ComA -/
namespace Go.Proofs.YthdmoplclllhjaaGreat
open Go.RowKit Go.ChangeShapes Go.WideShapes
set_option linter.unusedVariables false
set_option linter.unusedSimpArgs false

/-- a commit, and where its parts lie -/
structure Cw where
  c : Cm
  qa : Option Addr
  qc : Nat
  va : Option Addr
  vc : Nat
  pa : Option Addr
  pc : Nat
  da : Option Addr
  dc : Nat
abbrev cwcells (v : Cw) : Array Value :=
  #[.int .u8 v.c.d.1.1, .int .u32 v.c.d.1.2, .int .u64 v.c.d.2, .slice v.qa v.c.ps.length v.qc, .slice v.va v.c.vv.length v.vc, .int .u64 v.c.t,
    .int .u8 v.c.o.k, .slice v.pa v.c.o.p.length v.pc, .int .i64 v.c.o.n, .string v.c.o.x, .slice v.da v.c.o.ds.length v.dc]
structure CwAt (w : World) (v : Cw) : Prop where
  ps : Vec w v.qa v.qc v.c.ps
  vv : Vec w v.va v.vc v.c.vv
  pt : Strs w v.pa v.pc v.c.o.p
  ds : Vec w v.da v.dc v.c.o.ds
  ok : okC v.c
theorem CwAt.below {w w' : World} {v : Cw} (h : CwAt w v) (hb : Below w.heap.size w w') : CwAt w' v := ⟨h.ps.below hb, h.vv.below hb, h.pt.below hb, h.ds.below hb, h.ok⟩
theorem CwAt.op {w : World} {v : Cw} (h : CwAt w v) : OwAt w ⟨v.c.o, v.pa, v.pc, v.da, v.dc⟩ := ⟨h.pt, h.ds, h.ok.ds⟩
theorem listN11 {cs : List Value} (h : cs.length = 11) : ∃ a b c d e f g i j k l, cs = [a, b, c, d, e, f, g, i, j, k, l] := by
  match cs, h with
  | [a, b, c, d, e, f, g, i, j, k, l], _ => exact ⟨a, b, c, d, e, f, g, i, j, k, l, rfl⟩
section
variable {H : Type} {enc : TypeId × Value → H} {w : World} {base : Nat} {spare : Nat → Bool} {held : Bool}
theorem rd_commit {n : Nat} {cs : List Value} {x : DataW H × List MemPlace} (h : DataW.trod enc Tryz.prog w base spare held n 46 cs = some x) :
    ∃ v : Cw, cs = (cwcells v).toList ∧ CwAt w v := by
  obtain ⟨xs, m, _, _, hl, hxl, hf⟩ := DataW.trod_struct Tryz.underlying46 h
  have hc : Tryz.prog.cellsOf 46 = 11 := by kernel_rfl
  obtain ⟨c0, c1, c2, c3, c4, c5, c6, c7, c8, c9, c10, rfl⟩ := listN11 (hl.trans hc)
  have hxs : xs.length = 5 := hxl
  have e1 : Tryz.prog.cellsOf 22 = 1 := by kernel_rfl
  have e2 : Tryz.prog.cellsOf 41 = 3 := by kernel_rfl
  have e3 : Tryz.prog.cellsOf 44 = 5 := by kernel_rfl
  have e4 : Tryz.prog.cellsOf 23 = 1 := by kernel_rfl
  have e5 : Tryz.prog.cellsOf 24 = 1 := by kernel_rfl
  have h0 : DataW.trod enc Tryz.prog w base spare held m 41 ((List.drop 0 [c0, c1, c2, c3, c4, c5, c6, c7, c8, c9, c10]).take (Tryz.prog.cellsOf 41)) = xs[0]? := hf 0 _ rfl
  have h1 : DataW.trod enc Tryz.prog w base spare held m 23 ((List.drop 3 [c0, c1, c2, c3, c4, c5, c6, c7, c8, c9, c10]).take (Tryz.prog.cellsOf 23)) = xs[1]? := hf 1 _ rfl
  have h2 : DataW.trod enc Tryz.prog w base spare held m 24 ((List.drop 4 [c0, c1, c2, c3, c4, c5, c6, c7, c8, c9, c10]).take (Tryz.prog.cellsOf 24)) = xs[2]? := hf 2 _ rfl
  have h3 : DataW.trod enc Tryz.prog w base spare held m 22 ((List.drop 5 [c0, c1, c2, c3, c4, c5, c6, c7, c8, c9, c10]).take (Tryz.prog.cellsOf 22)) = xs[3]? := hf 3 _ rfl
  have h4 : DataW.trod enc Tryz.prog w base spare held m 44 ((List.drop 6 [c0, c1, c2, c3, c4, c5, c6, c7, c8, c9, c10]).take (Tryz.prog.cellsOf 44)) = xs[4]? := hf 4 _ rfl
  rw [List.getElem?_eq_getElem (by omega)] at h0 h1 h2 h3 h4
  simp only [e1, e2, e3, e4, e5, List.drop_zero, List.drop_succ_cons, List.take_succ_cons, List.take_zero] at h0 h1 h2 h3 h4
  obtain ⟨d, hd, okd⟩ := rd_dot h0
  obtain ⟨qa, qc, ps, hq, hps, okq⟩ := rd_vec Tryz.underlying23 h1
  obtain ⟨va, vc, vv, hv, hvv, okv⟩ := rd_vec Tryz.underlying24 h2
  obtain ⟨t, ht, _, w1⟩ := DataW.trod_int Tryz.underlying22 h3
  obtain ⟨⟨o, pa, pc, da, dc⟩, ho, hoa⟩ := rd_op h4
  simp only [dcell, owcells, ocells, List.cons.injEq, and_true] at hd hq hv ht ho
  obtain ⟨rfl, rfl, rfl⟩ := hd
  obtain ⟨rfl, rfl, rfl, rfl, rfl⟩ := ho
  subst hq hv ht
  exact ⟨⟨⟨d, ps, vv, t, o⟩, qa, qc, va, vc, pa, pc, da, dc⟩, rfl, hps, hvv, hoa.pt, hoa.ds, okd, okq, okv, (wf64 t).1 w1, hoa.ok⟩
end
end Go.Proofs.YthdmoplclllhjaaGreat
