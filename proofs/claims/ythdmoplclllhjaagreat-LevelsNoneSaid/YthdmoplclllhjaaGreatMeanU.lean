/- Trees in memory; a tree that came in, and how great it is. -/
import Derived.Test.YthdmoplclllhjaaGreatMeanT
import Derived.Test.YthdmoplclllhjaaGreatLfOpen
namespace Go.Proofs.YthdmoplclllhjaaGreat
open Go.RowKit Go.ChangeShapes Go.WideShapes
set_option linter.unusedVariables false
set_option linter.unusedSimpArgs false

def ndcell (x : Nd) : List Value := [.string x.name, .slice x.la x.ls.length x.lc, .slice x.ba x.kids.length x.bc]
def lvcell (v : Lv) : List Value := (lcells v.l v.ia v.ic v.ta v.tc).toList
/-- a leaf in memory, whatever its lengths -/
def LvRd (w : World) (v : Lv) : Prop := LfRd w v.l v.ia v.ic v.ta v.tc ∧ IntKind.wrap .i64 v.l.n = v.l.n
def LvsRd (w : World) (a : Option Addr) (c : Nat) (ls : List Lv) : Prop := Sl w 9 a ls.length c (ls.flatMap lvcell) ∧ ∀ v ∈ ls, LvRd w v
/-- a tree in memory, no deeper than so many names -/
def TrRd (w : World) : Nat → Option Addr → Nat → List Nd → Prop
  | 0, a, c, T => T = [] ∧ Sl w 3 a 0 c []
  | n + 1, a, c, T => Sl w 3 a T.length c (T.flatMap ndcell) ∧ ∀ x ∈ T, LvsRd w x.la x.lc x.ls ∧ TrRd w n x.ba x.bc x.kids
theorem LvRd.below {w w' : World} {v : Lv} (h : LvRd w v) (hb : Below w.heap.size w w') : LvRd w' v := ⟨⟨h.1.its.below hb, h.1.tms.below hb, h.1.ok⟩, h.2⟩
theorem LvsRd.below {w w' : World} {a : Option Addr} {c : Nat} {ls : List Lv} (h : LvsRd w a c ls) (hb : Below w.heap.size w w') : LvsRd w' a c ls := ⟨h.1.below hb, fun v hv => (h.2 v hv).below hb⟩
theorem TrRd.below {w w' : World} (hb : Below w.heap.size w w') : ∀ {n : Nat} {a : Option Addr} {c : Nat} {T : List Nd}, TrRd w n a c T → TrRd w' n a c T
  | 0, _, _, _, h => ⟨h.1, h.2.below hb⟩
  | n + 1, _, _, _, h => ⟨h.1.below hb, fun x hx => ⟨(h.2 x hx).1.below hb, TrRd.below hb (h.2 x hx).2⟩⟩
theorem TrRd.sl {w : World} {n : Nat} {a : Option Addr} {c : Nat} {T : List Nd} (h : TrRd w n a c T) : Sl w 3 a T.length c (T.flatMap ndcell) := by
  cases n with
  | zero => obtain ⟨rfl, h⟩ := h; exact h
  | succ n => exact h.1
theorem TrRd.nil (w : World) (n : Nat) : TrRd w n none 0 [] := by
  cases n with
  | zero => exact ⟨rfl, Sl.nil _ _⟩
  | succ n => exact ⟨Sl.nil _ _, fun x hx => by cases hx⟩
/-- deeper bounds say less -/
theorem TrRd.deep {w : World} : ∀ {n : Nat} {a : Option Addr} {c : Nat} {T : List Nd}, TrRd w n a c T → TrRd w (n + 1) a c T
  | 0, _, _, _, ⟨h1, h2⟩ => by subst h1; exact ⟨h2, fun x hx => by cases hx⟩
  | n + 1, _, _, _, h => ⟨h.1, fun x hx => ⟨(h.2 x hx).1, TrRd.deep (h.2 x hx).2⟩⟩
/-- a tree that may be, so deep -/
theorem TrRd.may {w : World} : ∀ {n m : Nat} {a : Option Addr} {c : Nat} {T : List Nd}, TrRd w n a c T → MayT m T → TrRd w m a c T
  | _, 0, _, _, T, h, hm => by
    have e : T = [] := hm
    subst e
    exact ⟨rfl, h.sl⟩
  | 0, m + 1, _, _, T, ⟨h1, h2⟩, hm => by subst h1; exact ⟨h2, fun x hx => by cases hx⟩
  | n + 1, m + 1, _, _, _, h, hm => ⟨h.1, fun x hx => ⟨(h.2 x hx).1, TrRd.may (h.2 x hx).2 (hm.2 x hx).2.2.1⟩⟩
/-! sizes, as Great counts them -/
section
variable {H : Type} {enc : TypeId × Value → H} {w : World} {base : Nat} {spare : Nat → Bool} {held : Bool}
end
end Go.Proofs.YthdmoplclllhjaaGreat
