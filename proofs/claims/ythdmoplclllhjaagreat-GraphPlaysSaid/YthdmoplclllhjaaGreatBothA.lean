/- A graph of the program's and the document's, with the same commits. | varvelaw13.both: the contract. (printed by wip/tools/genboth.py) -/
import Derived.Test.YthdmoplclllhjaaGreatRgE
import Derived.Test.YthdmoplclllhjaaGreatGraC
import Derived.Test.YthdmoplclllhjaaGreatBasB
import Derived.Test.YthdmoplclllhjaaGreatRMbA
/- BothA -/
namespace Go.Proofs.YthdmoplclllhjaaGreat
open Go.RowKit
set_option linter.unusedVariables false
set_option linter.unusedSimpArgs false

theorem BdA.same {b : Nat} : ∀ {n : Nat} {T U : List Nd}, BdA b n T → sameT n T U → BdA b n U
  | 0, _, _, h, hs => by rw [hs.2]; exact Nat.zero_le _
  | n + 1, T, U, h, hs => by
    obtain ⟨hl, he⟩ := hs
    refine ⟨by rw [← hl]; exact h.1, fun y hy => ?_⟩
    obtain ⟨i, hi⟩ := List.getElem?_of_mem hy
    have hi2 := (List.getElem?_eq_some_iff.1 hi).1
    obtain ⟨x, hx⟩ : ∃ x, T[i]? = some x := ⟨T[i]'(by omega), List.getElem?_eq_getElem (by omega)⟩
    obtain ⟨_, h2, h3⟩ := he i x y hx hi
    obtain ⟨k1, k2, k3⟩ := h.2 x (List.mem_of_getElem? hx)
    refine ⟨?_, fun v hv => ?_, BdA.same k3 h3⟩
    · have := congrArg List.length h2
      simp at this
      omega
    · have h4 : v.l ∈ x.ls.map (·.l) := by rw [h2]; exact List.mem_map.2 ⟨v, hv, rfl⟩
      obtain ⟨u, hu, e⟩ := List.mem_map.1 h4
      rw [← e]
      exact k2 u hu
/-- a graph at pg, and the document's at pw, with the same commits: L as they were inserted, S in order -/
structure PairE (w wr : World) (v : Bw) (m : Nat) (pg mb : Nat) (w0 : World) (b : Bw) (L : List Cw) (va : Option Addr) (vc : Nat) (vv : List Dt) (pw : Nat) (S : List Cw) (la : Option Addr) (lc : Nat) : Prop where
  gr : GrAt wr pg mb w0 3 b L va vc vv
  rg : RgAt wr pw w m v S la lc
  same : b.b.f = v.b.f
  tips : b.b.tips = v.b.tips
  tr : sameT 3 v.b.tr b.b.tr
  perm : (cms S).Perm (cms L)
  hist : HistP v.b.f (cms L) vv
  ins : HistI v.b.f (cms L)
  old : w.heap.size ≤ w0.heap.size
  pwl : w0.heap.size ≤ pw
  bel : Below w.heap.size w wr
theorem PairE.below {w wr w' : World} {v : Bw} {m pg mb : Nat} {w0 : World} {b : Bw} {L : List Cw} {va : Option Addr} {vc : Nat} {vv : List Dt} {pw : Nat} {S : List Cw} {la : Option Addr} {lc : Nat} (h : PairE w wr v m pg mb w0 b L va vc vv pw S la lc) (hb : Below wr.heap.size wr w') : PairE w w' v m pg mb w0 b L va vc vv pw S la lc :=
  ⟨h.gr.below hb, h.rg.below hb, h.same, h.tips, h.tr, h.perm, h.hist, h.ins, h.old, h.pwl, below2 h.bel hb h.bel.size⟩
theorem noRow_ref {w : World} {pw : Nat} {C : Array Value} {fr : Nat × Nat} (h : w.heap[pw]? = some (.cells C 61 fr)) : NoRow w [pw] := fun k hk C' t fr' hh => by
  rw [List.mem_singleton] at hk
  subst hk
  rw [h] at hh
  injection hh with hh
  injection hh with _ h2 _
  subst h2
  exact ⟨by decide, by decide⟩
theorem PairE.nd {w wr : World} {v : Bw} {m pg mb : Nat} {w0 : World} {b : Bw} {L : List Cw} {va : Option Addr} {vc : Nat} {vv : List Dt} {pw : Nat} {S : List Cw} {la : Option Addr} {lc : Nat} (h : PairE w wr v m pg mb w0 b L va vc vv pw S la lc) : findC (cms S) = findC (cms L) := findC_perm h.perm h.rg.nodup
theorem PairE.len {w wr : World} {v : Bw} {m pg mb : Nat} {w0 : World} {b : Bw} {L : List Cw} {va : Option Addr} {vc : Nat} {vv : List Dt} {pw : Nat} {S : List Cw} {la : Option Addr} {lc : Nat} (h : PairE w wr v m pg mb w0 b L va vc vv pw S la lc) : S.length = L.length := by
  have := h.perm.length_eq
  simpa [cms] using this
theorem PairE.ne {w wr : World} {v : Bw} {m pg mb : Nat} {w0 : World} {b : Bw} {L : List Cw} {va : Option Addr} {vc : Nat} {vv : List Dt} {pw : Nat} {S : List Cw} {la : Option Addr} {lc : Nat} (h : PairE w wr v m pg mb w0 b L va vc vv pw S la lc) : pw ≠ pg ∧ pw ≠ mb ∧ ∀ k ∈ ob la, k ≠ pg ∧ k ≠ mb := by
  obtain ⟨es, clock, hm⟩ := h.gr.map.block
  refine ⟨fun e => ?_, fun e => ?_, fun k hk => ⟨fun e => ?_, fun e => ?_⟩⟩
  · have h1 := h.rg.blk
    rw [e, h.gr.blk] at h1
    injection h1 with h1
    injection h1 with _ h2 _
    exact absurd h2 (by decide)
  · have h1 := h.rg.blk
    rw [e, hm] at h1
    cases h1
  · obtain ⟨C, fr, hh⟩ := ob_row h.rg.row k hk
    rw [e, h.gr.blk] at hh
    injection hh with hh
    injection hh with _ h2 _
    exact absurd h2 (by decide)
  · obtain ⟨C, fr, hh⟩ := ob_row h.rg.row k hk
    rw [e, hm] at hh
    cases hh
/-- one commit more: into the graph, then into the document's -/
theorem PairE.ins_ {w wr w1 : World} {v : Bw} {m pg mb : Nat} {w0 : World} {b : Bw} {L : List Cw} {va : Option Addr} {vc : Nat} {vv : List Dt} {pw : Nat} {S : List Cw} {la : Option Addr} {lc : Nat} {c : Cw} {e : Ending} (h : PairE w wr v m pg mb w0 b L va vc vv pw S la lc) (okc : okV c.c.vv) (hi : InsTo wr pg mb w0 3 b L vv c.c e w1) :
    ∃ x : Int, e = .returned (.int .i64 x) ∧ RgAt w1 pw w m v S la lc ∧ Below w.heap.size w w1 ∧ ∀ (e2 : Ending) (w2 : World), RInsTo w1 pw w m v S c e2 w2 → e2 = .returned (.int .i64 x) ∧
      ((x ≠ 0 ∧ PairE w w2 v m pg mb w0 b L va vc vv pw S la lc) ∨ (x = 0 ∧ ∃ (u : Cw) (va' : Option Addr) (vc' : Nat) (la' : Option Addr) (lc' : Nat), u.c = c.c ∧ PairE w w2 v m pg mb w0 b (L ++ [u]) va' vc' (joinV vv c.c.vv) pw (putC S c) la' lc')) := by
  have hs := h.same
  have hnd := h.nd
  have hlen := h.len
  have hne := h.ne
  have o1 := h.gr.old
  have o2 := h.old
  obtain ⟨rfl, hi⟩ := hi
  refine ⟨_, rfl, ?_⟩
  rw [hs] at hi ⊢
  rcases hi with ⟨hz, hb⟩ | ⟨hz, u, va', vc', hu, hG, hc⟩
  · refine ⟨h.rg.below hb, below2 h.bel hb h.bel.size, fun e2 w2 h2 => ?_⟩
    obtain ⟨h2, h3⟩ := h2
    rw [hnd, hlen] at h2 h3
    refine ⟨h2, .inl ⟨hz, ?_⟩⟩
    rcases h3 with ⟨_, hb2⟩ | ⟨hz2, _⟩
    · exact (h.below hb).below hb2
    · exact absurd hz2 hz
  · have hR : RgAt w1 pw w m v S la lc := h.rg.chg hc (by simp; exact ⟨hne.1, hne.2.1⟩) (fun k hk => by simp; exact hne.2.2 k hk) (fun k hk => by simp at hk; rcases hk with rfl | rfl <;> omega)
    refine ⟨hR, h.bel.trans (hc.below h.bel.size (fun k hk => by simp at hk; rcases hk with rfl | rfl <;> omega)), fun e2 w2 h2 => ?_⟩
    obtain ⟨h2, h3⟩ := h2
    rw [hnd, hlen] at h2 h3
    refine ⟨h2, .inr ⟨hz, u, va', vc', ?_⟩⟩
    rcases h3 with ⟨hz2, _⟩ | ⟨_, la', lc', hR2, hc2⟩
    · exact absurd hz hz2
    have hcs : cms (L ++ [u]) = cms L ++ [c.c] := by simp [cms, hu]
    have hG2 : GrAt w2 pg mb w0 3 b (L ++ [u]) va' vc' (joinV vv c.c.vv) := hG.chg hc2 (by simpa using fun e => hne.1 e.symm) (by simpa using fun e => hne.2.1 e.symm) (noRow_ref hR.blk) (by simpa using h.pwl)
    refine ⟨la', lc', hu, hG2, hR2, hs, h.tips, h.tr, ?_, ?_, ?_, o2, h.pwl, ?_⟩
    · rw [hcs]
      exact (putC_perm S c).trans (h.perm.append_right _)
    · rw [hcs]
      have := h.gr.okv
      exact h.hist.step this okc hz
    · rw [hcs]
      exact h.ins.step hz
    · refine (h.bel.trans (hc.below h.bel.size (fun k hk => by simp at hk; rcases hk with rfl | rfl <;> omega))).trans (hc2.below (Nat.le_trans h.bel.size hc.size) (fun k hk => by simp at hk; subst hk; have := h.pwl; omega))
theorem InsTo.keep {w w' : World} {pg mb : Nat} {w0 : World} {m : Nat} {b : Bw} {L : List Cw} {vv : List Dt} {c : Cm} {e : Ending} (h : InsTo w pg mb w0 m b L vv c e w') {k : Nat} {o : Obj} (hk : w.heap[k]? = some o) (h1 : k ≠ pg) (h2 : k ≠ mb) : w'.heap[k]? = some o := by
  obtain ⟨_, ⟨_, hb⟩ | ⟨_, u, va', vc', _, _, hc⟩⟩ := h
  · exact (hb.block _ (heap_lt hk)).trans hk
  · exact (hc.block _ (heap_lt hk) (by simp; exact ⟨h1, h2⟩)).trans hk
end Go.Proofs.YthdmoplclllhjaaGreat

/- Bo13 -/
namespace Go.Proofs.YthdmoplclllhjaaGreat
open Go.RowKit
set_option linter.unusedVariables false
set_option linter.unusedSimpArgs false

end Go.Proofs.YthdmoplclllhjaaGreat
