/- Arguments that are baselines and rows of commits, opened. | Arguments that are baselines, opened, and how much they hold. | Arguments that are baselines, opened, and how much they hold, at any depth. | Arguments that are snapshots, opened, and how much they hold. | Arguments that are actors, and numbers of 16 bits, opened. -/
import Derived.Test.YtaandcblndldmaaGreatGraA
import Derived.Test.YtaandcblndldmaaGreatRMbA
import Derived.Test.YtaandcblndldmaaGreatMeanW
import Derived.Test.YtaandcblndldmaaGreatAudB
import Derived.Test.YtaandcblndldmaaGreatLfOpen
/- SnOpen -/
/- BwOpen -/
namespace Go.Proofs.YtaandcblndldmaaGreat
open Go.RowKit Go.ChangeShapes Go.WideShapes
set_option linter.unusedVariables false
set_option linter.unusedSimpArgs false
section
variable {H : Type} {enc : TypeId × Value → H} {w : World} {base : Nat} {spare : Nat → Bool} {held : Bool}
end
end Go.Proofs.YtaandcblndldmaaGreat

/- UptA -/
namespace Go.Proofs.YtaandcblndldmaaGreat
open Go.RowKit Go.ChangeShapes Go.WideShapes
set_option linter.unusedVariables false
set_option linter.unusedSimpArgs false
theorem len_sum {α : Type} (f : α → Nat) (h : ∀ x, 1 ≤ f x) (l : List α) : l.length ≤ (l.map f).sum := by
  have := sum_map_le (fun _ : α => 1) f (l := l) (fun x _ => h x)
  rwa [sum_ones] at this
theorem bdA_of (b : Nat) : ∀ (n : Nat) (T : List Nd), szT (n + 1) T ≤ b → BdA b n T
  | 0, T, h => by
    have h1 := len_sum (fun x : Nd => 1 + x.name.size + szT 0 x.kids + (x.ls.map fun v => szL v.l).sum) (fun x => by omega) T
    exact Nat.le_trans h1 h
  | n + 1, T, h => by
    have h1 := len_sum (fun x : Nd => 1 + x.name.size + szT (n + 1) x.kids + (x.ls.map fun v => szL v.l).sum) (fun x => by omega) T
    refine ⟨Nat.le_trans h1 h, fun x hx => ?_⟩
    have h2 := le_sum (fun x : Nd => 1 + x.name.size + szT (n + 1) x.kids + (x.ls.map fun v => szL v.l).sum) hx
    have h0 : (T.map fun x : Nd => 1 + x.name.size + szT (n + 1) x.kids + (x.ls.map fun v => szL v.l).sum).sum ≤ b := h
    have h3 := len_sum (fun v : Lv => szL v.l) (fun v => by unfold szL; omega) x.ls
    refine ⟨by omega, fun v hv => ?_, bdA_of b n x.kids (by omega)⟩
    have h4 := le_sum (fun v : Lv => szL v.l) hv
    have h5 : szL v.l = 1 + v.l.x.size + v.l.tombs.length + (v.l.items.map szI).sum := rfl
    have h6 := len_sum szI (fun y => by unfold szI; omega) v.l.items
    constructor <;> omega
section
variable {H : Type} {enc : TypeId × Value → H} {w : World} {base : Nat} {spare : Nat → Bool} {held : Bool}
end
end Go.Proofs.YtaandcblndldmaaGreat

/- UptK -/
namespace Go.Proofs.YtaandcblndldmaaGreat
open Go.RowKit Go.ChangeShapes Go.WideShapes
set_option linter.unusedVariables false
set_option linter.unusedSimpArgs false
section
variable {H : Type} {enc : TypeId × Value → H} {w : World} {base : Nat} {spare : Nat → Bool} {held : Bool}
theorem rd_baseK {n : Nat} {cs : List Value} {x : DataW H × List MemPlace} (h : DataW.trod enc Tryz.prog w base spare held n 32 cs = some x) :
    ∃ (m : Nat) (v : Bw), cs = (bwcells v).toList ∧ BwAt w m v ∧ v.b.tips.length ≤ Rows.uptoBulk x.1 ∧ ∀ k, szT k v.b.tr ≤ Rows.uptoBulk x.1 := by
  obtain ⟨xs, m, _, hxx, hl, hxl, hf⟩ := DataW.trod_struct Tryz.underlying32 h
  have hc : Tryz.prog.cellsOf 32 = 5 := by kernel_rfl
  obtain ⟨c0, c1, c2, c3, c4, rfl⟩ := listN5 (hl.trans hc)
  have hxs : xs.length = 5 := hxl
  have e1 : Tryz.prog.cellsOf 26 = 1 := by kernel_rfl
  have e2 : Tryz.prog.cellsOf 28 = 1 := by kernel_rfl
  have e3 : Tryz.prog.cellsOf 27 = 1 := by kernel_rfl
  have e4 : Tryz.prog.cellsOf 30 = 1 := by kernel_rfl
  have h0 : DataW.trod enc Tryz.prog w base spare held m 26 ((List.drop 0 [c0, c1, c2, c3, c4]).take (Tryz.prog.cellsOf 26)) = xs[0]? := hf 0 _ rfl
  have h1 : DataW.trod enc Tryz.prog w base spare held m 28 ((List.drop 1 [c0, c1, c2, c3, c4]).take (Tryz.prog.cellsOf 28)) = xs[1]? := hf 1 _ rfl
  have h2 : DataW.trod enc Tryz.prog w base spare held m 27 ((List.drop 2 [c0, c1, c2, c3, c4]).take (Tryz.prog.cellsOf 27)) = xs[2]? := hf 2 _ rfl
  have h3 : DataW.trod enc Tryz.prog w base spare held m 26 ((List.drop 3 [c0, c1, c2, c3, c4]).take (Tryz.prog.cellsOf 26)) = xs[3]? := hf 3 _ rfl
  have h4 : DataW.trod enc Tryz.prog w base spare held m 30 ((List.drop 4 [c0, c1, c2, c3, c4]).take (Tryz.prog.cellsOf 30)) = xs[4]? := hf 4 _ rfl
  rw [List.getElem?_eq_getElem (by omega)] at h0 h1 h2 h3 h4
  simp only [e1, e2, e3, e4, List.drop_zero, List.drop_succ_cons, List.take_succ_cons, List.take_zero] at h0 h1 h2 h3 h4
  obtain ⟨num, hn, _, w0⟩ := DataW.trod_int Tryz.underlying26 h0
  obtain ⟨fa, fc, F, hF, hfv, okf⟩ := rd_vec Tryz.underlying28 h1
  obtain ⟨ta, tc, tips, hT, htv, okt, htb⟩ := rd_vecB Tryz.underlying27 h2
  obtain ⟨t, ht, _, w1⟩ := DataW.trod_int Tryz.underlying26 h3
  obtain ⟨ra, rc, T, hR, hrt, hsz⟩ := rd_tree _ h4
  simp only [List.cons.injEq, and_true] at hn hF hT ht hR
  subst hn hF hT ht hR
  have hb2 := bulk_part (H := H) (d := xs[2].1) (l := xs.map (·.1)) (List.mem_map_of_mem (List.getElem_mem _))
  have hb4 := bulk_part (H := H) (d := xs[4].1) (l := xs.map (·.1)) (List.mem_map_of_mem (List.getElem_mem _))
  refine ⟨m, ⟨⟨num, F, tips, t, T⟩, fa, fc, ta, tc, ra, rc⟩, rfl, ⟨hfv, htv, hrt, okf, okt, (wf64 num).1 w0, (wf64 t).1 w1⟩, ?_, ?_⟩
  · rw [hxx]
    simp only [Rows.uptoBulk]
    show tips.length ≤ _
    omega
  · rw [hxx]
    simp only [Rows.uptoBulk]
    intro k
    have hs4 := szT_le hrt k
    show szT k T ≤ _
    omega
end
end Go.Proofs.YtaandcblndldmaaGreat

/- SnOpen -/
namespace Go.Proofs.YtaandcblndldmaaGreat
open Go.RowKit Go.ChangeShapes Go.WideShapes
set_option linter.unusedVariables false
set_option linter.unusedSimpArgs false
section
variable {H : Type} {enc : TypeId × Value → H} {w : World} {base : Nat} {spare : Nat → Bool} {held : Bool}
theorem rd_strsB {n : Nat} {cs : List Value} {x : DataW H × List MemPlace} (h : DataW.trod enc Tryz.prog w base spare held n 50 cs = some x) :
    ∃ a c l, cs = [.slice a (List.length l) c] ∧ Strs w a c l ∧ l.length + 1 ≤ Rows.uptoBulk x.1 := by
  obtain ⟨a, n, c, ys, h1, h2, h3⟩ := trod_listB (size := 1) (R := fun cs (x : ByteArray) => cs = [.string x]) (sz := fun _ => 1) Tryz.underlying50 (by kernel_rfl) (fun n cs x _ h => by
    obtain ⟨s, hs, hx, _⟩ := DataW.trod_string Tryz.underlying9 h
    exact ⟨s, hs, by rw [hx]; simp [Rows.uptoBulk]⟩) h
  obtain rfl : ys.length = n := h2.1
  refine ⟨a, c, ys, h1, ?_, by rwa [sum_ones] at h3⟩
  have := h2.sl (fun x => [Value.string x]) (fun _ _ h => h)
  unfold Strs scells
  rw [strs_flat]
  exact this
theorem rd_opB {n : Nat} {cs : List Value} {x : DataW H × List MemPlace} (h : DataW.trod enc Tryz.prog w base spare held n 52 cs = some x) :
    ∃ v : Ow, cs = (owcells v).toList ∧ OwAt w v ∧ v.o.p.length ≤ Rows.uptoBulk x.1 ∧ v.o.ds.length ≤ Rows.uptoBulk x.1 := by
  obtain ⟨xs, m, _, _, hl, hxl, hf⟩ := DataW.trod_struct Tryz.underlying52 h
  have hc : Tryz.prog.cellsOf 52 = 5 := by kernel_rfl
  obtain ⟨c0, c1, c2, c3, c4, rfl⟩ := listN5 (hl.trans hc)
  obtain ⟨ys, m2, _, hxx, hl2, hxl2, hf2⟩ := DataW.trod_struct Tryz.underlying52 h
  have hys : ys.length = 5 := hxl2
  have a0 : Tryz.prog.cellsOf 5 = 1 := by kernel_rfl
  have a1 : Tryz.prog.cellsOf 50 = 1 := by kernel_rfl
  have a2 : Tryz.prog.cellsOf 2 = 1 := by kernel_rfl
  have a3 : Tryz.prog.cellsOf 9 = 1 := by kernel_rfl
  have a4 : Tryz.prog.cellsOf 27 = 1 := by kernel_rfl
  have k0 : DataW.trod enc Tryz.prog w base spare held m2 5 ((List.drop 0 [c0, c1, c2, c3, c4]).take (Tryz.prog.cellsOf 5)) = ys[0]? := hf2 0 _ rfl
  have k1 : DataW.trod enc Tryz.prog w base spare held m2 50 ((List.drop 1 [c0, c1, c2, c3, c4]).take (Tryz.prog.cellsOf 50)) = ys[1]? := hf2 1 _ rfl
  have k2 : DataW.trod enc Tryz.prog w base spare held m2 2 ((List.drop 2 [c0, c1, c2, c3, c4]).take (Tryz.prog.cellsOf 2)) = ys[2]? := hf2 2 _ rfl
  have k3 : DataW.trod enc Tryz.prog w base spare held m2 9 ((List.drop 3 [c0, c1, c2, c3, c4]).take (Tryz.prog.cellsOf 9)) = ys[3]? := hf2 3 _ rfl
  have k4 : DataW.trod enc Tryz.prog w base spare held m2 27 ((List.drop 4 [c0, c1, c2, c3, c4]).take (Tryz.prog.cellsOf 27)) = ys[4]? := hf2 4 _ rfl
  rw [List.getElem?_eq_getElem (by omega)] at k0 k1 k2 k3 k4
  simp only [a0, a1, a2, a3, a4, List.drop_zero, List.drop_succ_cons, List.take_succ_cons, List.take_zero] at k0 k1 k2 k3 k4
  obtain ⟨k, hk, _, _⟩ := DataW.trod_int Tryz.underlying5 k0
  obtain ⟨pa, pc, pl, hpl, hps, hb1⟩ := rd_strsB k1
  obtain ⟨n, hn, _, _⟩ := DataW.trod_int Tryz.underlying2 k2
  obtain ⟨s, hs, _⟩ := DataW.trod_string Tryz.underlying9 k3
  obtain ⟨da, dc, ds, hds, hvec, okv, hb4⟩ := rd_vecB Tryz.underlying27 k4
  simp only [List.cons.injEq, and_true] at hk hpl hn hs hds
  subst hk hpl hn hs hds
  have g1 := bulk_part (H := H) (d := ys[1].1) (l := ys.map (·.1)) (List.mem_map_of_mem (List.getElem_mem _))
  have g4 := bulk_part (H := H) (d := ys[4].1) (l := ys.map (·.1)) (List.mem_map_of_mem (List.getElem_mem _))
  refine ⟨⟨⟨k, n, s, pl, ds⟩, pa, pc, da, dc⟩, rfl, ⟨hps, hvec, okv⟩, ?_, ?_⟩
  · rw [hxx]; simp only [Rows.uptoBulk]; show pl.length ≤ _; omega
  · rw [hxx]; simp only [Rows.uptoBulk]; show ds.length ≤ _; omega
theorem rd_commitB {n : Nat} {cs : List Value} {x : DataW H × List MemPlace} (h : DataW.trod enc Tryz.prog w base spare held n 54 cs = some x) :
    ∃ v : Cw, cs = (cwcells v).toList ∧ CwAt w v ∧ v.c.ps.length ≤ Rows.uptoBulk x.1 ∧ v.c.vv.length ≤ Rows.uptoBulk x.1 ∧ v.c.o.p.length ≤ Rows.uptoBulk x.1 ∧ v.c.o.ds.length ≤ Rows.uptoBulk x.1 ∧ 1 ≤ Rows.uptoBulk x.1 := by
  obtain ⟨xs, m, _, hxx, hl, hxl, hf⟩ := DataW.trod_struct Tryz.underlying54 h
  have hc : Tryz.prog.cellsOf 54 = 11 := by kernel_rfl
  obtain ⟨c0, c1, c2, c3, c4, c5, c6, c7, c8, c9, c10, rfl⟩ := listN11 (hl.trans hc)
  have hxs : xs.length = 5 := hxl
  have e1 : Tryz.prog.cellsOf 26 = 1 := by kernel_rfl
  have e2 : Tryz.prog.cellsOf 49 = 3 := by kernel_rfl
  have e3 : Tryz.prog.cellsOf 52 = 5 := by kernel_rfl
  have e4 : Tryz.prog.cellsOf 27 = 1 := by kernel_rfl
  have e5 : Tryz.prog.cellsOf 28 = 1 := by kernel_rfl
  have h0 : DataW.trod enc Tryz.prog w base spare held m 49 ((List.drop 0 [c0, c1, c2, c3, c4, c5, c6, c7, c8, c9, c10]).take (Tryz.prog.cellsOf 49)) = xs[0]? := hf 0 _ rfl
  have h1 : DataW.trod enc Tryz.prog w base spare held m 27 ((List.drop 3 [c0, c1, c2, c3, c4, c5, c6, c7, c8, c9, c10]).take (Tryz.prog.cellsOf 27)) = xs[1]? := hf 1 _ rfl
  have h2 : DataW.trod enc Tryz.prog w base spare held m 28 ((List.drop 4 [c0, c1, c2, c3, c4, c5, c6, c7, c8, c9, c10]).take (Tryz.prog.cellsOf 28)) = xs[2]? := hf 2 _ rfl
  have h3 : DataW.trod enc Tryz.prog w base spare held m 26 ((List.drop 5 [c0, c1, c2, c3, c4, c5, c6, c7, c8, c9, c10]).take (Tryz.prog.cellsOf 26)) = xs[3]? := hf 3 _ rfl
  have h4 : DataW.trod enc Tryz.prog w base spare held m 52 ((List.drop 6 [c0, c1, c2, c3, c4, c5, c6, c7, c8, c9, c10]).take (Tryz.prog.cellsOf 52)) = xs[4]? := hf 4 _ rfl
  rw [List.getElem?_eq_getElem (by omega)] at h0 h1 h2 h3 h4
  simp only [e1, e2, e3, e4, e5, List.drop_zero, List.drop_succ_cons, List.take_succ_cons, List.take_zero] at h0 h1 h2 h3 h4
  obtain ⟨d, hd, okd⟩ := rd_dot h0
  obtain ⟨qa, qc, ps, hq, hps, okq, hb1⟩ := rd_vecB Tryz.underlying27 h1
  obtain ⟨va, vc, vv, hv, hvv, okv, hb2⟩ := rd_vecB Tryz.underlying28 h2
  obtain ⟨t, ht, _, w1⟩ := DataW.trod_int Tryz.underlying26 h3
  obtain ⟨⟨o, pa, pc, da, dc⟩, ho, hoa, hb3, hb4⟩ := rd_opB h4
  simp only [dcell, owcells, ocells, List.cons.injEq, and_true] at hd hq hv ht ho
  obtain ⟨rfl, rfl, rfl⟩ := hd
  obtain ⟨rfl, rfl, rfl, rfl, rfl⟩ := ho
  subst hq hv ht
  have g1 := bulk_part (H := H) (d := xs[1].1) (l := xs.map (·.1)) (List.mem_map_of_mem (List.getElem_mem _))
  have g2 := bulk_part (H := H) (d := xs[2].1) (l := xs.map (·.1)) (List.mem_map_of_mem (List.getElem_mem _))
  have g4 := bulk_part (H := H) (d := xs[4].1) (l := xs.map (·.1)) (List.mem_map_of_mem (List.getElem_mem _))
  dsimp only at hb3 hb4
  refine ⟨⟨⟨d, ps, vv, t, o⟩, qa, qc, va, vc, pa, pc, da, dc⟩, rfl, ⟨hps, hvv, hoa.pt, hoa.ds, okd, okq, okv, (wf64 t).1 w1, hoa.ok⟩, ?_, ?_, ?_, ?_, ?_⟩
  · rw [hxx]; simp only [Rows.uptoBulk]; show ps.length ≤ _; omega
  · rw [hxx]; simp only [Rows.uptoBulk]; show vv.length ≤ _; omega
  · rw [hxx]; simp only [Rows.uptoBulk]; show o.p.length ≤ _; omega
  · rw [hxx]; simp only [Rows.uptoBulk]; show o.ds.length ≤ _; omega
  · rw [hxx]; simp only [Rows.uptoBulk]; omega
def szC (v : Cw) : Nat := max 1 (max (max v.c.ps.length v.c.vv.length) (max v.c.o.p.length v.c.o.ds.length))
theorem rd_cmsB {n : Nat} {cs : List Value} {x : DataW H × List MemPlace} (h : DataW.trod enc Tryz.prog w base spare held n 33 cs = some x) :
    ∃ a c ys, cs = [.slice a (List.length ys) c] ∧ Cms w a c ys ∧ (ys.map szC).sum + 1 ≤ Rows.uptoBulk x.1 := by
  obtain ⟨a, n, c, ys, h1, h2, h3⟩ := trod_listB (R := fun cs (v : Cw) => cs = (cwcells v).toList ∧ CwAt w v) (sz := szC) Tryz.underlying33 (by kernel_rfl) (fun n cs x _ h => by
    obtain ⟨v, hv, hw, b1, b2, b3, b4, b5⟩ := rd_commitB h
    exact ⟨v, ⟨hv, hw⟩, by unfold szC; omega⟩) h
  obtain rfl : ys.length = n := h2.1
  refine ⟨a, c, ys, h1, ⟨h2.sl ccel (fun _ _ h => h.1), fun d hd => ?_⟩, h3⟩
  obtain ⟨i, hi⟩ := List.getElem?_of_mem hd
  obtain ⟨_, _, _, _, _, h⟩ := h2.2.2.2.2 i d hi
  exact h.2
end
end Go.Proofs.YtaandcblndldmaaGreat

/- ActOpen -/
namespace Go.Proofs.YtaandcblndldmaaGreat
open Go.RowKit Go.ChangeShapes Go.WideShapes
set_option linter.unusedVariables false
set_option linter.unusedSimpArgs false

theorem wf16 (r : Int) : (Lit.int .u16 r).wf = true ↔ 0 ≤ r ∧ r ≤ 65535 := by simp [Lit.wf, IntKind.min, IntKind.max, IntKind.signed, IntKind.bits]
section
variable {H : Type} {enc : TypeId × Value → H} {w : World} {base : Nat} {spare : Nat → Bool} {held : Bool}
end
end Go.Proofs.YtaandcblndldmaaGreat
