/- varvelaw37.DigestMore: the walk. (printed by wip/tools/gendmr.py) -/
import Derived.Test.YtaandcblndldmaaGreatFilX
import Derived.Test.YtaandcblndldmaaGreatRegI
namespace Go.Proofs.YtaandcblndldmaaGreat
open Go.RowKit
set_option linter.unusedVariables false
set_option linter.unusedSimpArgs false

theorem noRow_com {w : World} {b : Nat} {C : Array Value} {fr : Nat × Nat} (h : w.heap[b]? = some (.cells C 54 fr)) : NoRow w [b] := fun k hk C' t fr' hh => by
  rw [List.mem_singleton] at hk
  subst hk
  rw [h] at hh
  injection hh with hh
  injection hh with _ h2 _
  subst h2
  exact ⟨by decide, by decide⟩
theorem OwnS.one (w : World) {base : Nat} (h : base ≤ w.heap.size) (s : ByteArray) : OwnS (w.alloc (.cells #[.string s] 9)) base (some ⟨w.heap.size, 0, none⟩) 1 [s] :=
  ⟨rfl, .inr ⟨w.heap.size, 1, #[.string s], rfl, h, heap_new w _, Nat.le_refl _, by decide, rfl, rfl⟩⟩
theorem dmr_one (mo : Int → Cm → Int) {F vT vS : List Dt} {L Sx Sy : List Cm} {c : Cm} (hT : HistP F L vT) (hS : HistP F (L ++ [c]) vS) (px : Sx.Perm L) (py : Sy.Perm (L ++ [c])) (sx : Sx.Pairwise ltK) (sy : Sy.Pairwise ltK) :
    noUn (digs mo Sy) (digs mo Sx) ∧ ∃ g, apartL (digs mo Sy) (digs mo Sx) = [g] ∧ g.a = c.d.1 ∧ g.up = c.d.2 := by
  have H := SubC.of hT hS (fun x hx => List.mem_append_left _ hx) px py sx sy
  refine ⟨H.noUn mo, H.one mo (py.mem_iff.2 (by simp)) (fun h => ?_) (fun x hx => ?_)⟩
  · have h1 := hS.nodup
    rw [List.map_append, List.nodup_append] at h1
    exact h1.2.2 _ (List.mem_map_of_mem (px.mem_iff.1 h)) _ (by simp) rfl
  · rcases List.mem_append.1 (py.mem_iff.1 hx) with h | h
    · exact .inr (px.mem_iff.2 h)
    · exact .inl (List.mem_singleton.1 h)
/-- two boxes: the baseline's, the actor's -/
structure BoxM (w wr : World) (C D : Array Value) : Prop where
  b0 : wr.heap[w.heap.size]? = some (.cells C 32 (0, 0))
  b1 : wr.heap[w.heap.size + 1]? = some (.cells D 24 (0, 0))
  bel : Below w.heap.size w wr
theorem BoxM.step {w wr w' : World} {C D : Array Value} (h : BoxM w wr C D) (hb : Below wr.heap.size wr w') : BoxM w w' C D := ⟨(hb.block _ (heap_lt h.b0)).trans h.b0, (hb.block _ (heap_lt h.b1)).trans h.b1, below2 h.bel hb h.bel.size⟩
/-- what each of the operations of 'd := ..' leaves -/
def E6 (W : World) (ar ai : Int) (pg : Nat) (vv : List Dt) (j : Nat) (v : Value) (w : World) : Prop :=
  match j with
  | 0 => v = .agg #[.int .u8 ar, .int .u32 ai]
  | 1 => v = .pointer (some ⟨pg, 0, none⟩)
  | 2 => ∃ a c, v = .slice a vv.length c ∧ OwnD w 0 a c vv
  | 3 => v = .agg #[.int .u8 ar, .int .u32 ai]
  | 4 => v = .int .u64 (getN vv (ar, ai))
  | 5 => v = .int .u64 (getN vv (ar, ai) + 1)
  | 6 => v = .agg #[.int .u8 ar, .int .u32 ai, .int .u64 (getN vv (ar, ai) + 1)]
  | _ => ∃ pb, v = .pointer (some ⟨pb, 0, none⟩) ∧ W.heap.size ≤ pb ∧ w.heap[pb]? = some (.cells #[.int .u8 0, .int .u32 0, .int .u64 0] 49 (0, 0))
theorem E6.mono {W : World} {ar ai : Int} {pg : Nat} {vv : List Dt} (j : Nat) (v : Value) (w w' : World) (hF : Below W.heap.size W w) (h : E6 W ar ai pg vv j v w) (hb : Below w.heap.size w w') : E6 W ar ai pg vv j v w' := by
  match j, h with
  | 0, h => exact h
  | 1, h => exact h
  | 2, ⟨a, c, h1, h2⟩ => exact ⟨a, c, h1, h2.below hb⟩
  | 3, h => exact h
  | 4, h => exact h
  | 5, h => exact h
  | 6, h => exact h
  | _ + 7, ⟨pb, h1, h2, h3⟩ => exact ⟨pb, h1, h2, (hb.block _ (heap_lt h3)).trans h3⟩
/-- and of 'c := ..' -/
def E8 (W : World) (d : Dt) (pg : Nat) (vv : List Dt) (j : Nat) (v : Value) (w : World) : Prop :=
  match j with
  | 0 => v = .agg #[.int .u8 d.1.1, .int .u32 d.1.2, .int .u64 d.2]
  | 1 => v = .pointer (some ⟨pg, 0, none⟩)
  | 2 => ∃ a c Hl, v = .slice a (List.length Hl) c ∧ OwnD w 0 a c Hl ∧ okV Hl
  | 3 => v = .pointer (some ⟨pg, 0, none⟩)
  | 4 => ∃ a c, v = .slice a vv.length c ∧ OwnD w 0 a c vv
  | 5 => v = .agg #[.int .u8 d.1.1, .int .u32 d.1.2, .int .u64 d.2]
  | 6 => ∃ a c, v = .slice a 1 c ∧ OwnD w 0 a c [d]
  | 7 => ∃ a c, v = .slice a (joinV vv [d]).length c ∧ OwnD w 0 a c (joinV vv [d])
  | 8 => v = .pointer (some ⟨pg, 0, none⟩)
  | 9 => ∃ n : Int, v = .int .u64 n ∧ 0 ≤ n ∧ n ≤ 1099511627776
  | 10 => ∃ n : Int, v = .int .u64 n ∧ 0 ≤ n ∧ n ≤ 1099511627777
  | 11 => ∃ a c, v = .slice a 1 c ∧ OwnS w 0 a c [⟨#[97]⟩]
  | 12 => ∃ a c, v = .agg #[.int .u8 1, .slice a 1 c, .int .i64 0, .string ⟨#[]⟩, .slice none 0 0] ∧ OwnS w 0 a c [⟨#[97]⟩]
  | 13 => ∃ u : Cw, v = .agg (cwcells u) ∧ CwOwn w 0 u ∧ u.c.d = d ∧ u.c.vv.length ≤ 1100000
  | _ => ∃ pb, v = .pointer (some ⟨pb, 0, none⟩) ∧ W.heap.size ≤ pb ∧ w.heap[pb]? = some (.cells (cwcells zeroCw) 54 (0, 0))
theorem E8.mono {W : World} {d : Dt} {pg : Nat} {vv : List Dt} (j : Nat) (v : Value) (w w' : World) (hF : Below W.heap.size W w) (h : E8 W d pg vv j v w) (hb : Below w.heap.size w w') : E8 W d pg vv j v w' := by
  match j, h with
  | 0, h => exact h
  | 1, h => exact h
  | 2, ⟨a, c, Hl, h1, h2, h3⟩ => exact ⟨a, c, Hl, h1, h2.below hb, h3⟩
  | 3, h => exact h
  | 4, ⟨a, c, h1, h2⟩ => exact ⟨a, c, h1, h2.below hb⟩
  | 5, h => exact h
  | 6, ⟨a, c, h1, h2⟩ => exact ⟨a, c, h1, h2.below hb⟩
  | 7, ⟨a, c, h1, h2⟩ => exact ⟨a, c, h1, h2.below hb⟩
  | 8, h => exact h
  | 9, h => exact h
  | 10, h => exact h
  | 11, ⟨a, c, h1, h2⟩ => exact ⟨a, c, h1, h2.below hb⟩
  | 12, ⟨a, c, h1, h2⟩ => exact ⟨a, c, h1, h2.below hb⟩
  | 13, ⟨u, h1, h2, h3⟩ => exact ⟨u, h1, h2.below hb, h3⟩
  | _ + 14, ⟨pb, h1, h2, h3⟩ => exact ⟨pb, h1, h2, (hb.block _ (heap_lt h3)).trans h3⟩
set_option maxRecDepth 100000 in
set_option maxHeartbeats 16000000 in
theorem digestMore_walk (v : Bw) (m : Nat) (la0 : Option Addr) (lc0 : Nat) (l : List Cw) (ar ai : Int) (w : World) (h : BwAt w m v) (hl : Cms w la0 lc0 l) (htp : v.b.tips.length ≤ 1100000) (hB : BdA 1100000 3 v.b.tr) (hsz : szT 10 v.b.tr ≤ 1100000) (hA : okA (ar, ai)) :
    Calls Tryz.prog 5 #[.agg (bwcells v), .slice la0 l.length lc0, .agg #[.int .u8 ar, .int .u32 ai]] w (fun e w' => e = .returned (.bool true) ∧ Below w.heap.size w w') := by
  obtain ⟨⟨num, F, tips, t, tr⟩, fa, fc, ta, tc, ra, rc⟩ := v
  have H := Lib.hid h
  have HL := Lib.hid hl
  have HBd := Lib.hid hB
  have Hsz := Lib.hid hsz
  have HAk := Lib.hid hA
  dsimp only at htp
  have hlc := hl.sl.2.1
  have E : Hid (BoxM w ((w.alloc (.cells (basecells num fa F.length fc ta tips.length tc t ra tr.length rc) 32)).alloc (.cells #[.int .u8 ar, .int .u32 ai] 24)) (basecells num fa F.length fc ta tips.length tc t ra tr.length rc) #[.int .u8 ar, .int .u32 ai]) := Lib.hid ⟨(heap_old _ _ (by simp)).trans (heap_new _ _), by have := heap_new (w.alloc (.cells (basecells num fa F.length fc ta tips.length tc t ra tr.length rc) 32)) (.cells #[.int .u8 ar, .int .u32 ai] 24); simpa using this, ((Below.refl _ _).alloc (Nat.le_refl _) _).alloc (by simp) _⟩
  clear h hl hB hsz hA
  simp only [bwcells]
  go_enter Tryz.func5, Tryz.ntmps5
  go_wp2_with fail
  refine (both37_any ⟨⟨num, F, tips, t, tr⟩, fa, fc, ta, tc, ra, rc⟩ m la0 lc0 l _ (H.out.below E.out.bel) (HL.out.below E.out.bel) htp HBd.out Hsz.out).mono ?_
  intro e w1 hto
  rcases hto with ⟨rfl, hb⟩ | ⟨pg, mb, w0, b, L, va, vc, vv, pw, S, la, lc, rfl, hp, hL, hP, hA1⟩
  · have E1 := Lib.hid (E.out.step hb).bel
    clear hb
    go_wp2_with fail
    refine (known37_any _).mono ?_
    rintro e w2 ⟨rfl, hb⟩
    have E2 := Lib.hid (below2 E1.out hb E1.out.size)
    clear hb
    go_wp2_with fail
    go_ret
    exact ⟨rfl, E2.out⟩
  have E1 := Lib.hid (E.out.step hp.bel)
  have P1 := Lib.hid hp
  have Hlen := Lib.hid hL
  clear hp hP hA1 hL E
  have r1 := E1.out.b1
  go_upto_region 6 with (fail)
  have hgr := Lib.hid P1.out.gr
  have hW6 : Hid (Below w1.heap.size w1 w1.drew) := Lib.hid (Below.refl _ _).drew
  have hgb := getN_bd vv (ar, ai)
  clear r1
  refine RegI.region_put [26, 27, 28, 29, 30, 31, 32, 10] (fun x => Below w1.heap.size w1 x) (E6 w1 ar ai pg vv) 8 mixed (by kernel_rfl) hW6.out E6.mono ?_ ?_
  · intro i hi x wx hF hp
    have HF := Lib.hid hF
    have B6 := E1.out.step hF
    have d0 := cells_at B6.b1
    have z0 := heap_lt B6.b1
    clear hF hW6 B6
    have hc : i = 0 ∨ i = 1 ∨ i = 2 ∨ i = 3 ∨ i = 4 ∨ i = 5 ∨ i = 6 ∨ i = 7 := by omega
    rcases hc with rfl | rfl | rfl | rfl | rfl | rfl | rfl | rfl
    · clear hp
      simp only [List.getD_cons_succ, List.getD_cons_zero, RegI.putAll, Act.put, List.setIfInBounds_toArray, List.set_cons_succ, List.set_cons_zero]
      go_wp2_with fail
      exact ⟨_, by simp [RegI.upd], HF.out, Below.refl _ _, rfl⟩
    · clear hp
      simp only [List.getD_cons_succ, List.getD_cons_zero, RegI.putAll, Act.put, List.setIfInBounds_toArray, List.set_cons_succ, List.set_cons_zero]
      go_wp2_with fail
      exact ⟨_, by simp [RegI.upd], HF.out, Below.refl _ _, rfl⟩
    · have h1 : x 1 = .pointer (some ⟨pg, 0, none⟩) := hp 1 (by kernel_rfl)
      clear hp
      simp only [List.getD_cons_succ, List.getD_cons_zero, RegI.putAll, Act.put, List.setIfInBounds_toArray, List.set_cons_succ, List.set_cons_zero, h1]
      go_wp2_with fail
      refine (vv_G pg mb w0 3 b L va vc vv _ (hgr.out.below HF.out)).mono ?_
      rintro e w2 ⟨a, c, rfl, ho, hb⟩
      have HO := Lib.hid ho
      have HB2 := Lib.hid hb
      clear ho hb
      go_wp2_with fail
      exact ⟨_, by simp [RegI.upd, h1], below2 HF.out HB2.out HF.out.size, HB2.out, _, _, rfl, OwnD.base HO.out (Nat.zero_le _)⟩
    · clear hp
      simp only [List.getD_cons_succ, List.getD_cons_zero, RegI.putAll, Act.put, List.setIfInBounds_toArray, List.set_cons_succ, List.set_cons_zero]
      go_wp2_with fail
      exact ⟨_, by simp [RegI.upd], HF.out, Below.refl _ _, rfl⟩
    · obtain ⟨a, c, h2, ho⟩ : E6 w1 ar ai pg vv 2 (x 2) wx := hp 2 (by kernel_rfl)
      have h3 : x 3 = .agg #[.int .u8 ar, .int .u32 ai] := hp 3 (by kernel_rfl)
      have HO := Lib.hid ho
      have hvm := hgr.out.vmax
      clear hp ho
      simp only [List.getD_cons_succ, List.getD_cons_zero, RegI.putAll, Act.put, List.setIfInBounds_toArray, List.set_cons_succ, List.set_cons_zero, h2, h3]
      go_wp2_with fail
      refine (rget_any a c vv ar ai wx HO.out.vec (by omega)).mono ?_
      rintro e w2 ⟨rfl, hb⟩
      have HB2 := Lib.hid hb
      clear hb
      go_wp2_with fail
      exact ⟨_, by simp [RegI.upd, h2, h3], below2 HF.out HB2.out HF.out.size, HB2.out, rfl⟩
    · have h4 : x 4 = .int .u64 (getN vv (ar, ai)) := hp 4 (by kernel_rfl)
      clear hp
      simp only [List.getD_cons_succ, List.getD_cons_zero, RegI.putAll, Act.put, List.setIfInBounds_toArray, List.set_cons_succ, List.set_cons_zero, h4]
      go_wp2_with fail
      refine ⟨.int .u64 (getN vv (ar, ai) + 1), ?_, HF.out, Below.refl _ _, rfl⟩
      simp [RegI.upd, h4]
    · have h0 : x 0 = .agg #[.int .u8 ar, .int .u32 ai] := hp 0 (by kernel_rfl)
      have h5 : x 5 = .int .u64 (getN vv (ar, ai) + 1) := hp 5 (by kernel_rfl)
      clear hp
      simp only [List.getD_cons_succ, List.getD_cons_zero, RegI.putAll, Act.put, List.setIfInBounds_toArray, List.set_cons_succ, List.set_cons_zero, h0, h5]
      go_wp2_with fail
      exact ⟨_, by simp [RegI.upd, h0, h5], HF.out, Below.refl _ _, rfl⟩
    · clear hp
      have hAl := (Below.refl wx.heap.size wx).alloc (Nat.le_refl _) (.cells #[.int .u8 0, .int .u32 0, .int .u64 0] 49)
      have HAl := Lib.hid hAl
      clear hAl
      simp only [List.getD_cons_succ, List.getD_cons_zero, RegI.putAll, Act.put, List.setIfInBounds_toArray, List.set_cons_succ, List.set_cons_zero]
      go_wp2_with fail
      exact ⟨_, by simp [RegI.upd], below2 HF.out HAl.out HF.out.size, HAl.out, _, rfl, HF.out.size, heap_new _ _⟩
  intro x wx hF hE
  have h6 : x 6 = .agg #[.int .u8 ar, .int .u32 ai, .int .u64 (getN vv (ar, ai) + 1)] := hE 6 (by omega)
  obtain ⟨pd, h7, hpd, hbd⟩ : E6 w1 ar ai pg vv 7 (x 7) wx := hE 7 (by omega)
  have HF := Lib.hid hF
  have b0 := cells_at hbd
  have y0 := heap_lt hbd
  have f0 := free_at hbd
  have C3 : Hid (Chg [pd] wx (((wx.setCell ⟨pd, 0, none⟩ (.int .u8 ar)).setCell ⟨pd, 1, none⟩ (.int .u32 ai)).setCell ⟨pd, 2, none⟩ (.int .u64 (getN vv (ar, ai) + 1)))) := Lib.hid ((((Chg.refl [pd] wx).put _ _ (by simp)).put _ _ (by simp)).put _ _ (by simp))
  have D3 : Hid ((((wx.setCell ⟨pd, 0, none⟩ (.int .u8 ar)).setCell ⟨pd, 1, none⟩ (.int .u32 ai)).setCell ⟨pd, 2, none⟩ (.int .u64 (getN vv (ar, ai) + 1))).heap[pd]? = some (.cells #[.int .u8 ar, .int .u32 ai, .int .u64 (getN vv (ar, ai) + 1)] 49 (0, 0))) := Lib.hid (heap_setC (heap_setC (heap_setC hbd 0 _) 1 _) 2 _)
  have B3 : Hid (Below w1.heap.size w1 (((wx.setCell ⟨pd, 0, none⟩ (.int .u8 ar)).setCell ⟨pd, 1, none⟩ (.int .u32 ai)).setCell ⟨pd, 2, none⟩ (.int .u64 (getN vv (ar, ai) + 1)))) := Lib.hid (HF.out.trans (C3.out.below HF.out.size (fun k hk => by simp at hk; subst hk; exact hpd)))
  clear hF hE hW6 hbd C3
  simp only [List.getD_cons_succ, List.getD_cons_zero, RegI.putAll, Act.put, List.setIfInBounds_toArray, List.set_cons_succ, List.set_cons_zero, h6, h7]
  go_wp2_with fail
  clear b0 y0 f0
  generalize (((wx.setCell ⟨pd, 0, none⟩ (.int .u8 ar)).setCell ⟨pd, 1, none⟩ (.int .u32 ai)).setCell ⟨pd, 2, none⟩ (.int .u64 (getN vv (ar, ai) + 1))) = w2 at D3 B3 ⊢
  have E2 := Lib.hid (E1.out.step B3.out)
  have P2 := Lib.hid (P1.out.below B3.out)
  have hpgm : pg < w1.heap.size ∧ mb < w1.heap.size := by
    obtain ⟨es, ck, hh⟩ := P1.out.gr.map.block
    exact ⟨heap_lt P1.out.gr.blk, (Array.getElem?_eq_some_iff.1 hh).1⟩
  have hPd : Hid (pd ≠ pg ∧ pd ≠ mb) := Lib.hid ⟨by omega, by omega⟩
  clear P1 E1 B3 HF hgr h6 h7 hpd
  refine (of37_G _ (cms L) w2 (Coms.of P2.out.gr)).mono ?_
  rintro e w3 ⟨xa, xc, Sx, X, rfl, hpx, hsx, hX, mX, hox, hb⟩
  have E3 := Lib.hid (E2.out.step hb)
  have P3 := Lib.hid (P2.out.below hb)
  have D3' := (hb.block _ (heap_lt D3.out)).trans D3.out
  have DD := Lib.hid D3'
  have OX := Lib.hid hox
  have HX := Lib.hid hX
  have MX := Lib.hid mX
  have Hpx := Lib.hid hpx
  have Hsx := Lib.hid hsx
  clear hb D3 D3' E2 P2 hox hX mX hpx hsx
  go_upto_region 8 with (fail)
  generalize hsq : getN vv (ar, ai) + 1 = sq at *
  have hqb : 1 ≤ sq ∧ sq ≤ 1048577 := by omega
  have Hsq := Lib.hid hsq
  clear hsq hgb
  have W8 : Hid (Below w3.heap.size w3 w3.drew) := Lib.hid (Below.refl _ _).drew
  refine RegI.region_put [35, 36, 37, 38, 39, 40, 41, 42, 43, 44, 45, 46, 47, 48, 12] (fun x => Below w3.heap.size w3 x) (E8 w3 ((ar, ai), sq) pg vv) 15 mixed (by kernel_rfl) W8.out E8.mono ?_ ?_
  · intro i hi y wx hF hp
    have HF := Lib.hid hF
    have G := Lib.hid (P3.out.gr.below hF)
    have d0 := cells_at ((hF.block _ (heap_lt DD.out)).trans DD.out)
    have z0 := heap_lt ((hF.block _ (heap_lt DD.out)).trans DD.out)
    clear hF W8
    have hc : i = 0 ∨ i = 1 ∨ i = 2 ∨ i = 3 ∨ i = 4 ∨ i = 5 ∨ i = 6 ∨ i = 7 ∨ i = 8 ∨ i = 9 ∨ i = 10 ∨ i = 11 ∨ i = 12 ∨ i = 13 ∨ i = 14 := by omega
    rcases hc with rfl | rfl | rfl | rfl | rfl | rfl | rfl | rfl | rfl | rfl | rfl | rfl | rfl | rfl | rfl
    · clear hp
      simp only [List.getD_cons_succ, List.getD_cons_zero, RegI.putAll, Act.put, List.setIfInBounds_toArray, List.set_cons_succ, List.set_cons_zero]
      go_wp2_with fail
      exact ⟨_, by simp [RegI.upd], HF.out, Below.refl _ _, rfl⟩
    · clear hp
      simp only [List.getD_cons_succ, List.getD_cons_zero, RegI.putAll, Act.put, List.setIfInBounds_toArray, List.set_cons_succ, List.set_cons_zero]
      go_wp2_with fail
      exact ⟨_, by simp [RegI.upd], HF.out, Below.refl _ _, rfl⟩
    · have h1 : y 1 = .pointer (some ⟨pg, 0, none⟩) := hp 1 (by kernel_rfl)
      clear hp
      simp only [List.getD_cons_succ, List.getD_cons_zero, RegI.putAll, Act.put, List.setIfInBounds_toArray, List.set_cons_succ, List.set_cons_zero, h1]
      go_wp2_with fail
      refine (heads_G pg mb w0 3 b L va vc vv _ G.out).mono ?_
      rintro e w4 ⟨a, c, Hl, rfl, _, hok, _, ho, hb⟩
      have HO := Lib.hid ho
      have HB2 := Lib.hid hb
      have HK := Lib.hid hok
      clear ho hb hok
      go_wp2_with fail
      exact ⟨_, by simp [RegI.upd, h1], below2 HF.out HB2.out HF.out.size, HB2.out, _, _, _, rfl, OwnD.base HO.out (Nat.zero_le _), HK.out⟩
    · clear hp
      simp only [List.getD_cons_succ, List.getD_cons_zero, RegI.putAll, Act.put, List.setIfInBounds_toArray, List.set_cons_succ, List.set_cons_zero]
      go_wp2_with fail
      exact ⟨_, by simp [RegI.upd], HF.out, Below.refl _ _, rfl⟩
    · have h1 : y 3 = .pointer (some ⟨pg, 0, none⟩) := hp 3 (by kernel_rfl)
      clear hp
      simp only [List.getD_cons_succ, List.getD_cons_zero, RegI.putAll, Act.put, List.setIfInBounds_toArray, List.set_cons_succ, List.set_cons_zero, h1]
      go_wp2_with fail
      refine (vv_G pg mb w0 3 b L va vc vv _ G.out).mono ?_
      rintro e w4 ⟨a, c, rfl, ho, hb⟩
      have HO := Lib.hid ho
      have HB2 := Lib.hid hb
      clear ho hb
      go_wp2_with fail
      exact ⟨_, by simp [RegI.upd, h1], below2 HF.out HB2.out HF.out.size, HB2.out, _, _, rfl, OwnD.base HO.out (Nat.zero_le _)⟩
    · clear hp
      simp only [List.getD_cons_succ, List.getD_cons_zero, RegI.putAll, Act.put, List.setIfInBounds_toArray, List.set_cons_succ, List.set_cons_zero]
      go_wp2_with fail
      exact ⟨_, by simp [RegI.upd], HF.out, Below.refl _ _, rfl⟩
    · have h5 : y 5 = .agg #[.int .u8 ar, .int .u32 ai, .int .u64 sq] := hp 5 (by kernel_rfl)
      have HAl := Lib.hid ((Below.refl wx.heap.size wx).alloc (Nat.le_refl _) (.cells #[.int .u8 ar, .int .u32 ai, .int .u64 sq] 49))
      clear hp d0 z0
      simp only [List.getD_cons_succ, List.getD_cons_zero, RegI.putAll, Act.put, List.setIfInBounds_toArray, List.set_cons_succ, List.set_cons_zero, h5]
      go_wp2_with fail
      exact ⟨_, by simp [RegI.upd, h5], below2 HF.out HAl.out HF.out.size, HAl.out, _, _, rfl, OwnD.one wx (Nat.zero_le _) ar ai sq⟩
    · obtain ⟨a4, c4, h4, ho4⟩ : E8 w3 ((ar, ai), sq) pg vv 4 (y 4) wx := hp 4 (by kernel_rfl)
      obtain ⟨a6, c6, h6, ho6⟩ : E8 w3 ((ar, ai), sq) pg vv 6 (y 6) wx := hp 6 (by kernel_rfl)
      have HO4 := Lib.hid ho4
      have HO6 := Lib.hid ho6
      have hvm := G.out.vmax
      have hkd : okV [((ar, ai), sq)] := fun x hx => by
        rw [List.mem_singleton] at hx
        subst hx
        exact ⟨HAk.out, by dsimp only; omega, by dsimp only; omega⟩
      have HKd := Lib.hid hkd
      clear hp ho4 ho6 hkd
      simp only [List.getD_cons_succ, List.getD_cons_zero, RegI.putAll, Act.put, List.setIfInBounds_toArray, List.set_cons_succ, List.set_cons_zero, h4, h6]
      go_wp2_with fail
      refine (rjoin_any a4 a6 c4 c6 vv [((ar, ai), sq)] wx HO4.out.vec HO6.out.vec G.out.okv HKd.out (by omega) (by simp)).mono ?_
      rintro e w4 ⟨a, c, rfl, ho, hb⟩
      have HO := Lib.hid ho
      have HB2 := Lib.hid hb
      clear ho hb
      go_wp2_with fail
      exact ⟨_, by simp [RegI.upd, h4, h6], below2 HF.out HB2.out HF.out.size, HB2.out, _, _, rfl, OwnD.base HO.out (Nat.zero_le _)⟩
    · clear hp
      simp only [List.getD_cons_succ, List.getD_cons_zero, RegI.putAll, Act.put, List.setIfInBounds_toArray, List.set_cons_succ, List.set_cons_zero]
      go_wp2_with fail
      exact ⟨_, by simp [RegI.upd], HF.out, Below.refl _ _, rfl⟩
    · have h1 : y 8 = .pointer (some ⟨pg, 0, none⟩) := hp 8 (by kernel_rfl)
      clear hp
      simp only [List.getD_cons_succ, List.getD_cons_zero, RegI.putAll, Act.put, List.setIfInBounds_toArray, List.set_cons_succ, List.set_cons_zero, h1]
      go_wp2_with fail
      refine (time_G pg mb w0 3 b L va vc vv _ G.out).mono ?_
      rintro e w4 ⟨n, rfl, hT, hb⟩
      have HB2 := Lib.hid hb
      have hn : Hid (0 ≤ n ∧ n ≤ 1099511627776) := by
        obtain ⟨t1, _, t3⟩ := hT
        have t4 := G.out.base.t.1
        have t5 := G.out.bp.time
        rcases t3 with rfl | ⟨c, hc, rfl⟩
        · exact Lib.hid ⟨by omega, by omega⟩
        · obtain ⟨u, hu, rfl⟩ := List.mem_map.1 hc
          have := (G.out.may u hu).t2
          exact Lib.hid ⟨by omega, by omega⟩
      clear hb hT
      go_wp2_with fail
      exact ⟨_, by simp [RegI.upd, h1], below2 HF.out HB2.out HF.out.size, HB2.out, _, rfl, hn.out⟩
    · obtain ⟨n, h9, hn1, hn2⟩ : E8 w3 ((ar, ai), sq) pg vv 9 (y 9) wx := hp 9 (by kernel_rfl)
      clear hp
      simp only [List.getD_cons_succ, List.getD_cons_zero, RegI.putAll, Act.put, List.setIfInBounds_toArray, List.set_cons_succ, List.set_cons_zero, h9]
      go_wp2_with fail
      refine ⟨.int .u64 (n + 1), ?_, HF.out, Below.refl _ _, _, rfl, by omega, by omega⟩
      simp [RegI.upd, h9]
    · have HAl := Lib.hid ((Below.refl wx.heap.size wx).alloc (Nat.le_refl _) (.cells #[.string ⟨#[97]⟩] 9))
      clear hp d0 z0
      simp only [List.getD_cons_succ, List.getD_cons_zero, RegI.putAll, Act.put, List.setIfInBounds_toArray, List.set_cons_succ, List.set_cons_zero]
      go_wp2_with fail
      exact ⟨_, by simp [RegI.upd], below2 HF.out HAl.out HF.out.size, HAl.out, _, _, rfl, OwnS.one wx (Nat.zero_le _) _⟩
    · obtain ⟨a, c, h11, ho⟩ : E8 w3 ((ar, ai), sq) pg vv 11 (y 11) wx := hp 11 (by kernel_rfl)
      have HO := Lib.hid ho
      clear hp ho
      simp only [List.getD_cons_succ, List.getD_cons_zero, RegI.putAll, Act.put, List.setIfInBounds_toArray, List.set_cons_succ, List.set_cons_zero, h11]
      go_wp2_with fail
      exact ⟨_, by simp [RegI.upd, h11], HF.out, Below.refl _ _, _, _, rfl, HO.out⟩
    · have h0 : y 0 = .agg #[.int .u8 ar, .int .u32 ai, .int .u64 sq] := hp 0 (by kernel_rfl)
      obtain ⟨a2, c2, Hl, h2, ho2, hk2⟩ : E8 w3 ((ar, ai), sq) pg vv 2 (y 2) wx := hp 2 (by kernel_rfl)
      obtain ⟨a7, c7, h7, ho7⟩ : E8 w3 ((ar, ai), sq) pg vv 7 (y 7) wx := hp 7 (by kernel_rfl)
      obtain ⟨n, h10, hn1, hn2⟩ : E8 w3 ((ar, ai), sq) pg vv 10 (y 10) wx := hp 10 (by kernel_rfl)
      obtain ⟨a12, c12, h12, ho12⟩ : E8 w3 ((ar, ai), sq) pg vv 12 (y 12) wx := hp 12 (by kernel_rfl)
      have HO2 := Lib.hid ho2
      have HO7 := Lib.hid ho7
      have HO12 := Lib.hid ho12
      have HK2 := Lib.hid hk2
      clear hp ho2 ho7 ho12 hk2
      simp only [List.getD_cons_succ, List.getD_cons_zero, RegI.putAll, Act.put, List.setIfInBounds_toArray, List.set_cons_succ, List.set_cons_zero, h0, h2, h7, h10, h12]
      go_wp2_with fail
      refine ⟨.agg (cwcells ⟨⟨((ar, ai), sq), Hl, joinV vv [((ar, ai), sq)], n, ⟨1, 0, ⟨#[]⟩, [⟨#[97]⟩], []⟩⟩, a2, c2, a7, c7, a12, c12, none, 0⟩), ?_, HF.out, Below.refl _ _, _, rfl, ?_, rfl, ?_⟩
      · simp [RegI.upd, h0, h2, h7, h10, h12]
      · have hkd : okD ((ar, ai), sq) := ⟨HAk.out, by dsimp only; omega, by dsimp only; omega⟩
        exact ⟨HO2.out, HO7.out, HO12.out, OwnD.nil _ _, ⟨hkd, HK2.out, okV_joinV G.out.okv (fun x hx => by rw [List.mem_singleton] at hx; subst hx; exact hkd), ⟨hn1, by dsimp only; omega⟩, fun x hx => (by cases hx)⟩⟩
      · exact Nat.le_trans (vecOf_length _) (by decide)
    · have HAl := Lib.hid ((Below.refl wx.heap.size wx).alloc (Nat.le_refl _) (.cells (cwcells zeroCw) 54))
      clear hp d0 z0
      simp only [List.getD_cons_succ, List.getD_cons_zero, RegI.putAll, Act.put, List.setIfInBounds_toArray, List.set_cons_succ, List.set_cons_zero]
      go_wp2_with fail
      exact ⟨_, by simp [RegI.upd], below2 HF.out HAl.out HF.out.size, HAl.out, _, rfl, HF.out.size, heap_new _ _⟩
  intro y wx hF hE
  obtain ⟨u, h13, hcu, hud, huv⟩ : E8 w3 ((ar, ai), sq) pg vv 13 (y 13) wx := hE 13 (by omega)
  obtain ⟨pb, h14, hpb, hbb⟩ : E8 w3 ((ar, ai), sq) pg vv 14 (y 14) wx := hE 14 (by omega)
  obtain ⟨hput, hcg⟩ := put1 u hbb
  have HT := Lib.hid (there1 hbb)
  have B4 : Hid (Below w3.heap.size w3 (wx.setCells pb 0 (ccel u))) := Lib.hid (hF.trans (hcg.below hF.size (fun k hk => by simp at hk; subst hk; exact hpb)))
  have HC4 := Lib.hid (hcu.chg hcg (noRow_com hbb))
  have HPB := Lib.hid hput
  have Hud := Lib.hid hud
  clear hF hE hbb hput hcg hcu hud W8
  simp only [List.getD_cons_succ, List.getD_cons_zero, RegI.putAll, Act.put, List.setIfInBounds_toArray, List.set_cons_succ, List.set_cons_zero, h13, h14]
  clear h13 h14
  refine wpList_store_cw rfl _ _ rfl pb 0 u rfl rfl HT.out ?_
  clear HT
  generalize wx.setCells pb 0 (ccel u) = w4 at B4 HC4 HPB ⊢
  have E4 := Lib.hid (E3.out.step B4.out)
  have P4 := Lib.hid (P3.out.below B4.out)
  have D4 := Lib.hid ((B4.out.block _ (heap_lt DD.out)).trans DD.out)
  have OX4 := Lib.hid (OX.out.below B4.out)
  clear E3 P3 DD OX B4
  obtain ⟨⟨⟨⟨ur, ui⟩, us⟩, ups, uvv, ut, ⟨uk, un, ux, up, uds⟩⟩, qa, qc, ua, uc, pa, pc, da, dc⟩ := u
  have c0 := cells_at HPB.out
  simp only [cwcells, ccells] at c0
  have c1 := heap_lt HPB.out
  dsimp only at huv
  go_wp2_with fail
  refine (insert_G pg mb w0 3 b L va vc vv ⟨⟨⟨⟨ur, ui⟩, us⟩, ups, uvv, ut, ⟨uk, un, ux, up, uds⟩⟩, qa, qc, ua, uc, pa, pc, da, dc⟩ w4 P4.out.gr HC4.out.at_ huv).mono ?_
  intro e w5 hto
  unfold InsTo at hto
  dsimp only at hto
  generalize hkz : insE b.b.f (findC (cms L)) L.length _ = kz at hto
  obtain ⟨rfl, hto⟩ := hto
  clear c0 c1 HPB
  rcases hto with ⟨hz, hb⟩ | ⟨hz, u2, va', vc', hu2, hG, hc⟩
  · have E5 := Lib.hid (E4.out.step hb)
    have P5 := Lib.hid (P4.out.below hb)
    have t0 : ((kz : Int) != 0) = true := by simpa using hz
    clear hb E4 P4 D4 OX4 hkz hz
    go_upto_region 10 with (fail)
    have e0 := cells_at P5.out.rg.blk
    simp only [rgcells] at e0
    have e1 := heap_lt P5.out.rg.blk
    clear t0
    refine LenR.region_tree_at (fun k => k = pw) (sgOf [([0, 3, 4, 5, 6, 7], false), ([1], true), ([2, 8, 9, 10, 11, 12], false)]) mixed (by kernel_rfl) (by kernel_rfl) ?_
    simp only [sgOf, LenR.wpSgB, List.map_cons, List.map_nil, List.getD_cons_succ, List.getD_cons_zero]
    go_wp2_with fail
    have P5d := Lib.hid (P5.out.below ((Below.refl w5.heap.size w5).drew))
    refine (commits_G pg mb w0 3 b L va vc vv _ P5d.out.gr).mono ?_
    rintro e w6 ⟨ca, cc, ss, rfl, hpm, _, _, _, hb⟩
    have hh := Lib.hid (held_new P5d.out.rg.blk (P5d.out.below hb).rg.blk)
    have E6 := Lib.hid (E5.out.step ((Below.refl w5.heap.size w5).drew.trans hb)).bel
    have hl1 : ss.length = S.length := by
      have h1 := hpm.length_eq
      have h2 := P5.out.len
      simp only [cms, List.length_map] at h1
      omega
    have y1 : ((ss.length : Int) == (S.length : Int)) = true := by rw [hl1]; simp
    clear hpm hb e0 e1 hl1 P5d E5
    go_wp2_with fail
    refine And.intro hh.out ?_
    clear hh
    go_wp2_with fail
    refine (known37_any _).mono ?_
    rintro e w7 ⟨rfl, hb⟩
    have E7 := Lib.hid (below2 E6.out hb E6.out.size)
    clear hb
    go_wp2_with fail
    refine And.intro (And.intro (by kernel_rfl) ?rds) ?_
    case rds => simp [LenR.reads, LenR.readsN, readsIn, Act.eval]
    go_wp2_with fail
    go_ret
    exact ⟨rfl, E7.out⟩
  have hol : w.heap.size + 2 ≤ pg ∧ w.heap.size + 2 ≤ mb := by
    have h1 := P4.out.old
    have h2 := P4.out.gr.old
    simp at h1
    omega
  have Ed : Hid (BoxM w w5 (basecells num fa F.length fc ta tips.length tc t ra tr.length rc) #[.int .u8 ar, .int .u32 ai]) := Lib.hid ⟨heap_chg E4.out.b0 hc (by simp; omega), heap_chg E4.out.b1 hc (by simp; omega), E4.out.bel.trans (hc.below E4.out.bel.size (fun k hk => by simp at hk; rcases hk with rfl | rfl <;> omega))⟩
  have Dd := Lib.hid (heap_chg D4.out hc (by simpa using hPd.out))
  have OXd : Hid (OwnG w5 w2.heap.size xa xc X) := Lib.hid (owns_chg OX4.out hc (fun k hk hm => by
    obtain ⟨C, fr, hh⟩ := ob_row OX4.out k hk
    simp at hm
    rcases hm with rfl | rfl
    · rw [P4.out.gr.blk] at hh
      injection hh with hh
      injection hh with _ h2 _
      exact absurd h2 (by decide)
    · obtain ⟨es, ck, h2⟩ := P4.out.gr.map.block
      rw [h2] at hh
      cases hh))
  have Gd := Lib.hid hG
  have hcs : cms (L ++ [u2]) = cms L ++ [⟨((ur, ui), us), ups, uvv, ut, ⟨uk, un, ux, up, uds⟩⟩] := by simp [cms, hu2]
  have HS := Lib.hid (P4.out.hist.step P4.out.gr.okv HC4.out.ok.vv (n := L.length) (by rw [← P4.out.same]; exact hkz.trans hz))
  have HTt := Lib.hid P4.out.hist
  have Hcs := Lib.hid hcs
  have t0 : ((kz : Int) != 0) = false := by simp [hz]
  clear hz hu2 hG hc E4 P4 D4 OX4 hkz hol hcs HC4 hPd hpgm
  have E5 := Ed
  have D5 := Dd
  have OX5 := OXd
  have G5 := Gd
  clear Ed Dd OXd Gd
  go_wp2_with fail
  refine (of37_G _ (cms (L ++ [u2])) w5 (Coms.of G5.out)).mono ?_
  rintro e w6 ⟨ya, yc, Sy, Y, rfl, hpy, hsy, hY, mY, hoy, hb⟩
  rw [Hcs.out] at hpy
  obtain ⟨hun, g, hap, hga, hgu⟩ := dmr_one moC HTt.out HS.out Hpx.out hpy Hsx.out hsy
  rw [← hY, ← HX.out] at hun hap
  rw [Hud.out] at hga hgu
  dsimp only at hga hgu
  have hyl : Y.length ≤ 100000 := by
    have h1 := digs_len moC Sy
    have h2 := hpy.length_eq
    have h3 := Hlen.out
    rw [← hY] at h1
    simp [cms] at h2
    omega
  have hxl : X.length ≤ 100000 := by
    have h1 := digs_len moC Sx
    have h2 := Hpx.out.length_eq
    have h3 := Hlen.out
    rw [← HX.out] at h1
    simp [cms] at h2
    omega
  have E6 := Lib.hid (E5.out.step hb)
  have D6 := Lib.hid ((hb.block _ (heap_lt D5.out)).trans D5.out)
  have OX6 := Lib.hid (OX5.out.below hb)
  have G6 := Lib.hid (G5.out.below hb)
  have GY6 := Lib.hid hoy.gv
  have MY := Lib.hid mY
  have Hap := Lib.hid hap
  have Hyl := Lib.hid hyl
  have Hxl := Lib.hid hxl
  clear hb E5 D5 OX5 G5 hoy mY hap hyl hxl t0 hun hpy hsy hY
  go_wp2_with fail
  refine (apart37_any ya xa yc xc Y X _ GY6.out OX6.out.gv MY.out MX.out Hyl.out Hxl.out).mono ?_
  rintro e w7 ⟨pa1, pc1, PP, rfl, hpp, hop, hb⟩
  rw [Hap.out] at hpp
  obtain rfl := List.perm_singleton.1 hpp
  obtain ⟨⟨gr, gi⟩, gf, gu, gs⟩ := g
  dsimp only at hga hgu
  obtain ⟨rfl, rfl⟩ := Prod.mk.inj hga
  subst hgu
  have E7 := Lib.hid (E6.out.step hb)
  have D7 := Lib.hid ((hb.block _ (heap_lt D6.out)).trans D6.out)
  have OX7 := Lib.hid (OX6.out.below hb)
  have G7 := Lib.hid (G6.out.below hb)
  obtain ⟨gb, hgb⟩ := OwnG.ptr hop (by simp)
  subst hgb
  obtain ⟨ad, had, ⟨g0, g1, g2, g3, g4⟩, hgz⟩ := hop.gv.at_ (k := 0) rfl
  injection had with had
  subst had
  have k0 : w7.cell? ⟨gb, 0, none⟩ = some (.int .u8 gr) := g0
  have k1 : w7.cell? ⟨gb, 1, none⟩ = some (.int .u32 gi) := g1
  have k3 : w7.cell? ⟨gb, 3, none⟩ = some (.int .u64 gu) := g3
  have kz : gb < w7.heap.size := hgz
  clear g0 g1 g2 g3 g4 hgz
  clear hb E6 D6 OX6 G6 GY6 hpp hop MY Hap
  have d0 := cells_at D7.out
  have d1 := heap_lt D7.out
  have e0 := cells_at E7.out.b1
  have e1 := heap_lt E7.out.b1
  go_upto_region 12 with (fail)
  refine region_text [([0, 1, 2, 3, 4, 5, 6, 7, 8, 9, 10, 11, 12, 13, 14, 15, 16, 17, 18, 19, 20, 21, 23, 22, 24, 25, 26, 27, 28, 29, 30, 31], false)] mixed (by kernel_rfl) ?_
  simp only [wpSegs, List.map_cons, List.map_nil, List.getD_cons_succ, List.getD_cons_zero]
  go_wp2_with fail
  clear k0 k1 k3 kz d0 d1 e0 e1
  have Z0 := Lib.hid (Below.refl w7.heap.size w7).drew
  refine (of37_G _ (cms (L ++ [u2])) _ (Coms.of (G7.out.below Z0.out))).mono ?_
  rintro e w8 ⟨za, zc, Sz, Z, rfl, hpz, hsz2, hZ, mZ, hoz, hb⟩
  rw [Hcs.out] at hpz
  obtain ⟨hun, _⟩ := dmr_one moC HTt.out HS.out Hpx.out hpz Hsx.out hsz2
  rw [← hZ, ← HX.out] at hun
  have hzl : Z.length ≤ 100000 := by
    have h1 := digs_len moC Sz
    have h2 := hpz.length_eq
    have h3 := Hlen.out
    rw [← hZ] at h1
    simp [cms] at h2
    omega
  have hb8 := Z0.out.trans hb
  have E8' := Lib.hid (E7.out.step hb8).bel
  have OX8 := Lib.hid (OX7.out.below hb8)
  have GZ8 := Lib.hid hoz.gv
  have MZ := Lib.hid mZ
  have Hun := Lib.hid hun
  have Hzl := Lib.hid hzl
  clear hb hb8 E7 D7 OX7 G7 Z0 hoz mZ hun hpz hsz2 hZ hzl
  go_wp2_with fail
  refine (unlike37_any za xa zc xc Z X _ GZ8.out OX8.out.gv MZ.out MX.out Hun.out (by have := Hzl.out; omega) (by have := Hxl.out; omega)).mono ?_
  rintro e w9 ⟨rfl, hb⟩
  have E9 := Lib.hid (below2 E8'.out hb E8'.out.size)
  clear hb E8' OX8 GZ8 MZ Hun
  go_wp2_with fail
  refine (known37_any _).mono ?_
  rintro e w10 ⟨rfl, hb⟩
  have E10 := Lib.hid (below2 E9.out hb E9.out.size)
  clear hb
  go_wp2_with fail
  refine And.intro (by kernel_rfl) ?_
  go_wp2_with fail
  go_ret
  exact ⟨rfl, E10.out⟩



end Go.Proofs.YtaandcblndldmaaGreat
