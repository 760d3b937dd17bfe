/- The walk of EpochRises. -/
import Derived.Test.YtblahapjdgncfaaEpoD
import Derived.Laws.MakeOwn
namespace Go.Proofs.Ytblahapjdgncfaa
open Go.RowKit
set_option linter.unusedVariables false
set_option linter.unusedSimpArgs false

def zeroI (N : Nat) : Array Value := madeCells (Value.int .u32 0).cells (N * 1)
theorem make_incs (N : Nat) (hN : N ≤ 16) (W : World) : (Instr.makeSlice 45 (.int .i64 (N : Int)) (.int .i64 (N : Int))).run Try.prog W = .ok (.slice (some ⟨W.heap.size, 0, none⟩) N N) (W.alloc (.cells (zeroI N) 29)) := by
  obtain ⟨i0, hi0, hz0, hz1, hz2⟩ := info_parts Try.info_u32
  have h := run_makeSlice (P := Try.prog) W 45 29 i0 (.int .u32 0) Try.underlying45 hi0 hz0 .i64 .i64 N N (by omega) (Int.le_refl _) (by rw [hz1, Int.toNat_natCast]; omega) (by rw [hz2]; omega) (by omega)
  rw [hz1] at h
  simpa [zeroI] using h
theorem zeroI_size (N : Nat) : (zeroI N).size = N := by unfold zeroI; rw [size_madeCells, Nat.mul_one]
theorem ones_list {C : Array Value} {N : Nat} (hs : C.size = N) (h : ∀ i, i < N → C[i]? = some (.int .u32 1)) : C.toList = ucells (List.replicate N 1) := by
  refine List.ext_getElem? fun i => ?_
  rw [Array.getElem?_toList]
  by_cases hi : i < N
  · rw [h i hi]; simp [ucells, hi]
  · rw [Array.getElem?_eq_none (by omega), List.getElem?_eq_none (by simp [ucells]; omega)]
/-- behind k rounds of 'incs[i] = 1' -/
structure IncE (w wy : World) (pm n bn k : Nat) (C : Array Value) : Prop where
  mat : MatE w wy pm n newR
  lt : pm < bn
  size : C.size = n
  ones : ∀ i, i < k → C[i]? = some (.int .u32 1)
  now : wy.heap[bn]? = some (.cells #[.int .u64 0, .slice none 0 0] 72 (0, 0))
  own : wy.heap[bn + 1]? = some (.cells #[.int .u64 0, .slice none 0 0] 72 (0, 0))
  incs : wy.heap[bn + 2]? = some (.cells C 29 (0, 0))
theorem IncE.set {w wy : World} {pm n bn k : Nat} {C : Array Value} (h : IncE w wy pm n bn k C) (hk : k < n) : IncE w (wy.setCell ⟨bn + 2, k, none⟩ (.int .u32 1)) pm n bn (k + 1) (C.setIfInBounds k (.int .u32 1)) := by
  have hc : Chg [bn + 2] wy (wy.setCell ⟨bn + 2, k, none⟩ (.int .u32 1)) := Chg.setCell wy ⟨bn + 2, k, none⟩ _
  have hge := h.mat.ge
  have hlt := h.lt
  have hb : Below w.heap.size w (wy.setCell ⟨bn + 2, k, none⟩ (.int .u32 1)) := h.mat.below.setCell (by simp; omega) _
  obtain ⟨CC, P, hm⟩ := h.mat.mat
  have hm' : MatR (wy.setCell ⟨bn + 2, k, none⟩ (.int .u32 1)) AllB pm n newR := by
    refine ⟨CC, P, heap_chg hm.blk hc (by simp; omega), hm.size, hm.c0, hm.cP, hm.hF, hm.hn, fun j hj => ?_⟩
    rcases hm.rows j hj with h1 | ⟨p, a, h1, h2, h3⟩
    · exact .inl h1
    · cases h2
  refine ⟨⟨hm', h.mat.ok, h.mat.ge, hb⟩, h.lt, by simp [h.size], ?_, heap_chg h.now hc (by simp), heap_chg h.own hc (by simp), heap_setCell_same wy _ k _ _ _ h.incs⟩
  intro i hi
  by_cases e : i = k
  · subst e; rw [Array.getElem?_setIfInBounds_self_of_lt (by rw [h.size]; exact hk)]
  · rw [Array.getElem?_setIfInBounds_ne (by omega)]; exact h.ones i (by omega)
theorem IncE.start {w wr : World} {pm n : Nat} (h : MatE w wr pm n newR) : IncE w (((wr.alloc (.cells #[.int .u64 0, .slice none 0 0] 72)).alloc (.cells #[.int .u64 0, .slice none 0 0] 72)).alloc (.cells (zeroI n) 29)) pm n wr.heap.size 0 (zeroI n) :=
  ⟨((h.step ((Below.refl _ _).alloc (Nat.le_refl _) _)).step ((Below.refl _ _).alloc (Nat.le_refl _) _)).step ((Below.refl _ _).alloc (Nat.le_refl _) _), pm_lt h, zeroI_size n, fun i hi => absurd hi (Nat.not_lt_zero _),
   (heap_ne _ _ _ (by simp; omega)).trans ((heap_ne _ _ _ (by simp)).trans (heap_new wr _)), (heap_ne _ _ _ (by simp)).trans (heap_new2 wr _ _), heap_new3 wr _ _ _⟩
theorem IncE.done {w wy : World} {pm n bn : Nat} {C : Array Value} (h : IncE w wy pm n bn n C) (hn : n ≤ 16) : EpE w wy pm n bn newR (some ⟨bn + 2, 0, none⟩) n (List.replicate n 1) none 0 [] := by
  have hv : BoxV wy (bn + 1) none 0 [] := ⟨⟨rfl, .inl ⟨rfl, rfl⟩⟩, by intro d hd; simp at hd, by simp⟩
  obtain ⟨CC, P, hm⟩ := h.mat.mat
  refine ⟨h.mat, ⟨CC, P, hm.blk, hm.size, hm.c0, hm.cP, .inl rfl, hm.hn, fun j hj => .inl ?_⟩, h.lt, ⟨?_, by simpa using hn⟩, hv, ⟨0, none, 0, [], h.now, hv, by omega, by omega⟩, ⟨0, none, 0, [], h.own, hv, by omega, by omega⟩⟩
  · rcases hm.rows j hj with h1 | ⟨p, a, h1, h2, h3⟩
    · exact h1
    · cases h2
  rw [List.length_replicate]
  refine ⟨by simp [ucells], .inr ⟨bn + 2, n, C, rfl, Nat.le_refl _, h.incs, Nat.le_refl _, by unfold maxLen; omega, by rw [h.size, Nat.mul_one], ?_⟩⟩
  rw [← ones_list h.size h.ones, List.take_of_length_le (by simp [h.size])]

set_option maxRecDepth 100000 in
set_option maxHeartbeats 8000000 in
theorem epoch_walk (n : Int) (la va : Option Addr) (lc vc : Nat) (ys : List Ak) (us : List (List Dt)) (w : World) (hl : Acks w la lc ys) (hv : Vecs w va vc us) :
    Calls Try.prog 7 #[.int .i64 n, .slice la ys.length lc, .slice va us.length vc] w fun e w' => e = .returned (.bool true) ∧ Below w.heap.size w w' := by
  have hvm := hv.len
  unfold maxLen at hvm
  have Hl := Lib.hid hl
  have Hv := Lib.hid hv
  clear hl hv
  go_enter Try.func7, Try.ntmps7
  go_wp2_with fail
  refine (new_any n w).mono ?_
  rintro e w1 (⟨hn, rfl, rfl⟩ | ⟨hn, rfl, hM, hB⟩)
  · go_wp2_with fail
    refine (great18_any la lc ys _ Hl.out).mono ?_
    rintro e w2 ⟨rfl, hb2⟩
    have HB := Lib.hid hb2
    clear hb2
    cases hg : greatL ys with
    | true =>
      clear hg
      go_wp2_with fail
      refine (known18_any _).mono ?_
      rintro e w3 ⟨rfl, rfl⟩
      go_wp2_with fail
      go_ret
      exact ⟨rfl, HB.out⟩
    | false =>
      clear hg
      by_cases h60 : 60 < us.length
      · go_wp2_with fail
        refine (known18_any _).mono ?_
        rintro e w3 ⟨rfl, rfl⟩
        go_wp2_with fail
        go_ret
        exact ⟨rfl, HB.out⟩
      · have h60' : decide ((60 : Int) < us.length) = false := by simp; omega
        go_wp2_with fail
        refine (known18_any _).mono ?_
        rintro e w3 ⟨rfl, rfl⟩
        go_wp2_with fail
        go_ret
        exact ⟨rfl, HB.out⟩
  · obtain ⟨N, rfl⟩ : ∃ N : Nat, n = N := ⟨n.toNat, by omega⟩
    simp only [Int.toNat_natCast] at hM
    have E := Lib.hid (⟨hM.mono (fun _ _ => trivial), okR_new _, Nat.le_refl _, hB⟩ : MatE w w1 w.heap.size N newR)
    clear hM hB
    go_wp2_with fail
    refine (great18_any la lc ys _ (Hl.out.below E.out.below)).mono ?_
    rintro e w2 ⟨rfl, hb2⟩
    replace E := Lib.hid (E.out.step hb2)
    clear hb2
    cases hg : greatL ys with
    | true =>
      clear hg
      go_wp2_with fail
      refine (known18_any _).mono ?_
      rintro e w3 ⟨rfl, rfl⟩
      go_wp2_with fail
      go_ret
      exact ⟨rfl, E.out.below⟩
    | false =>
      have Hg := Lib.hid hg
      clear hg
      by_cases h60 : 60 < us.length
      · go_wp2_with fail
        refine (known18_any _).mono ?_
        rintro e w3 ⟨rfl, rfl⟩
        go_wp2_with fail
        go_ret
        exact ⟨rfl, E.out.below⟩
      · have h60' : decide ((60 : Int) < us.length) = false := by simp; omega
        have hys : ys.length ≤ 60 := by have := Hg.out; simp [greatL] at this; omega
        have Hgk := Lib.hid (show ∀ y ∈ ys, y.vv.length ≤ 40 ∧ y.incs.length ≤ 20 by
          have := Hg.out; simp only [greatL, Bool.or_eq_false_iff, List.any_eq_false] at this
          intro y hy; have := this.1 y hy; simp [greatK] at this; omega)
        clear Hg
        go_wp2_with fail
        go_loopw [38] (fun j wr => ∃ k : Nat, k ≤ us.length ∧ j = .int .i64 k ∧ Hid (∀ u ∈ us.take k, u.length ≤ 40) ∧ Hid (MatE w wr w.heap.size N newR)) (fun j _ => us.length - (intOf j).toNat)
        case atStart => exact ⟨0, Nat.zero_le _, rfl, Lib.hid (by simp), E⟩
        case round =>
          obtain ⟨k, hk, rfl, hle, EE⟩ := hrel
          clear E
          by_cases hlt : k < us.length
          · obtain ⟨u, hu⟩ : ∃ u, us[k]? = some u := ⟨us[k], by simp [hlt]⟩
            obtain ⟨ad, b, d, had, c0, hvu, hou, hl0⟩ := (Hv.out.below EE.out.below).at hu
            subst had
            have Hu := Lib.hid hu
            clear hu hvu hou
            by_cases h40 : 40 < u.length
            · go_wp2_with fail
              refine (known18_any _).mono ?_
              rintro e w3 ⟨rfl, rfl⟩
              go_wp2_with fail
              go_ret
              exact ⟨rfl, EE.out.below⟩
            · have h40' : decide ((40 : Int) < u.length) = false := by simp; omega
              go_wp2_with fail
              go_roundw
              case rel => exact ⟨k + 1, by omega, by go_num, Lib.hid (all_snoc (p := fun u => u.length ≤ 40) Hu.out hle.out (by omega)), EE⟩
              case measure => simp [intOf]; omega
          · have Hvl := Lib.hid (show ∀ u ∈ us, u.length ≤ 40 by intro u hu; exact hle.out u (by rwa [List.take_of_length_le (by omega)]))
            have hmk := make_incs N (by omega)
            have IE := Lib.hid (IncE.start EE.out)
            have hN16 : N ≤ 16 := by omega
            clear hle EE
            go_wp2_with fail
            generalize wr.heap.size = bn at IE ⊢
            go_loopw [53] (fun j wy => ∃ (m : Nat) (C : Array Value), m ≤ N ∧ j = .int .i64 m ∧ Hid (IncE w wy w.heap.size N bn m C)) (fun j _ => N - (intOf j).toNat)
            case atStart => exact ⟨0, zeroI N, Nat.zero_le _, rfl, IE⟩
            case round =>
              obtain ⟨m, C, hm, rfl, IX⟩ := hrel
              clear IE
              by_cases hmn : m < N
              · have ci := cells_at IX.out.incs
                have fi := free_at IX.out.incs
                obtain ⟨z, hz⟩ : ∃ z, C[m]? = some z := ⟨C[m]'(by rw [IX.out.size]; exact hmn), by simp [IX.out.size, hmn]⟩
                go_wp2_with fail
                go_roundw
                case rel => exact ⟨m + 1, _, by omega, by go_num, Lib.hid (IX.out.set hmn)⟩
                case measure => simp [intOf]; omega
              · obtain rfl : m = N := by omega
                have E := Lib.hid (IX.out.done hN16)
                clear IX
                go_wp2_with fail
                go_loopw [12, 13, 62] (fun x12 x13 j wx => ∃ (k : Nat) (R : Mx) (ia : Option Addr) (ic : Nat) (l : List Int) (ha : Option Addr) (hc : Nat) (has : List Dt), k ≤ ys.length ∧ j = .int .i64 k ∧ x12 = .slice ha has.length hc ∧ x13 = .slice ia l.length ic ∧ Hid (EpE w wx w.heap.size m bn R ia ic l ha hc has)) (fun _ _ j _ => ys.length - (intOf j).toNat)
                case atStart => exact ⟨0, newR, _, _, _, _, _, [], Nat.zero_le _, rfl, rfl, by simp, E⟩
                case round =>
                  obtain ⟨k, R, ia, ic, l, ha, hc, has, hk, rfl, rfl, rfl, HE⟩ := hrel
                  clear E
                  by_cases hlt : k < ys.length
                  · obtain ⟨⟨yr, yi, yl, yv⟩, hy⟩ : ∃ y, ys[k]? = some y := ⟨ys[k], by simp [hlt]⟩
                    obtain ⟨ad, ai, ci, av1, cv1, had, hat0, hl0⟩ := Hl.out.at hy
                    have hgk := Hgk.out _ (List.mem_of_getElem? hy)
                    obtain ⟨c0, c1, c2, c3, _, _, _⟩ := hat0.below HE.out.mat.below
                    have Hi1 := Lib.hid hat0.hi
                    have Hv1 := Lib.hid hat0.hv
                    have hok := hat0.ok
                    have hl1 : ad.block < _ := Nat.lt_of_lt_of_le hl0 HE.out.mat.below.size
                    clear hat0 hl0
                    dsimp only at c0 c1 c2 c3 hgk
                    obtain ⟨rn, rfl⟩ : ∃ rn : Nat, yr = rn := ⟨yr.toNat, by have := hok.1.1.1; dsimp only at this; omega⟩
                    have hrn : rn ≤ 255 := by have := hok.1.1.2; dsimp only at this; omega
                    subst had
                    have Hok := Lib.hid hok
                    clear hy hok
                    go_wp2_with fail
                    have hba : Below wr.heap.size wr (wr.alloc (.cells #[.int .u8 rn, .int .u32 yi, .slice ai yl.length ci, .slice av1 yv.length cv1] 51)) := (Below.refl _ wr).alloc (Nat.le_refl _) _
                    have hbx := heap_new wr (.cells #[.int .u8 rn, .int .u32 yi, .slice ai yl.length ci, .slice av1 yv.length cv1] 51)
                    have hq : bn + 2 ≤ wr.heap.size := HE.out.size
                    replace HE := Lib.hid (HE.out.step hba)
                    clear hba c0 c1 c2 c3 hl1
                    generalize wr.heap.size = q at hbx hq ⊢
                    refine (rmayK_any rn yi ai av1 ci cv1 yv.length yl yv m _ (Hi1.out.below HE.out.mat.below) hrn (by omega)).mono ?_
                    rintro e w3 ⟨rfl, hb3⟩
                    replace hbx := (hb3.block _ (heap_lt hbx)).trans hbx
                    replace HE := Lib.hid (HE.out.step hb3)
                    clear hb3
                    have hpq := HE.out.lt
                    cases hmk : mayK ⟨rn, yi, yl, yv⟩ m with
                    | false =>
                      clear hmk
                      have dx := cells_at hbx
                      go_wp2_with fail
                      refine (take_any rn yi ai av1 ci cv1 yl yv w.heap.size m R _ _ HE.out.fmat HE.out.mat.ok (Hi1.out.below HE.out.mat.below) (Hv1.out.below HE.out.mat.below) hrn Hok.out.2.2 (by omega) (by omega)).mono ?_
                      rintro e w5 ⟨rfl, hM, hch⟩
                      replace HE := Lib.hid (HE.out.take Hok.out hM hch)
                      clear hM hch hbx dx
                      generalize nextM (m : Int) R ⟨rn, yi, yl, yv⟩ = R2 at HE
                      by_cases hku : k < us.length
                      · obtain ⟨u, hu⟩ : ∃ u, us[k]? = some u := ⟨us[k], by simp [hku]⟩
                        obtain ⟨ae, b, d, hae, c0, hvu, hou, hl0⟩ := (Hv.out.below HE.out.mat.below).at hu
                        have hul := Hvl.out _ (List.mem_of_getElem? hu)
                        subst hae
                        have Hvu := Lib.hid hvu
                        have Hou := Lib.hid hou
                        clear hu hvu hou
                        go_wp2_with fail
                        refine (rjoin_any ha b hc d has u _ HE.out.has.vec Hvu.out HE.out.has.ok Hou.out (by have := HE.out.has.len; omega) (by omega)).mono ?_
                        rintro e w7 ⟨a7, c7, rfl, ho7, hb7⟩
                        have hjo := okV_joinV HE.out.has.ok Hou.out
                        have hsz := HE.out.size
                        replace HE := Lib.hid ((HE.out.step hb7).setH (⟨owns_base ho7 hsz, hjo, vecOf_length _⟩ : BoxV w7 (bn + 1) a7 c7 (joinV has u)))
                        clear hb7 ho7 hjo hsz c0 Hvu Hou
                        generalize joinV has u = has2 at HE ⊢
                        obtain ⟨nm, na, nc, nv, hnow⟩ := HE.out.now
                        have HN := Lib.hid hnow
                        have dn := cells_at hnow.box
                        have hn0 := hnow.lo
                        have hn1 := hnow.hi
                        clear hnow
                        go_wp2_with fail
                        refine (decide_any _ na _ nc _ nv nm w.heap.size m R2 AllB _ HE.out.mat.mat HE.out.mat.ok (u32_of HE.out.incs.own) (by have := HE.out.incs.len; omega) HN.out.vec.vec HN.out.vec.ok (by have := HN.out.vec.len; omega) hn0 (by omega)).mono ?_
                        rintro e w8 (⟨_, rfl, hb⟩ | ⟨dm, dv, hd, a8, c8, rfl, ho8, hb⟩)
                        · replace HE := Lib.hid (HE.out.step hb)
                          clear hb dn HN
                          go_wp2_with fail
                          go_roundw
                          case rel => exact ⟨k + 1, R2, _, _, _, _, _, _, by omega, by go_num, rfl, rfl, Lib.hid (HE.out.step ((Below.refl _ _).alloc (Nat.le_refl _) _))⟩
                          case measure => simp [intOf]; omega
                        · obtain ⟨hgt, hlo, hhi, hw1, hw2, hdo, hdl⟩ := decide_facts HE.out.mat.ok hn0 hd
                          have BD := Lib.hid (⟨owns_base ho8 HE.out.size, hdo, hdl⟩ : BoxV w8 (bn + 1) a8 c8 dv)
                          have hgt' : decide (dm ≤ nm) = false := by simp; omega
                          have Hw1 := Lib.hid hw1
                          have Hw2 := Lib.hid hw2
                          have hba : Below w8.heap.size w8 (w8.alloc (.cells #[.int .u64 dm, .slice a8 dv.length c8] 72)) := (Below.refl _ w8).alloc (Nat.le_refl _) _
                          have hbd := heap_new w8 (.cells #[.int .u64 dm, .slice a8 dv.length c8] 72)
                          replace HN := Lib.hid ((HN.out.chg (G := []) (Chg.of_below hb) (by simp) (by simp)).chg (G := []) (Chg.of_below hba) (by simp) (by simp))
                          replace HE := Lib.hid (HE.out.step hb)
                          have hq8 : bn + 2 ≤ w8.heap.size := HE.out.size
                          replace HE := Lib.hid (HE.out.step hba)
                          replace BD := Lib.hid (BD.out.chg (G := []) (Chg.of_below hba) (by simp))
                          clear hb hd hw1 hw2 hdo ho8 dn hba
                          have dn := cells_at HN.out.box
                          have dd := cells_at hbd
                          go_wp2_with fail
                          refine (rwithin_any na a8 nc c8 nv dv _ HN.out.vec.vec BD.out.vec HN.out.vec.ok (by have := HN.out.vec.len; omega) (by omega)).mono ?_
                          rintro e w9 ⟨rfl, hb⟩
                          rw [Hw1.out]
                          replace hbd := (hb.block _ (heap_lt hbd)).trans hbd
                          replace HN := Lib.hid (HN.out.chg (G := []) (Chg.of_below hb) (by simp) (by simp))
                          replace HE := Lib.hid (HE.out.step hb)
                          replace BD := Lib.hid (BD.out.chg (G := []) (Chg.of_below hb) (by simp))
                          clear hb dn dd
                          have dn := cells_at HN.out.box
                          have dd := cells_at hbd
                          go_wp2_with fail
                          refine (rwithin_any a8 na c8 nc dv nv _ BD.out.vec HN.out.vec.vec BD.out.ok (by omega) (by have := HN.out.vec.len; omega)).mono ?_
                          rintro e w10 ⟨rfl, hb⟩
                          rw [Hw2.out]
                          replace hbd := (hb.block _ (heap_lt hbd)).trans hbd
                          replace HN := Lib.hid (HN.out.chg (G := []) (Chg.of_below hb) (by simp) (by simp))
                          replace HE := Lib.hid (HE.out.step hb)
                          replace BD := Lib.hid (BD.out.chg (G := []) (Chg.of_below hb) (by simp))
                          clear hb dn dd
                          have dn := cells_at HN.out.box
                          have dd := cells_at hbd
                          have fn := free_at HN.out.box
                          obtain ⟨om, oa, oc, ov, hown⟩ := HE.out.own
                          have HO := Lib.hid hown
                          have dO := cells_at hown.box
                          have hne1 : ¬ w8.heap.size = bn := by omega
                          have hne2 : ¬ bn = w8.heap.size := by omega
                          have hne3 : ¬ w8.heap.size = bn + 1 := by omega
                          have hne4 : ¬ bn + 1 = w8.heap.size := by omega
                          clear hown Hw1 Hw2 hgt hgt'
                          go_wp2_with fail
                          have hpc := put2_chg w10 bn (.int .u64 dm) (.slice a8 dv.length c8)
                          replace hbd := heap_chg hbd hpc (by simp; omega)
                          replace HO := Lib.hid (HO.out.chg hpc (by simp) (by simp))
                          replace HE := Lib.hid (HE.out.setNow BD.out hlo hhi)
                          replace BD := Lib.hid (BD.out.chg hpc (by simp))
                          clear hpc dn dd dO fn HN
                          refine (judge_any dm om a8 oa _ c8 oc _ dv ov _ _ BD.out.vec HO.out.vec.vec HE.out.has.vec BD.out.ok HO.out.vec.ok HE.out.has.ok (by omega) (by have := HO.out.vec.len; omega) (by have := HE.out.has.len; omega)).mono ?_
                          rintro e w12 ⟨rfl, hb⟩
                          replace hbd := (hb.block _ (heap_lt hbd)).trans hbd
                          replace HO := Lib.hid (HO.out.chg (G := []) (Chg.of_below hb) (by simp) (by simp))
                          replace HE := Lib.hid (HE.out.step hb)
                          replace BD := Lib.hid (BD.out.chg (G := []) (Chg.of_below hb) (by simp))
                          clear hb
                          obtain ⟨jn, hjn⟩ : ∃ jn, jn = judgeN dm om dv ov has2 := ⟨_, rfl⟩
                          rw [← hjn]
                          by_cases hj : jn = 1
                          · obtain ⟨hgo, hw3, hw4⟩ := judge_facts (hjn.symm.trans hj)
                            have hgo' : decide (dm ≤ om) = false := by simp; omega
                            have Hw3 := Lib.hid hw3
                            have Hw4 := Lib.hid hw4
                            subst hj
                            clear hjn hw3 hw4
                            have dO := cells_at HO.out.box
                            have dd := cells_at hbd
                            go_wp2_with fail
                            refine (rwithin_any oa a8 oc c8 ov dv _ HO.out.vec.vec BD.out.vec HO.out.vec.ok (by have := HO.out.vec.len; omega) (by omega)).mono ?_
                            rintro e w13 ⟨rfl, hb⟩
                            rw [Hw4.out]
                            replace hbd := (hb.block _ (heap_lt hbd)).trans hbd
                            replace HO := Lib.hid (HO.out.chg (G := []) (Chg.of_below hb) (by simp) (by simp))
                            replace HE := Lib.hid (HE.out.step hb)
                            replace BD := Lib.hid (BD.out.chg (G := []) (Chg.of_below hb) (by simp))
                            clear hb dO dd
                            have dO := cells_at HO.out.box
                            have dd := cells_at hbd
                            go_wp2_with fail
                            refine (rwithin_any a8 _ c8 _ dv has2 _ BD.out.vec HE.out.has.vec BD.out.ok (by omega) (by have := HE.out.has.len; omega)).mono ?_
                            rintro e w14 ⟨rfl, hb⟩
                            rw [Hw3.out]
                            replace hbd := (hb.block _ (heap_lt hbd)).trans hbd
                            replace HO := Lib.hid (HO.out.chg (G := []) (Chg.of_below hb) (by simp) (by simp))
                            replace HE := Lib.hid (HE.out.step hb)
                            replace BD := Lib.hid (BD.out.chg (G := []) (Chg.of_below hb) (by simp))
                            clear hb dO dd
                            have dO := cells_at HO.out.box
                            have dd := cells_at hbd
                            have fO := free_at HO.out.box
                            go_wp2_with fail
                            go_roundw
                            case rel => exact ⟨k + 1, R2, _, _, _, _, _, _, by omega, by go_num, rfl, rfl, Lib.hid (HE.out.setOwn BD.out hlo hhi)⟩
                            case measure => simp [intOf]; omega
                          · have hj' : (jn == 1) = false := by simpa using hj
                            clear hjn
                            go_wp2_with fail
                            go_roundw
                            case rel => exact ⟨k + 1, R2, _, _, _, _, _, _, by omega, by go_num, rfl, rfl, HE⟩
                            case measure => simp [intOf]; omega
                      · have hku' : decide ((k : Int) < us.length) = false := by simp; omega
                        obtain ⟨nm, na, nc, nv, hnow⟩ := HE.out.now
                        have HN := Lib.hid hnow
                        have dn := cells_at hnow.box
                        have hn0 := hnow.lo
                        have hn1 := hnow.hi
                        clear hnow
                        go_wp2_with fail
                        refine (decide_any _ na _ nc _ nv nm w.heap.size m R2 AllB _ HE.out.mat.mat HE.out.mat.ok (u32_of HE.out.incs.own) (by have := HE.out.incs.len; omega) HN.out.vec.vec HN.out.vec.ok (by have := HN.out.vec.len; omega) hn0 (by omega)).mono ?_
                        rintro e w8 (⟨_, rfl, hb⟩ | ⟨dm, dv, hd, a8, c8, rfl, ho8, hb⟩)
                        · replace HE := Lib.hid (HE.out.step hb)
                          clear hb dn HN
                          go_wp2_with fail
                          go_roundw
                          case rel => exact ⟨k + 1, R2, _, _, _, _, _, _, by omega, by go_num, rfl, rfl, Lib.hid (HE.out.step ((Below.refl _ _).alloc (Nat.le_refl _) _))⟩
                          case measure => simp [intOf]; omega
                        · obtain ⟨hgt, hlo, hhi, hw1, hw2, hdo, hdl⟩ := decide_facts HE.out.mat.ok hn0 hd
                          have BD := Lib.hid (⟨owns_base ho8 HE.out.size, hdo, hdl⟩ : BoxV w8 (bn + 1) a8 c8 dv)
                          have hgt' : decide (dm ≤ nm) = false := by simp; omega
                          have Hw1 := Lib.hid hw1
                          have Hw2 := Lib.hid hw2
                          have hba : Below w8.heap.size w8 (w8.alloc (.cells #[.int .u64 dm, .slice a8 dv.length c8] 72)) := (Below.refl _ w8).alloc (Nat.le_refl _) _
                          have hbd := heap_new w8 (.cells #[.int .u64 dm, .slice a8 dv.length c8] 72)
                          replace HN := Lib.hid ((HN.out.chg (G := []) (Chg.of_below hb) (by simp) (by simp)).chg (G := []) (Chg.of_below hba) (by simp) (by simp))
                          replace HE := Lib.hid (HE.out.step hb)
                          have hq8 : bn + 2 ≤ w8.heap.size := HE.out.size
                          replace HE := Lib.hid (HE.out.step hba)
                          replace BD := Lib.hid (BD.out.chg (G := []) (Chg.of_below hba) (by simp))
                          clear hb hd hw1 hw2 hdo ho8 dn hba
                          have dn := cells_at HN.out.box
                          have dd := cells_at hbd
                          go_wp2_with fail
                          refine (rwithin_any na a8 nc c8 nv dv _ HN.out.vec.vec BD.out.vec HN.out.vec.ok (by have := HN.out.vec.len; omega) (by omega)).mono ?_
                          rintro e w9 ⟨rfl, hb⟩
                          rw [Hw1.out]
                          replace hbd := (hb.block _ (heap_lt hbd)).trans hbd
                          replace HN := Lib.hid (HN.out.chg (G := []) (Chg.of_below hb) (by simp) (by simp))
                          replace HE := Lib.hid (HE.out.step hb)
                          replace BD := Lib.hid (BD.out.chg (G := []) (Chg.of_below hb) (by simp))
                          clear hb dn dd
                          have dn := cells_at HN.out.box
                          have dd := cells_at hbd
                          go_wp2_with fail
                          refine (rwithin_any a8 na c8 nc dv nv _ BD.out.vec HN.out.vec.vec BD.out.ok (by omega) (by have := HN.out.vec.len; omega)).mono ?_
                          rintro e w10 ⟨rfl, hb⟩
                          rw [Hw2.out]
                          replace hbd := (hb.block _ (heap_lt hbd)).trans hbd
                          replace HN := Lib.hid (HN.out.chg (G := []) (Chg.of_below hb) (by simp) (by simp))
                          replace HE := Lib.hid (HE.out.step hb)
                          replace BD := Lib.hid (BD.out.chg (G := []) (Chg.of_below hb) (by simp))
                          clear hb dn dd
                          have dn := cells_at HN.out.box
                          have dd := cells_at hbd
                          have fn := free_at HN.out.box
                          obtain ⟨om, oa, oc, ov, hown⟩ := HE.out.own
                          have HO := Lib.hid hown
                          have dO := cells_at hown.box
                          have hne1 : ¬ w8.heap.size = bn := by omega
                          have hne2 : ¬ bn = w8.heap.size := by omega
                          have hne3 : ¬ w8.heap.size = bn + 1 := by omega
                          have hne4 : ¬ bn + 1 = w8.heap.size := by omega
                          clear hown Hw1 Hw2 hgt hgt'
                          go_wp2_with fail
                          have hpc := put2_chg w10 bn (.int .u64 dm) (.slice a8 dv.length c8)
                          replace hbd := heap_chg hbd hpc (by simp; omega)
                          replace HO := Lib.hid (HO.out.chg hpc (by simp) (by simp))
                          replace HE := Lib.hid (HE.out.setNow BD.out hlo hhi)
                          replace BD := Lib.hid (BD.out.chg hpc (by simp))
                          clear hpc dn dd dO fn HN
                          refine (judge_any dm om a8 oa _ c8 oc _ dv ov _ _ BD.out.vec HO.out.vec.vec HE.out.has.vec BD.out.ok HO.out.vec.ok HE.out.has.ok (by omega) (by have := HO.out.vec.len; omega) (by have := HE.out.has.len; omega)).mono ?_
                          rintro e w12 ⟨rfl, hb⟩
                          replace hbd := (hb.block _ (heap_lt hbd)).trans hbd
                          replace HO := Lib.hid (HO.out.chg (G := []) (Chg.of_below hb) (by simp) (by simp))
                          replace HE := Lib.hid (HE.out.step hb)
                          replace BD := Lib.hid (BD.out.chg (G := []) (Chg.of_below hb) (by simp))
                          clear hb
                          obtain ⟨jn, hjn⟩ : ∃ jn, jn = judgeN dm om dv ov has := ⟨_, rfl⟩
                          rw [← hjn]
                          by_cases hj : jn = 1
                          · obtain ⟨hgo, hw3, hw4⟩ := judge_facts (hjn.symm.trans hj)
                            have hgo' : decide (dm ≤ om) = false := by simp; omega
                            have Hw3 := Lib.hid hw3
                            have Hw4 := Lib.hid hw4
                            subst hj
                            clear hjn hw3 hw4
                            have dO := cells_at HO.out.box
                            have dd := cells_at hbd
                            go_wp2_with fail
                            refine (rwithin_any oa a8 oc c8 ov dv _ HO.out.vec.vec BD.out.vec HO.out.vec.ok (by have := HO.out.vec.len; omega) (by omega)).mono ?_
                            rintro e w13 ⟨rfl, hb⟩
                            rw [Hw4.out]
                            replace hbd := (hb.block _ (heap_lt hbd)).trans hbd
                            replace HO := Lib.hid (HO.out.chg (G := []) (Chg.of_below hb) (by simp) (by simp))
                            replace HE := Lib.hid (HE.out.step hb)
                            replace BD := Lib.hid (BD.out.chg (G := []) (Chg.of_below hb) (by simp))
                            clear hb dO dd
                            have dO := cells_at HO.out.box
                            have dd := cells_at hbd
                            go_wp2_with fail
                            refine (rwithin_any a8 _ c8 _ dv has _ BD.out.vec HE.out.has.vec BD.out.ok (by omega) (by have := HE.out.has.len; omega)).mono ?_
                            rintro e w14 ⟨rfl, hb⟩
                            rw [Hw3.out]
                            replace hbd := (hb.block _ (heap_lt hbd)).trans hbd
                            replace HO := Lib.hid (HO.out.chg (G := []) (Chg.of_below hb) (by simp) (by simp))
                            replace HE := Lib.hid (HE.out.step hb)
                            replace BD := Lib.hid (BD.out.chg (G := []) (Chg.of_below hb) (by simp))
                            clear hb dO dd
                            have dO := cells_at HO.out.box
                            have dd := cells_at hbd
                            have fO := free_at HO.out.box
                            go_wp2_with fail
                            go_roundw
                            case rel => exact ⟨k + 1, R2, _, _, _, _, _, _, by omega, by go_num, rfl, rfl, Lib.hid (HE.out.setOwn BD.out hlo hhi)⟩
                            case measure => simp [intOf]; omega
                          · have hj' : (jn == 1) = false := by simpa using hj
                            clear hjn
                            go_wp2_with fail
                            go_roundw
                            case rel => exact ⟨k + 1, R2, _, _, _, _, _, _, by omega, by go_num, rfl, rfl, HE⟩
                            case measure => simp [intOf]; omega
                    | true =>
                      clear hmk
                      have dx := cells_at hbx
                      go_wp2_with fail
                      refine (rjoinIncs_any ia ai ic ci l yl _ (u32_of HE.out.incs.own) (Hi1.out.below HE.out.mat.below) (by have := HE.out.incs.len; omega) (by omega)).mono ?_
                      rintro e w4 ⟨a4, c4, rfl, ho4, hb4⟩
                      replace hbx := (hb4.block _ (heap_lt hbx)).trans hbx
                      have hjl := Nat.le_trans (joinI_le l yl) HE.out.incs.len
                      have hsz := HE.out.size
                      replace HE := Lib.hid ((HE.out.step hb4).setI (⟨owns_base ho4 hsz, hjl⟩ : BoxI w4 (bn + 1) a4 c4 (joinI l yl)))
                      clear hb4 ho4 dx hjl hsz
                      generalize joinI l yl = l2 at HE ⊢
                      have dx := cells_at hbx
                      go_wp2_with fail
                      refine (take_any rn yi ai av1 ci cv1 yl yv w.heap.size m R _ _ HE.out.fmat HE.out.mat.ok (Hi1.out.below HE.out.mat.below) (Hv1.out.below HE.out.mat.below) hrn Hok.out.2.2 (by omega) (by omega)).mono ?_
                      rintro e w5 ⟨rfl, hM, hch⟩
                      replace HE := Lib.hid (HE.out.take Hok.out hM hch)
                      clear hM hch hbx dx
                      generalize nextM (m : Int) R ⟨rn, yi, yl, yv⟩ = R2 at HE
                      by_cases hku : k < us.length
                      · obtain ⟨u, hu⟩ : ∃ u, us[k]? = some u := ⟨us[k], by simp [hku]⟩
                        obtain ⟨ae, b, d, hae, c0, hvu, hou, hl0⟩ := (Hv.out.below HE.out.mat.below).at hu
                        have hul := Hvl.out _ (List.mem_of_getElem? hu)
                        subst hae
                        have Hvu := Lib.hid hvu
                        have Hou := Lib.hid hou
                        clear hu hvu hou
                        go_wp2_with fail
                        refine (rjoin_any ha b hc d has u _ HE.out.has.vec Hvu.out HE.out.has.ok Hou.out (by have := HE.out.has.len; omega) (by omega)).mono ?_
                        rintro e w7 ⟨a7, c7, rfl, ho7, hb7⟩
                        have hjo := okV_joinV HE.out.has.ok Hou.out
                        have hsz := HE.out.size
                        replace HE := Lib.hid ((HE.out.step hb7).setH (⟨owns_base ho7 hsz, hjo, vecOf_length _⟩ : BoxV w7 (bn + 1) a7 c7 (joinV has u)))
                        clear hb7 ho7 hjo hsz c0 Hvu Hou
                        generalize joinV has u = has2 at HE ⊢
                        obtain ⟨nm, na, nc, nv, hnow⟩ := HE.out.now
                        have HN := Lib.hid hnow
                        have dn := cells_at hnow.box
                        have hn0 := hnow.lo
                        have hn1 := hnow.hi
                        clear hnow
                        go_wp2_with fail
                        refine (decide_any _ na _ nc _ nv nm w.heap.size m R2 AllB _ HE.out.mat.mat HE.out.mat.ok (u32_of HE.out.incs.own) (by have := HE.out.incs.len; omega) HN.out.vec.vec HN.out.vec.ok (by have := HN.out.vec.len; omega) hn0 (by omega)).mono ?_
                        rintro e w8 (⟨_, rfl, hb⟩ | ⟨dm, dv, hd, a8, c8, rfl, ho8, hb⟩)
                        · replace HE := Lib.hid (HE.out.step hb)
                          clear hb dn HN
                          go_wp2_with fail
                          go_roundw
                          case rel => exact ⟨k + 1, R2, _, _, _, _, _, _, by omega, by go_num, rfl, rfl, Lib.hid (HE.out.step ((Below.refl _ _).alloc (Nat.le_refl _) _))⟩
                          case measure => simp [intOf]; omega
                        · obtain ⟨hgt, hlo, hhi, hw1, hw2, hdo, hdl⟩ := decide_facts HE.out.mat.ok hn0 hd
                          have BD := Lib.hid (⟨owns_base ho8 HE.out.size, hdo, hdl⟩ : BoxV w8 (bn + 1) a8 c8 dv)
                          have hgt' : decide (dm ≤ nm) = false := by simp; omega
                          have Hw1 := Lib.hid hw1
                          have Hw2 := Lib.hid hw2
                          have hba : Below w8.heap.size w8 (w8.alloc (.cells #[.int .u64 dm, .slice a8 dv.length c8] 72)) := (Below.refl _ w8).alloc (Nat.le_refl _) _
                          have hbd := heap_new w8 (.cells #[.int .u64 dm, .slice a8 dv.length c8] 72)
                          replace HN := Lib.hid ((HN.out.chg (G := []) (Chg.of_below hb) (by simp) (by simp)).chg (G := []) (Chg.of_below hba) (by simp) (by simp))
                          replace HE := Lib.hid (HE.out.step hb)
                          have hq8 : bn + 2 ≤ w8.heap.size := HE.out.size
                          replace HE := Lib.hid (HE.out.step hba)
                          replace BD := Lib.hid (BD.out.chg (G := []) (Chg.of_below hba) (by simp))
                          clear hb hd hw1 hw2 hdo ho8 dn hba
                          have dn := cells_at HN.out.box
                          have dd := cells_at hbd
                          go_wp2_with fail
                          refine (rwithin_any na a8 nc c8 nv dv _ HN.out.vec.vec BD.out.vec HN.out.vec.ok (by have := HN.out.vec.len; omega) (by omega)).mono ?_
                          rintro e w9 ⟨rfl, hb⟩
                          rw [Hw1.out]
                          replace hbd := (hb.block _ (heap_lt hbd)).trans hbd
                          replace HN := Lib.hid (HN.out.chg (G := []) (Chg.of_below hb) (by simp) (by simp))
                          replace HE := Lib.hid (HE.out.step hb)
                          replace BD := Lib.hid (BD.out.chg (G := []) (Chg.of_below hb) (by simp))
                          clear hb dn dd
                          have dn := cells_at HN.out.box
                          have dd := cells_at hbd
                          go_wp2_with fail
                          refine (rwithin_any a8 na c8 nc dv nv _ BD.out.vec HN.out.vec.vec BD.out.ok (by omega) (by have := HN.out.vec.len; omega)).mono ?_
                          rintro e w10 ⟨rfl, hb⟩
                          rw [Hw2.out]
                          replace hbd := (hb.block _ (heap_lt hbd)).trans hbd
                          replace HN := Lib.hid (HN.out.chg (G := []) (Chg.of_below hb) (by simp) (by simp))
                          replace HE := Lib.hid (HE.out.step hb)
                          replace BD := Lib.hid (BD.out.chg (G := []) (Chg.of_below hb) (by simp))
                          clear hb dn dd
                          have dn := cells_at HN.out.box
                          have dd := cells_at hbd
                          have fn := free_at HN.out.box
                          obtain ⟨om, oa, oc, ov, hown⟩ := HE.out.own
                          have HO := Lib.hid hown
                          have dO := cells_at hown.box
                          have hne1 : ¬ w8.heap.size = bn := by omega
                          have hne2 : ¬ bn = w8.heap.size := by omega
                          have hne3 : ¬ w8.heap.size = bn + 1 := by omega
                          have hne4 : ¬ bn + 1 = w8.heap.size := by omega
                          clear hown Hw1 Hw2 hgt hgt'
                          go_wp2_with fail
                          have hpc := put2_chg w10 bn (.int .u64 dm) (.slice a8 dv.length c8)
                          replace hbd := heap_chg hbd hpc (by simp; omega)
                          replace HO := Lib.hid (HO.out.chg hpc (by simp) (by simp))
                          replace HE := Lib.hid (HE.out.setNow BD.out hlo hhi)
                          replace BD := Lib.hid (BD.out.chg hpc (by simp))
                          clear hpc dn dd dO fn HN
                          refine (judge_any dm om a8 oa _ c8 oc _ dv ov _ _ BD.out.vec HO.out.vec.vec HE.out.has.vec BD.out.ok HO.out.vec.ok HE.out.has.ok (by omega) (by have := HO.out.vec.len; omega) (by have := HE.out.has.len; omega)).mono ?_
                          rintro e w12 ⟨rfl, hb⟩
                          replace hbd := (hb.block _ (heap_lt hbd)).trans hbd
                          replace HO := Lib.hid (HO.out.chg (G := []) (Chg.of_below hb) (by simp) (by simp))
                          replace HE := Lib.hid (HE.out.step hb)
                          replace BD := Lib.hid (BD.out.chg (G := []) (Chg.of_below hb) (by simp))
                          clear hb
                          obtain ⟨jn, hjn⟩ : ∃ jn, jn = judgeN dm om dv ov has2 := ⟨_, rfl⟩
                          rw [← hjn]
                          by_cases hj : jn = 1
                          · obtain ⟨hgo, hw3, hw4⟩ := judge_facts (hjn.symm.trans hj)
                            have hgo' : decide (dm ≤ om) = false := by simp; omega
                            have Hw3 := Lib.hid hw3
                            have Hw4 := Lib.hid hw4
                            subst hj
                            clear hjn hw3 hw4
                            have dO := cells_at HO.out.box
                            have dd := cells_at hbd
                            go_wp2_with fail
                            refine (rwithin_any oa a8 oc c8 ov dv _ HO.out.vec.vec BD.out.vec HO.out.vec.ok (by have := HO.out.vec.len; omega) (by omega)).mono ?_
                            rintro e w13 ⟨rfl, hb⟩
                            rw [Hw4.out]
                            replace hbd := (hb.block _ (heap_lt hbd)).trans hbd
                            replace HO := Lib.hid (HO.out.chg (G := []) (Chg.of_below hb) (by simp) (by simp))
                            replace HE := Lib.hid (HE.out.step hb)
                            replace BD := Lib.hid (BD.out.chg (G := []) (Chg.of_below hb) (by simp))
                            clear hb dO dd
                            have dO := cells_at HO.out.box
                            have dd := cells_at hbd
                            go_wp2_with fail
                            refine (rwithin_any a8 _ c8 _ dv has2 _ BD.out.vec HE.out.has.vec BD.out.ok (by omega) (by have := HE.out.has.len; omega)).mono ?_
                            rintro e w14 ⟨rfl, hb⟩
                            rw [Hw3.out]
                            replace hbd := (hb.block _ (heap_lt hbd)).trans hbd
                            replace HO := Lib.hid (HO.out.chg (G := []) (Chg.of_below hb) (by simp) (by simp))
                            replace HE := Lib.hid (HE.out.step hb)
                            replace BD := Lib.hid (BD.out.chg (G := []) (Chg.of_below hb) (by simp))
                            clear hb dO dd
                            have dO := cells_at HO.out.box
                            have dd := cells_at hbd
                            have fO := free_at HO.out.box
                            go_wp2_with fail
                            go_roundw
                            case rel => exact ⟨k + 1, R2, _, _, _, _, _, _, by omega, by go_num, rfl, rfl, Lib.hid (HE.out.setOwn BD.out hlo hhi)⟩
                            case measure => simp [intOf]; omega
                          · have hj' : (jn == 1) = false := by simpa using hj
                            clear hjn
                            go_wp2_with fail
                            go_roundw
                            case rel => exact ⟨k + 1, R2, _, _, _, _, _, _, by omega, by go_num, rfl, rfl, HE⟩
                            case measure => simp [intOf]; omega
                      · have hku' : decide ((k : Int) < us.length) = false := by simp; omega
                        obtain ⟨nm, na, nc, nv, hnow⟩ := HE.out.now
                        have HN := Lib.hid hnow
                        have dn := cells_at hnow.box
                        have hn0 := hnow.lo
                        have hn1 := hnow.hi
                        clear hnow
                        go_wp2_with fail
                        refine (decide_any _ na _ nc _ nv nm w.heap.size m R2 AllB _ HE.out.mat.mat HE.out.mat.ok (u32_of HE.out.incs.own) (by have := HE.out.incs.len; omega) HN.out.vec.vec HN.out.vec.ok (by have := HN.out.vec.len; omega) hn0 (by omega)).mono ?_
                        rintro e w8 (⟨_, rfl, hb⟩ | ⟨dm, dv, hd, a8, c8, rfl, ho8, hb⟩)
                        · replace HE := Lib.hid (HE.out.step hb)
                          clear hb dn HN
                          go_wp2_with fail
                          go_roundw
                          case rel => exact ⟨k + 1, R2, _, _, _, _, _, _, by omega, by go_num, rfl, rfl, Lib.hid (HE.out.step ((Below.refl _ _).alloc (Nat.le_refl _) _))⟩
                          case measure => simp [intOf]; omega
                        · obtain ⟨hgt, hlo, hhi, hw1, hw2, hdo, hdl⟩ := decide_facts HE.out.mat.ok hn0 hd
                          have BD := Lib.hid (⟨owns_base ho8 HE.out.size, hdo, hdl⟩ : BoxV w8 (bn + 1) a8 c8 dv)
                          have hgt' : decide (dm ≤ nm) = false := by simp; omega
                          have Hw1 := Lib.hid hw1
                          have Hw2 := Lib.hid hw2
                          have hba : Below w8.heap.size w8 (w8.alloc (.cells #[.int .u64 dm, .slice a8 dv.length c8] 72)) := (Below.refl _ w8).alloc (Nat.le_refl _) _
                          have hbd := heap_new w8 (.cells #[.int .u64 dm, .slice a8 dv.length c8] 72)
                          replace HN := Lib.hid ((HN.out.chg (G := []) (Chg.of_below hb) (by simp) (by simp)).chg (G := []) (Chg.of_below hba) (by simp) (by simp))
                          replace HE := Lib.hid (HE.out.step hb)
                          have hq8 : bn + 2 ≤ w8.heap.size := HE.out.size
                          replace HE := Lib.hid (HE.out.step hba)
                          replace BD := Lib.hid (BD.out.chg (G := []) (Chg.of_below hba) (by simp))
                          clear hb hd hw1 hw2 hdo ho8 dn hba
                          have dn := cells_at HN.out.box
                          have dd := cells_at hbd
                          go_wp2_with fail
                          refine (rwithin_any na a8 nc c8 nv dv _ HN.out.vec.vec BD.out.vec HN.out.vec.ok (by have := HN.out.vec.len; omega) (by omega)).mono ?_
                          rintro e w9 ⟨rfl, hb⟩
                          rw [Hw1.out]
                          replace hbd := (hb.block _ (heap_lt hbd)).trans hbd
                          replace HN := Lib.hid (HN.out.chg (G := []) (Chg.of_below hb) (by simp) (by simp))
                          replace HE := Lib.hid (HE.out.step hb)
                          replace BD := Lib.hid (BD.out.chg (G := []) (Chg.of_below hb) (by simp))
                          clear hb dn dd
                          have dn := cells_at HN.out.box
                          have dd := cells_at hbd
                          go_wp2_with fail
                          refine (rwithin_any a8 na c8 nc dv nv _ BD.out.vec HN.out.vec.vec BD.out.ok (by omega) (by have := HN.out.vec.len; omega)).mono ?_
                          rintro e w10 ⟨rfl, hb⟩
                          rw [Hw2.out]
                          replace hbd := (hb.block _ (heap_lt hbd)).trans hbd
                          replace HN := Lib.hid (HN.out.chg (G := []) (Chg.of_below hb) (by simp) (by simp))
                          replace HE := Lib.hid (HE.out.step hb)
                          replace BD := Lib.hid (BD.out.chg (G := []) (Chg.of_below hb) (by simp))
                          clear hb dn dd
                          have dn := cells_at HN.out.box
                          have dd := cells_at hbd
                          have fn := free_at HN.out.box
                          obtain ⟨om, oa, oc, ov, hown⟩ := HE.out.own
                          have HO := Lib.hid hown
                          have dO := cells_at hown.box
                          have hne1 : ¬ w8.heap.size = bn := by omega
                          have hne2 : ¬ bn = w8.heap.size := by omega
                          have hne3 : ¬ w8.heap.size = bn + 1 := by omega
                          have hne4 : ¬ bn + 1 = w8.heap.size := by omega
                          clear hown Hw1 Hw2 hgt hgt'
                          go_wp2_with fail
                          have hpc := put2_chg w10 bn (.int .u64 dm) (.slice a8 dv.length c8)
                          replace hbd := heap_chg hbd hpc (by simp; omega)
                          replace HO := Lib.hid (HO.out.chg hpc (by simp) (by simp))
                          replace HE := Lib.hid (HE.out.setNow BD.out hlo hhi)
                          replace BD := Lib.hid (BD.out.chg hpc (by simp))
                          clear hpc dn dd dO fn HN
                          refine (judge_any dm om a8 oa _ c8 oc _ dv ov _ _ BD.out.vec HO.out.vec.vec HE.out.has.vec BD.out.ok HO.out.vec.ok HE.out.has.ok (by omega) (by have := HO.out.vec.len; omega) (by have := HE.out.has.len; omega)).mono ?_
                          rintro e w12 ⟨rfl, hb⟩
                          replace hbd := (hb.block _ (heap_lt hbd)).trans hbd
                          replace HO := Lib.hid (HO.out.chg (G := []) (Chg.of_below hb) (by simp) (by simp))
                          replace HE := Lib.hid (HE.out.step hb)
                          replace BD := Lib.hid (BD.out.chg (G := []) (Chg.of_below hb) (by simp))
                          clear hb
                          obtain ⟨jn, hjn⟩ : ∃ jn, jn = judgeN dm om dv ov has := ⟨_, rfl⟩
                          rw [← hjn]
                          by_cases hj : jn = 1
                          · obtain ⟨hgo, hw3, hw4⟩ := judge_facts (hjn.symm.trans hj)
                            have hgo' : decide (dm ≤ om) = false := by simp; omega
                            have Hw3 := Lib.hid hw3
                            have Hw4 := Lib.hid hw4
                            subst hj
                            clear hjn hw3 hw4
                            have dO := cells_at HO.out.box
                            have dd := cells_at hbd
                            go_wp2_with fail
                            refine (rwithin_any oa a8 oc c8 ov dv _ HO.out.vec.vec BD.out.vec HO.out.vec.ok (by have := HO.out.vec.len; omega) (by omega)).mono ?_
                            rintro e w13 ⟨rfl, hb⟩
                            rw [Hw4.out]
                            replace hbd := (hb.block _ (heap_lt hbd)).trans hbd
                            replace HO := Lib.hid (HO.out.chg (G := []) (Chg.of_below hb) (by simp) (by simp))
                            replace HE := Lib.hid (HE.out.step hb)
                            replace BD := Lib.hid (BD.out.chg (G := []) (Chg.of_below hb) (by simp))
                            clear hb dO dd
                            have dO := cells_at HO.out.box
                            have dd := cells_at hbd
                            go_wp2_with fail
                            refine (rwithin_any a8 _ c8 _ dv has _ BD.out.vec HE.out.has.vec BD.out.ok (by omega) (by have := HE.out.has.len; omega)).mono ?_
                            rintro e w14 ⟨rfl, hb⟩
                            rw [Hw3.out]
                            replace hbd := (hb.block _ (heap_lt hbd)).trans hbd
                            replace HO := Lib.hid (HO.out.chg (G := []) (Chg.of_below hb) (by simp) (by simp))
                            replace HE := Lib.hid (HE.out.step hb)
                            replace BD := Lib.hid (BD.out.chg (G := []) (Chg.of_below hb) (by simp))
                            clear hb dO dd
                            have dO := cells_at HO.out.box
                            have dd := cells_at hbd
                            have fO := free_at HO.out.box
                            go_wp2_with fail
                            go_roundw
                            case rel => exact ⟨k + 1, R2, _, _, _, _, _, _, by omega, by go_num, rfl, rfl, Lib.hid (HE.out.setOwn BD.out hlo hhi)⟩
                            case measure => simp [intOf]; omega
                          · have hj' : (jn == 1) = false := by simpa using hj
                            clear hjn
                            go_wp2_with fail
                            go_roundw
                            case rel => exact ⟨k + 1, R2, _, _, _, _, _, _, by omega, by go_num, rfl, rfl, HE⟩
                            case measure => simp [intOf]; omega
                  · go_wp2_with fail
                    refine (known18_any _).mono ?_
                    rintro e w3 ⟨rfl, rfl⟩
                    go_wp2_with fail
                    go_ret
                    exact ⟨rfl, HE.out.mat.below⟩
end Go.Proofs.Ytblahapjdgncfaa
