/- slices.Compact of sorted dots: the walk. -/
import Derived.Test.YtmabjghjkgicgaaGreatFuseD
namespace Go.Proofs.YtmabjghjkgicgaaGreat
open Go.RowKit
set_option linter.unusedVariables false
set_option linter.unusedSimpArgs false

theorem upTo_of_ne {l : List Dt} (hs : upS l) {k : Nat} (h : upTo ltD l (k + 1)) {x y : Dt} (hy : l[k]? = some y) (hx : l[k + 1]? = some x) (hne : x ≠ y) : upTo ltD l (k + 2) :=
  h.succ hy hx ((upS_le hs (Nat.le_succ k) hy hx).elim (fun e => absurd e.symm hne) id)
theorem set_dcells (v : List Dt) (k : Nat) (d : Dt) (hk : k < v.length) : (((dcells v).set (k * 3) (.int .u8 d.1.1)).set (k * 3 + 1) (.int .u32 d.1.2)).set (k * 3 + 2) (.int .u64 d.2) = dcells (v.set k d) := by
  induction v generalizing k with
  | nil => simp at hk
  | cons a v ih =>
    cases k with
    | zero => simp [dcells, dcell]
    | succ k =>
      have := ih k (by simpa using hk)
      simp only [dcells, List.flatMap_cons, List.set_cons_succ] at this ⊢
      rw [← this]
      simp only [dcell, List.cons_append, List.nil_append, show (k + 1) * 3 = k * 3 + 1 + 1 + 1 by omega, show k * 3 + 1 + 1 + 1 + 1 = k * 3 + 1 + 1 + 1 + 1 from rfl, List.set_cons_succ]
theorem OwnD.put {w : World} {base g c k : Nat} {v : List Dt} (h : OwnD w base (some ⟨g, 0, none⟩) c v) (hk : k < v.length) (d : Dt) :
    OwnD (((w.setCell ⟨g, k * 3, none⟩ (.int .u8 d.1.1)).setCell ⟨g, k * 3 + 1, none⟩ (.int .u32 d.1.2)).setCell ⟨g, k * 3 + 2, none⟩ (.int .u64 d.2)) base (some ⟨g, 0, none⟩) c (v.set k d) := by
  have h1 := (((World.ownsRow.stored h (k * 3) (.int .u8 d.1.1)).1.stored (k * 3 + 1) (.int .u32 d.1.2)).1.stored (k * 3 + 2) (.int .u64 d.2)).1
  rw [set_dcells v k d hk] at h1
  unfold OwnD
  rw [List.length_set]
  exact h1
theorem OwnD.at {w : World} {base g c : Nat} {v : List Dt} (h : OwnD w base (some ⟨g, 0, none⟩) c v) {k : Nat} {d : Dt} (hd : v[k]? = some d) :
    w.cell? ⟨g, k * 3, none⟩ = some (.int .u8 d.1.1) ∧ w.cell? ⟨g, k * 3 + 1, none⟩ = some (.int .u32 d.1.2) ∧ w.cell? ⟨g, k * 3 + 2, none⟩ = some (.int .u64 d.2) := by
  have hk := (List.getElem?_eq_some_iff.1 hd).1
  have h0 := World.ownsRow.cellAt (g := g) h (k * 3) (by omega)
  have h1 := World.ownsRow.cellAt (g := g) h (k * 3 + 1) (by omega)
  have h2 := World.ownsRow.cellAt (g := g) h (k * 3 + 2) (by omega)
  have e0 := dcells_at hd 0 (by omega)
  have e1 := dcells_at hd 1 (by omega)
  have e2 := dcells_at hd 2 (by omega)
  exact ⟨h0.trans e0, h1.trans e1, h2.trans e2⟩
theorem chg_drew {F : List Nat} {w w' : World} (h : Chg F w w') : Chg F w w'.drew := h.trans (Chg.drew [] _) (by simp)
theorem chg_set3 {w w' : World} {g : Nat} (h : Chg [g] w w') (i j k : Nat) (x y z : Value) : Chg [g] w (((w'.setCell ⟨g, i, none⟩ x).setCell ⟨g, j, none⟩ y).setCell ⟨g, k, none⟩ z) :=
  ((h.trans (Chg.setCell _ _ _) (by simp)).trans (Chg.setCell _ _ _) (by simp)).trans (Chg.setCell _ _ _) (by simp)
theorem wpList_clear_run {w w' : World} {ops : Array Oper} {rest : List Oper} {o : Oper} {a : Act} {Q : Exit → Act → World → Prop} (hgd : o.guard = none) (x : Operand) (t : TypeId)
    (ho : o.op = .call { callee := .builtin .clear, args := #[x], argTypes := #[t] }) (v : Value)
    (hrun : (Builtin.clear_ #[t] o.type #[a.eval x]).run Tryz.prog w = .ok v w')
    (h : wpList Tryz.prog ops Q rest (a.put o.dst v) w') : wpList Tryz.prog ops Q (o :: rest) a w := by
  refine wpList_plain hgd fun K hK => ?_
  unfold Oper.wp
  simp [execOp, ho, resolve, invoke, builtin, hrun, Result.andThen]
  exact hK _ _ h
theorem OwnD.free {w : World} {base g c : Nat} {v : List Dt} (h : OwnD w base (some ⟨g, 0, none⟩) c v) (j : Nat) : w.frozen? ⟨g, j, none⟩ = false := World.ownsRow.frozenAt h j
theorem OwnD.cap {w : World} {base c : Nat} {a : Option Addr} {v : List Dt} (h : OwnD w base a c v) : v.length ≤ c := h.vec.cap
theorem OwnD.form {w : World} {base c : Nat} {a : Option Addr} {v : List Dt} (h : OwnD w base a c v) (hv : v ≠ []) : ∃ g, a = some ⟨g, 0, none⟩ ∧ base ≤ g ∧ g < w.heap.size := by
  rcases h.2 with ⟨h1, h2⟩ | ⟨g, cap, cur, h1, hb, hg, _⟩
  · simp at h1; exact absurd h1.2.1 hv
  · simp at h1; exact ⟨g, h1.1, hb, heap_lt hg⟩
set_option maxRecDepth 100000 in
set_option maxHeartbeats 4000000 in
theorem compact_any (a : Option Addr) (c base : Nat) (l : List Dt) (w : World) (h : OwnD w base a c l) (hs : upS l) (hn : l.length ≤ 3000000) :
    Calls Tryz.prog 69 #[.slice a l.length c] w fun e w' => ∃ v', e = .returned (.slice a v'.length c) ∧ v'.Pairwise ltD ∧ (∀ d, d ∈ v' ↔ d ∈ l) ∧ OwnD w' base a c v' ∧ Chg (ob a) w w' := by
  have Hs := Lib.hid hs
  by_cases h2 : l.length < 2
  · have He := Lib.hid (show l.Pairwise ltD by
      match l, h2 with
      | [], _ => exact .nil
      | [x], _ => exact List.pairwise_singleton _ _)
    have H := Lib.hid h
    have h2' : decide ((l.length : Int) < 2) = true := by simp; omega
    clear h hs
    go_enter Tryz.func69, Tryz.ntmps69
    go_wp2_with fail
    go_ret
    exact ⟨l, rfl, He.out, fun _ => Iff.rfl, H.out, Chg.refl _ _⟩
  · obtain ⟨g, rfl, hbg, hgl⟩ := h.form (fun e => by subst e; simp at h2)
    have H := Lib.hid h
    have hcap := h.cap
    have h2' : decide ((l.length : Int) < 2) = false := by simp; omega
    clear h hs
    go_enter Tryz.func69, Tryz.ntmps69
    go_wp2_with fail
    go_loopw [3] (fun j wr => ∃ k : Nat, 1 ≤ k ∧ k ≤ l.length ∧ j = .int .i64 k ∧ Hid (upTo ltD l k) ∧ Hid (OwnD wr base (some ⟨g, 0, none⟩) c l) ∧ Hid (Chg [g] w wr)) (fun j _ => l.length - (intOf j).toNat)
    case atStart => exact ⟨1, Nat.le_refl _, by omega, rfl, Lib.hid upTo.one, H, Lib.hid (Chg.refl _ _)⟩
    case round =>
      obtain ⟨k, hk1, hk, rfl, hup, ho, hC⟩ := hrel
      by_cases hlt : k < l.length
      · obtain ⟨m, rfl⟩ : ∃ m, k = m + 1 := ⟨k - 1, by omega⟩
        obtain ⟨⟨⟨r, i⟩, s⟩, hx⟩ : ∃ x, l[m + 1]? = some x := ⟨l[m + 1], by simp [hlt]⟩
        obtain ⟨⟨⟨r', i'⟩, s'⟩, hy⟩ : ∃ x, l[m]? = some x := ⟨l[m], by simp [show m < l.length by omega]⟩
        obtain ⟨c0, c1, c2⟩ := ho.out.at hx
        obtain ⟨e0, e1, e2⟩ := ho.out.at hy
        dsimp only at c0 c1 c2 e0 e1 e2
        have Hx := Lib.hid hx
        have Hy := Lib.hid hy
        clear hx hy
        cases hq : eqD ((r, i), s) ((r', i'), s') with
        | false =>
          have Hne := Lib.hid (show ((r, i), s) ≠ ((r', i'), s') from fun e => by rw [(eqD_iff _ _).2 e] at hq; cases hq)
          go_wp2_with fail
          refine region_text [([0, 1, 2, 3, 4, 5, 6, 7, 8, 9], false)] mixed (by kernel_rfl) ?_
          simp only [wpSegs, List.map_cons, List.map_nil, List.getD_cons_succ, List.getD_cons_zero]
          go_wp2_with fail
          refine And.intro (by kernel_rfl) ?_
          go_wp2_with fail
          go_roundw
          case rel => exact ⟨m + 2, by omega, by omega, by go_num, Lib.hid (upTo_of_ne Hs.out hup.out Hy.out Hx.out Hne.out), Lib.hid (ho.out.below (Below.refl _ _).drew), Lib.hid (chg_drew hC.out)⟩
          case measure => simp [intOf]; omega
        | true =>
          have Hst := Lib.hid (Cmp.start (k := m + 1) (by omega) hlt hup.out Hx.out (by rw [show m + 1 - 1 = m by omega, Hy.out, (eqD_iff _ _).1 hq]))
          have hs1 := fun W => slice_loD (some ⟨g, 0, none⟩) l.length c (m + 1) (by omega) hcap W
          obtain ⟨n2, hn2⟩ : ∃ n2, l.length = m + 1 + n2 := ⟨l.length - (m + 1), by omega⟩
          obtain ⟨c3, hc3⟩ : ∃ c3, c = m + 1 + c3 := ⟨c - (m + 1), by omega⟩
          rw [if_neg (by omega), show l.length - (m + 1) = n2 by omega, show c - (m + 1) = c3 by omega] at hs1
          simp only [Option.map_some, Addr.add, Nat.zero_add] at hs1
          have Hn2 := Lib.hid hn2
          have Hc3 := Lib.hid hc3
          have hn1 : 1 ≤ n2 := by omega
          have hn3 : n2 ≤ 3000000 := by omega
          clear hn2 hc3 c0 c1 c2 e0 e1 e2
          obtain ⟨c0, c1, c2⟩ := ho.out.at Hx.out
          obtain ⟨e0, e1, e2⟩ := ho.out.at Hy.out
          dsimp only at c0 c1 c2 e0 e1 e2
          go_wp2_with fail
          refine region_text [([0, 1, 2, 3, 4, 5, 6, 7, 8, 9], false)] mixed (by kernel_rfl) ?_
          simp only [wpSegs, List.map_cons, List.map_nil, List.getD_cons_succ, List.getD_cons_zero]
          go_wp2_with fail
          refine And.intro (by kernel_rfl) ?_
          go_wp2_with fail
          rw [show l.length - (m + 1) = n2 by have := Hn2.out; omega]
          go_loopw [3, 5] (fun kv jv wx => ∃ (kk k2 : Nat) (cur : List Dt), kv = .int .i64 kk ∧ jv = .int .i64 k2 ∧ 1 ≤ k2 ∧ k2 ≤ n2 ∧ 1 ≤ kk ∧ kk ≤ m + k2 ∧ Hid (Cmp l cur (m + 1 + k2) kk) ∧ Hid (OwnD wx base (some ⟨g, 0, none⟩) c cur) ∧ Hid (Chg [g] w wx)) (fun _ jv _ => n2 - (intOf jv).toNat)
          case atStart => exact ⟨m + 1, 1, l, rfl, rfl, Nat.le_refl _, hn1, by omega, by omega, Hst, Lib.hid (ho.out.below (Below.refl _ _).drew), Lib.hid (chg_drew hC.out)⟩
          case round =>
            rename_i wx _
            clear c0 c1 c2 e0 e1 e2 hq
            obtain ⟨kk, k2, cur, rfl, rfl, hk2, hk2n, hkk, hkm, hcm, hoc, hCc⟩ := hrel
            have hcl := hcm.out.len
            have Hcl := Lib.hid hcl
            rw [← hcl]
            clear hcl
            by_cases hlt2 : k2 < n2
            · obtain ⟨q, rfl⟩ : ∃ q, k2 = q + 1 := ⟨k2 - 1, by omega⟩
              have hpl : m + 1 + (q + 1) < l.length := by have := Hn2.out; omega
              obtain ⟨⟨⟨yr, yi⟩, ys⟩, hx⟩ : ∃ x, l[m + 1 + (q + 1)]? = some x := ⟨l[m + 1 + (q + 1)], by simp [hpl]⟩
              obtain ⟨⟨⟨zr, zi⟩, zs⟩, hy⟩ : ∃ x, l[m + 1 + q]? = some x := ⟨l[m + 1 + q]'(by omega), List.getElem?_eq_getElem _⟩
              have hx' := (hcm.out.keep (m + 1 + (q + 1)) (by omega)).trans hx
              have hy' := (hcm.out.keep (m + 1 + q) (by omega)).trans hy
              obtain ⟨c0, c1, c2⟩ := hoc.out.at hx'
              obtain ⟨e0, e1, e2⟩ := hoc.out.at hy'
              have hkl : kk < cur.length := by have := Hcl.out; omega
              obtain ⟨⟨⟨vr, vi⟩, vs⟩, hv⟩ : ∃ x, cur[kk]? = some x := ⟨cur[kk], by simp [hkl]⟩
              obtain ⟨p0, p1, p2⟩ := hoc.out.at hv
              have hf := hoc.out.free
              rw [show (m + 1 + (q + 1)) * 3 = (m + 1) * 3 + (q + 1) * 3 by omega] at c0 c1 c2
              rw [show (m + 1 + q) * 3 = (m + 1) * 3 + q * 3 by omega] at e0 e1 e2
              dsimp only at c0 c1 c2 e0 e1 e2 p0 p1 p2
              have Hx := Lib.hid hx
              have Hy := Lib.hid hy
              clear hx hy hx' hy' hv
              cases hq : eqD ((yr, yi), ys) ((zr, zi), zs) with
              | true =>
                have Hq := Lib.hid ((eqD_iff _ _).1 hq)
                go_wp2_with fail
                refine region_text [([0, 1, 2, 3, 4, 5, 6, 7, 8, 9], false)] mixed (by kernel_rfl) ?_
                simp only [wpSegs, List.map_cons, List.map_nil, List.getD_cons_succ, List.getD_cons_zero]
                go_wp2_with fail
                refine And.intro (by kernel_rfl) ?_
                go_wp2_with fail
                go_roundw
                case rel => exact ⟨kk, q + 2, cur, rfl, by go_num, by omega, by omega, hkk, by omega, Lib.hid (hcm.out.same Hx.out (by rw [show m + 1 + (q + 1) - 1 = m + 1 + q by omega, Hy.out, Hq.out])), Lib.hid (hoc.out.below (Below.refl _ _).drew), Lib.hid (chg_drew hCc.out)⟩
                case measure => simp [intOf]; omega
              | false =>
                have Hne := Lib.hid (show ((yr, yi), ys) ≠ ((zr, zi), zs) from fun e => by rw [(eqD_iff _ _).2 e] at hq; cases hq)
                go_wp2_with fail
                refine region_text [([0, 1, 2, 3, 4, 5, 6, 7, 8, 9], false)] mixed (by kernel_rfl) ?_
                simp only [wpSegs, List.map_cons, List.map_nil, List.getD_cons_succ, List.getD_cons_zero]
                go_wp2_with fail
                refine And.intro (by kernel_rfl) ?_
                go_wp2_with fail
                go_roundw
                case rel => exact ⟨kk + 1, q + 2, cur.set kk ((yr, yi), ys), by go_num, by go_num, by omega, by omega, by omega, by omega, Lib.hid (hcm.out.next Hs.out Hx.out (by rw [show m + 1 + (q + 1) - 1 = m + 1 + q by omega]; exact Hy.out) Hne.out), Lib.hid ((hoc.out.below (Below.refl _ _).drew).put hkl _), Lib.hid (chg_set3 (chg_drew hCc.out) _ _ _ _ _ _)⟩
                case measure => simp [intOf]; omega
            · have hkl : kk ≤ cur.length := by have := Hcl.out; have := Hn2.out; omega
              have hk2' : k2 = n2 := by omega
              have Hm := Lib.hid (show ∀ d, d ∈ cur.take kk ↔ d ∈ l from fun d => by
                have := hcm.out.mem d
                rwa [List.take_of_length_le (l := l) (by have := Hn2.out; omega)] at this)
              have hcc : cur.length ≤ c := hoc.out.cap
              have hs3 := fun W => slice_loD (some ⟨g, 0, none⟩) cur.length c kk hkl hcc W
              have hs4 := fun W => slice_hiD (some ⟨g, 0, none⟩) cur.length c kk (by omega) W
              have hck : c ≠ kk := by have := Hcl.out; have := Hn2.out; omega
              rw [if_neg hck] at hs3
              simp only [Option.map_some, Addr.add, Nat.zero_add, show ¬ kk * 3 = 0 by omega, if_false] at hs3
              obtain ⟨w5, hr5, ho5, hC5⟩ := run_clearD (n := 0) hoc.out 0 kk hkl
              rw [if_neg hck] at hr5
              have Ho5 := Lib.hid ho5
              have HC5 := Lib.hid (hCc.out.trans hC5 (by simp))
              have hl5 : (cur.take kk).length = kk := by rw [List.length_take]; omega
              have Hl5 := Lib.hid hl5
              have Hup := Lib.hid hcm.out.up
              clear ho5 hC5 hk2' hl5
              go_wp2_with (at_builtin; go_must (refine wpList_clear_run rfl _ _ rfl _ hr5 ?_))
              go_wp2_with fail
              go_ret
              exact ⟨cur.take kk, by rw [Hl5.out]; rfl, Hup.out, Hm.out, Ho5.out, HC5.out⟩
      · have Hup := Lib.hid (upTo.all (lt := ltD) (fun h1 h2 => ltD_trans h1 h2) hup.out (by omega))
        go_wp2_with fail
        go_ret
        exact ⟨l, rfl, Hup.out, fun _ => Iff.rfl, ho.out, hC.out⟩
end Go.Proofs.YtmabjghjkgicgaaGreat
