/- slices.DeleteFunc of dots in a row of their own, by any function: contract. -/
import Derived.Test.YthdmoplclllhjaaGreatGraJ
import Derived.Test.YthdmoplclllhjaaGreatFuseA
namespace Go.Proofs.YthdmoplclllhjaaGreat
open Go.RowKit
set_option linter.unusedVariables false
set_option linter.unusedSimpArgs false

def keepP (p : Dt → Bool) (l : List Dt) : List Dt := l.filter fun d => !p d
theorem keepP_none {p : Dt → Bool} {l : List Dt} (h : ∀ d ∈ l, p d = false) : keepP p l = l := List.filter_eq_self.2 fun d hd => by rw [h d hd]; rfl
theorem keepP_snoc {p : Dt → Bool} {l : List Dt} {q : Nat} {d : Dt} (hd : l[q]? = some d) : keepP p (l.take (q + 1)) = if p d = true then keepP p (l.take q) else keepP p (l.take q) ++ [d] := by
  unfold keepP
  rw [take_snoc' hd, List.filter_append]
  cases hp : p d <;> simp [hp]
/-- the first jj of l are gone through, kk are kept at the start of cur -/
structure DelI (p : Dt → Bool) (l cur : List Dt) (kk jj : Nat) : Prop where
  len : cur.length = l.length
  lt : kk < jj ∧ jj ≤ l.length
  kept : cur.take kk = keepP p (l.take jj)
  rest : ∀ i, jj ≤ i → cur[i]? = l[i]?
theorem DelI.start {p : Dt → Bool} {l : List Dt} {q : Nat} {d : Dt} (hd : l[q]? = some d) (hp : p d = true) (h : ∀ s ∈ l.take q, p s = false) : DelI p l l q (q + 1) :=
  ⟨rfl, ⟨Nat.lt_succ_self _, (List.getElem?_eq_some_iff.1 hd).1⟩, by rw [keepP_snoc hd, if_pos hp, keepP_none h], fun _ _ => rfl⟩
theorem DelI.skip {p : Dt → Bool} {l cur : List Dt} {kk jj : Nat} {d : Dt} (h : DelI p l cur kk jj) (hd : l[jj]? = some d) (hp : p d = true) : DelI p l cur kk (jj + 1) :=
  ⟨h.len, ⟨by have := h.lt; omega, (List.getElem?_eq_some_iff.1 hd).1⟩, by rw [keepP_snoc hd, if_pos hp, h.kept], fun i hi => h.rest i (by omega)⟩
theorem DelI.keep {p : Dt → Bool} {l cur : List Dt} {kk jj : Nat} {d : Dt} (h : DelI p l cur kk jj) (hd : l[jj]? = some d) (hp : p d = false) : DelI p l (cur.set kk d) (kk + 1) (jj + 1) := by
  have hjl := (List.getElem?_eq_some_iff.1 hd).1
  have hkl : kk < cur.length := by have := h.lt; have := h.len; omega
  refine ⟨by rw [List.length_set, h.len], ⟨by have := h.lt; omega, hjl⟩, ?_, fun i hi => ?_⟩
  · rw [keepP_snoc hd, if_neg (by rw [hp]; simp), ← h.kept]
    have hs : (cur.set kk d)[kk]? = some d := by rw [List.getElem?_set_self hkl]
    rw [take_snoc' hs, List.take_set_of_le (Nat.le_refl _)]
  · rw [List.getElem?_set_ne (by have := h.lt; omega)]
    exact h.rest i (by omega)
theorem DelI.done {p : Dt → Bool} {l cur : List Dt} {kk : Nat} (h : DelI p l cur kk l.length) : cur.take kk = keepP p l := by have := h.kept; rwa [List.take_length] at this
set_option maxRecDepth 100000 in
set_option maxHeartbeats 8000000 in
theorem deleteD_fn (fn : FuncId) (cap : Array Value) (p : Dt → Bool) (a : Option Addr) (c base : Nat) (l : List Dt) (w : World) (h : OwnD w base a c l) (hn : l.length ≤ 1000000)
    (he : ∀ args w, (callFunc fn args).run Tryz.prog w = .ok (.enter fn args) w)
    (hp : ∀ r i s, ((r, i), s) ∈ l → ∀ W, Chg (ob a) w W → Calls Tryz.prog fn (#[.agg #[.int .u8 r, .int .u32 i, .int .u64 s]] ++ cap) W (fun e W' => e = .returned (.bool (p ((r, i), s))) ∧ Below W.heap.size W W')) :
    Calls Tryz.prog 92 #[.slice a l.length c, .func (.func fn) #[] cap] w fun e w' => ∃ v', e = .returned (.slice a (List.length v') c) ∧ v' = keepP p l ∧ OwnD w' base a c v' ∧ Chg (ob a) w w' := by
  have H := Lib.hid h
  have HP := Lib.hid hp
  clear h hp
  go_enter Tryz.func92, Tryz.ntmps92
  go_wp2_with fail
  refine (indexD_fn fn cap p a c l _ H.out.vec hn he (fun r i s hd W hW => HP.out r i s hd W (Chg.of_below hW))).mono ?_
  intro e w1 hto
  obtain ⟨k, rfl, hk, hb⟩ := hto
  have HB := Lib.hid hb
  clear hb
  obtain ⟨rfl, hnone⟩ | ⟨q, d, rfl, hqd, hpd, hall⟩ := hk
  · have Hn := Lib.hid hnone
    clear hnone
    go_wp2_with fail
    go_ret
    exact ⟨l, rfl, (keepP_none Hn.out).symm, H.out.below HB.out, Chg.of_below HB.out⟩
  · obtain ⟨g, rfl, hbg, hgl⟩ := H.out.form (fun e => by subst e; simp at hqd)
    have hcap := H.out.cap
    have Hst := Lib.hid (DelI.start hqd hpd hall)
    have hql : q < l.length := (List.getElem?_eq_some_iff.1 hqd).1
    clear hqd hpd hall
    have e1 : ((q : Int) == -1) = false := by rw [beq_eq_false_iff_ne]; omega
    go_wp2_with fail
    go_loopw [5, 6] (fun kv jv wx => ∃ (kk jj : Nat) (cur : List Dt), kv = .int .i64 kk ∧ jv = .int .i64 jj ∧ Hid (DelI p l cur kk jj) ∧ Hid (OwnD wx base (some ⟨g, 0, none⟩) c cur) ∧ Hid (Chg [g] w wx)) (fun _ jv _ => l.length - (intOf jv).toNat)
    case atStart => exact ⟨q, q + 1, l, rfl, by go_num, Hst, Lib.hid (H.out.below HB.out), Lib.hid (Chg.of_below HB.out)⟩
    case round =>
      rename_i wx _
      clear e1
      obtain ⟨kk, jj, cur, rfl, rfl, hD, hO, hC⟩ := hrel
      have hcap2 := hO.out.cap
      have Hcl := Lib.hid hD.out.len
      have hkj : kk < jj := hD.out.lt.1
      have hjl : jj ≤ l.length := hD.out.lt.2
      by_cases hlt : jj < l.length
      · obtain ⟨⟨⟨r, i⟩, s⟩, hx⟩ : ∃ x, l[jj]? = some x := ⟨l[jj], by simp [hlt]⟩
        have hx' := (hD.out.rest jj (Nat.le_refl _)).trans hx
        obtain ⟨c0, c1, c2⟩ := hO.out.at hx'
        dsimp only at c0 c1 c2
        have Hx := Lib.hid hx
        have hA : Below wr.heap.size wr (wr.alloc (.cells #[.int .u8 r, .int .u32 i, .int .u64 s] 41)) := (Below.refl _ _).alloc (Nat.le_refl _) _
        have HA := Lib.hid hA
        have HPx := Lib.hid (HP.out r i s (List.mem_of_getElem? hx))
        clear hx hx' hA
        go_wp2_with fail
        refine (HPx.out _ ((hC.out.trans (Chg.of_below (F := []) HA.out) (by simp)))).mono ?_
        rintro e w3 ⟨rfl, hb3⟩
        have X3 := Lib.hid (new1 hb3).1
        have O3 := Lib.hid ((hO.out.below HA.out).below hb3)
        have C3 := Lib.hid ((hC.out.trans (Chg.of_below (F := []) HA.out) (by simp)).trans (Chg.of_below (F := []) hb3) (by simp))
        have x3 := cells_at X3.out
        clear hb3 c0 c1 c2
        cases hz : p ((r, i), s) with
        | true =>
          have Hz := Lib.hid hz
          go_wp2_with fail
          go_roundw
          case rel => exact ⟨kk, jj + 1, cur, rfl, by go_num, Lib.hid (hD.out.skip Hx.out Hz.out), O3, C3⟩
          case measure => simp [intOf]; omega
        | false =>
          have Hz := Lib.hid hz
          have hkl : kk < cur.length := by have := Hcl.out; omega
          obtain ⟨⟨⟨vr, vi⟩, vs⟩, hv⟩ : ∃ x, cur[kk]? = some x := ⟨cur[kk], by simp [hkl]⟩
          obtain ⟨p0, p1, p2⟩ := O3.out.at hv
          have hf := O3.out.free
          dsimp only at p0 p1 p2
          clear hv
          go_wp2_with fail
          have q1 := O3.out.put hkl ((r, i), s)
          have q2 := chg_set3 C3.out (kk * 3) (kk * 3 + 1) (kk * 3 + 2) (.int .u8 r) (.int .u32 i) (.int .u64 s)
          exact ⟨⟨kk + 1, jj + 1, cur.set kk ((r, i), s), by go_num, by go_num, Lib.hid (hD.out.keep Hx.out Hz.out), Lib.hid q1, Lib.hid q2⟩, by simp [intOf]; omega⟩
      · have hjj : jj = l.length := by omega
        have Hd := Lib.hid (show cur.take kk = keepP p l from by have := hD.out; rw [hjj] at this; exact this.done)
        have hkl : kk ≤ cur.length := by have := Hcl.out; omega
        have hck : c ≠ kk := by have := Hcl.out; omega
        have hadd : (⟨g, 0, none⟩ : Addr).add (kk * 3) = ⟨g, kk * 3, none⟩ := by unfold Addr.add; split <;> simp_all
        have hs3 := fun W => slice_loD (some ⟨g, 0, none⟩) cur.length c kk hkl hcap2 W
        have hs4 := fun W => slice_hiD (some ⟨g, 0, none⟩) cur.length c kk (by omega) W
        obtain ⟨w5, hr5, ho5, hC5⟩ := run_clearD (n := 0) hO.out 0 kk hkl
        rw [if_neg hck] at hs3 hr5
        simp only [Option.map_some, hadd] at hs3
        rw [Hcl.out] at hs3 hs4 hr5
        have Ho5 := Lib.hid ho5
        have HC5 := Lib.hid (hC.out.trans hC5 (by simp))
        have hl5 : (cur.take kk).length = kk := by rw [List.length_take]; omega
        have Hl5 := Lib.hid hl5
        clear ho5 hC5 hl5 hadd hjj
        go_wp2_with (at_builtin; go_must (refine wpList_clear_run rfl _ _ rfl _ hr5 ?_))
        go_wp2_with fail
        go_ret
        exact ⟨cur.take kk, by rw [Hl5.out]; rfl, Hd.out, Ho5.out, HC5.out⟩
end Go.Proofs.YthdmoplclllhjaaGreat
