/- BagPlays: the walk. -/
import Derived.Test.YtkgbdgnfidpelaaPlayB
import Derived.Deep.CutBlock
namespace Go.Proofs.Ytkgbdgnfidpelaa
open Go.RowKit
set_option linter.unusedVariables false
set_option linter.unusedSimpArgs false

/-- the calls handed in -/
structure OpsOk (w : World) (la : Option Addr) (O : List OpV) : Prop where
  at_ : ∀ (k : Nat) (o : OpV), O[k]? = some o → ∃ a, la = some a ∧ OpOk w a k o

def InLoop (w0 wc : World) (ia : Option Addr) (n ic : Nat) (wr : World) : Prop := ∃ bs, wr.ownsRow w0.heap.size 5 1 (.slice ia n ic) n (u8s bs) ∧ Chg (ob ia) wc wr
theorem u8s_at {bs : List UInt8} {j : Nat} (h : j < bs.length) : (u8s bs)[j]? = some (.int .u8 (bs[j].toNat : Int)) := by simp [u8s, h]
theorem u8s_len {w : World} {B : Nat} {e : TypeId} {v : Value} {n : Nat} {bs : List UInt8} (h : w.ownsRow B e 1 v n (u8s bs)) : bs.length = n := by have := h.1; rw [u8s_length] at this; omega

theorem BagTo.chg' {w w' : World} {pb : Nat} {F : List Nat} {L : List Lt} (h : BagTo w pb F L w') : Chg F w w' := by obtain ⟨_, _, _, hc⟩ := h; exact hc
theorem BagTo.drew {w w' : World} {pb : Nat} {F : List Nat} {L : List Lt} (h : BagTo w.drew pb F L w') : BagTo w pb F L w' := by
  obtain ⟨F', h1, h2, h3⟩ := h
  exact ⟨F', h1, h2, (Chg.drew F w).trans h3 (fun _ h _ => h)⟩
theorem BagR.drew {w : World} {pb : Nat} {L : List Lt} {F : List Nat} (h : BagR w pb L F) : BagR w.drew pb L F := h.chg (Chg.drew [] w) (by simp)
theorem Held.of_chg {w w' : World} {q : Nat} {C : Array Value} {t : TypeId} {fr : Nat × Nat} {F : List Nat} (hq : w.heap[q]? = some (.cells C t fr)) (hc : Chg F w w') (hn : q ∉ F) : Held (fun k => k = q) w w' := by
  refine .inr fun k o hk ho => ?_
  have hk' : k = q := hk
  subst hk'
  have h2 := heap_chg hq hc (by simpa using hn)
  rw [hq] at ho
  have ho' := Option.some.inj ho
  subst ho'
  exact ⟨fun _ _ h => (by cases h), h2⟩
theorem change_len (L : List Lt) (i at_ : Int) (x : UInt8) : (if mayChange L i at_ x then doChange L i at_ x else L).length = L.length := by
  split
  · simp [doChange]
  · rfl
theorem change_sml (L : List Lt) (i at_ : Int) (x : UInt8) (h : ∀ l ∈ L, l.b.length ≤ 200) : ∀ l ∈ (if mayChange L i at_ x then doChange L i at_ x else L), l.b.length ≤ 200 := by
  split
  · intro l hl
    obtain ⟨n, hn⟩ := List.getElem?_of_mem hl
    rw [doChange, List.getElem?_modify] at hn
    cases hL : L[n]? with
    | none => rw [hL] at hn; simp at hn
    | some l0 =>
      have h0 := h l0 (List.mem_of_getElem? hL)
      rw [hL] at hn
      simp only [Option.map_eq_map, Option.map_some, Option.some.injEq] at hn
      rw [← hn]
      split
      · simpa using h0
      · exact h0
  · exact h
/-- a copy is gone on with -/
theorem play_case5 {w0 w2 w3 w4 w5 : World} {pb pr pc m : Nat} {L : List Lt} {F G F1 F4 : List Nat} (hP : Play w0 w2 pb pr L F G m) (hc : BagR w3 pc L F1) (hF1 : ∀ k ∈ F1, w2.heap.size ≤ k) (hb3 : Below w2.heap.size w2 w3)
    (hC4 : Chg F w3 w4) (hF4 : ∀ k ∈ F4, k ∈ F ∨ w3.heap.size ≤ k) (hC5 : Chg F4 w4 w5) : BagR w5 pc L F1 ∧ RefR w5 pr L G ∧ Chg F w2 w5 := by
  have s3 := hb3.size
  have s4 := hC4.size
  have hFlt := hP.bag.lt'
  have hF1lt := hc.lt'
  have h24 : Chg F w2 w4 := (Chg.of_below (F := F) hb3).trans hC4 (fun _ h _ => h)
  have h25 : Chg F w2 w5 := h24.trans hC5 (fun x hx hl => by rcases hF4 x hx with h | h; exact h; omega)
  refine ⟨(hc.chg hC4 fun x hx he => ?_).chg hC5 fun x hx he => ?_, hP.ref.chg h25 fun x hx he => hP.dis x he hx, h25⟩
  · have := hFlt x he; have := hF1 x hx; omega
  · have h1 := hF1 x hx
    have h2 := hF1lt x hx
    rcases hF4 x he with h | h
    · have := hFlt x h; omega
    · omega
theorem play_case5' {w0 w2 w5 w6 : World} {pb pr pc m : Nat} {L : List Lt} {F G F1 G' : List Nat} (hP : Play w0 w2 pb pr L F G m) (hF1 : ∀ k ∈ F1, w2.heap.size ≤ k) (hB : BagR w5 pc L F1) (hC : Chg F w2 w5)
    (hR : RefR w6 w5.heap.size L G') (hG' : ∀ k ∈ G', k ∈ G ∨ k = w5.heap.size) (hb : Below w5.heap.size w5 w6) : Play w0 w6 pc w5.heap.size L F1 G' (m + 1) ∧ Chg (F ++ G) w2 w6 := by
  have s5 := hC.size
  have s0 := hP.bel.size
  have hGlt := hP.ref.lt
  have hF1lt := hB.lt'
  have b5 : Below w0.heap.size w0 w5 := hP.bel.trans (hC.below s0 hP.bF)
  refine ⟨⟨hB.chg (Chg.of_below (F := []) hb) (by simp), hR, fun x hx => by have := hF1 x hx; omega, fun x hx => ?_, fun x hx hx' => ?_, by have := hP.len; omega, hP.sml, b5.trans (hb.mono (by omega))⟩, ?_⟩
  · rcases hG' x hx with h | h
    · exact hP.bG x h
    · omega
  · have h1 := hF1 x hx
    have h2 := hF1lt x hx
    rcases hG' x hx' with h | h
    · have := hGlt x h; omega
    · omega
  · exact (hC.mono fun x hx _ => by simp [hx]).trans (Chg.of_below (F := []) hb) (by simp)
theorem inc_u8 (b : UInt8) : ((b.toNat : Int) + 1) % 256 = ((b + 1).toNat : Int) := by
  rw [UInt8.toNat_add]; simp
theorem InLoop.step {w0 wc wr : World} {g n ic j : Nat} {b2 : List UInt8} (h : wr.ownsRow w0.heap.size 5 1 (.slice (some ⟨g, 0, none⟩) n ic) n (u8s b2)) (hc : Chg (ob (some ⟨g, 0, none⟩)) wc wr) (v : UInt8) :
    InLoop w0 wc (some ⟨g, 0, none⟩) n ic (wr.setCell ⟨g, j, none⟩ (.int .u8 (v.toNat : Int))) :=
  ⟨b2.set j v, by rw [u8s_set]; exact (h.stored j _).1, hc.trans (Chg.setCell wr ⟨g, j, none⟩ _) (by simp [ob])⟩
/-- the letters told, while they are written over -/
def OverLoop (w5 : World) (N : List Ml) (oa : Option Addr) (oc : Nat) (wr : World) : Prop := AllW wr w5.heap.size N oa oc ∧ Below w5.heap.size w5 wr

theorem AllW.at {w : World} {B : Nat} {N : List Ml} {oa : Option Addr} {oc i : Nat} {x : Ml} (h : AllW w B N oa oc) (hx : N[i]? = some x) : ∃ g, oa = some ⟨g, 0, none⟩ ∧ w.cell? ⟨g, i * 2 + 1, none⟩ = some (.slice x.2.1 x.1.b.length x.2.2) ∧ g < w.heap.size := by
  have hi : i < N.length := by
    rcases Nat.lt_or_ge i N.length with h | h
    · exact h
    · rw [List.getElem?_eq_none h] at hx; cases hx
  obtain ⟨_, k2⟩ := acells_at x N i hx
  obtain ⟨h1, h2, h3, ⟨_, h4, _⟩ | ⟨b, rfl, h4⟩⟩ := Sl.of_owns h.row
  · omega
  · obtain ⟨g, rfl⟩ := own_adr h.row b rfl
    have hadd : ∀ j, (⟨g, 0, none⟩ : Addr).add j = ⟨g, j, none⟩ := fun j => by unfold Addr.add; split <;> simp_all
    have c2 := h4 _ _ k2
    rw [hadd] at c2
    exact ⟨g, rfl, c2, World.block_lt_of_cell? w _ c2⟩
theorem OverLoop.step {w4 wr : World} {N : List Ml} {oa : Option Addr} {oc g j : Nat} {x : Ml} (h : OverLoop w4 N oa oc wr) (hx : x ∈ N) (hg : x.2.1 = some ⟨g, 0, none⟩) (v : UInt8) : OverLoop w4 N oa oc (wr.setCell ⟨g, j, none⟩ (.int .u8 (v.toNat : Int))) := by
  obtain ⟨bs, hb⟩ := h.1.bytes x hx
  exact ⟨h.1.write (c := 0) hx hg v, h.2.setCell (owns_lt hb g (by simp [hg, ob])).1 _⟩

theorem Ls.one {w : World} {g : Nat} {l : Lt} {a : Option Addr} {c : Nat} (hb : w.heap[g]? = some (.cells #[.int .u8 l.t, .slice a l.b.length c] 30 (0, 0))) (hs : Sl w 1 a l.b.length c (u8s l.b)) : Ls w [(l, a, c)] (some ⟨g, 0, none⟩) 1 :=
  ⟨Sl.of_block (n := 1) (size := 2) hb rfl (by unfold maxLen; omega), fun x hx => by simp at hx; subst hx; exact hs, fun ad h => ⟨g, by cases h; rfl⟩⟩
set_option maxHeartbeats 8000000 in
set_option maxRecDepth 100000 in
theorem play_walk (la : Option Addr) (lc : Nat) (O : List OpV) (w : World) (hO : OpsOk w la O) :
    Calls Try.prog 4 #[.slice la O.length lc] w fun e w' => e = .returned (.bool true) ∧ Below w.heap.size w w' := by
  obtain ⟨i0, hi0, hz0, hz1, hz2⟩ := info_parts Try.info_u8
  have HO := Lib.hid hO
  clear hO
  by_cases h80 : 80 < O.length
  · have h80' : (80 : Int) < (O.length : Int) := by omega
    go_enter Try.func4, Try.ntmps4
    go_wp2_with fail
    refine (known_any _).mono ?_
    rintro e w5 ⟨rfl, hb5⟩
    go_wp2_with fail
    go_ret
    exact ⟨rfl, hb5⟩
  have h80' : ¬ (80 : Int) < (O.length : Int) := by omega
  go_enter Try.func4, Try.ntmps4
  go_wp2_with fail
  refine (new_R _).mono ?_
  rintro e w1 ⟨rfl, hR1, hb1⟩
  have hs1 := hb1.size
  have hRlt := hR1.lt' w.heap.size (by simp)
  have HP : Hid (PlayRel w 0 (.pointer (some ⟨w.heap.size, 0, none⟩)) (.pointer (some ⟨w1.heap.size, 0, none⟩)) (w1.alloc (.cells #[.slice none 0 0, .slice none 0 0, .slice none 0 0] 44))) :=
    Lib.hid ⟨_, _, [], _, _, rfl, rfl, ⟨hR1.alloc _, refnew w1, by simp, by simp; omega, by simp; omega, by simp, by simp, (hb1.alloc (by omega) _)⟩⟩
  clear hR1 hb1
  go_wp2_with fail
  go_loopw [3, 4, 30] (fun s3 s4 s30 wr => ∃ k : Nat, k ≤ O.length ∧ s30 = .int .i64 k ∧ PlayRel w k s3 s4 wr) (fun _ _ s30 _ => O.length - (intOf s30).toNat)
  case atStart => exact ⟨0, Nat.zero_le _, rfl, HP.out⟩
  case round =>
    obtain ⟨k, hk, rfl, pb, pr, L, F, G, rfl, rfl, hP⟩ := hrel
    have HPl := Lib.hid hP
    by_cases hlt : k < O.length
    · have hlt' : (k : Int) < (O.length : Int) := by omega
      have hx : ∃ x, O[k]? = some x := ⟨O[k], by simp [hlt]⟩
      obtain ⟨o, hx⟩ := hx
      obtain ⟨a, rfl, hOk⟩ := HO.out.at_ k o hx
      have hOk' := hOk.below (hP.bel)
      have hw0 := hP.bel.size
      obtain ⟨kd, i, at_, x, t8, bs, ba, bc⟩ := o
      have c0 := hOk'.c0
      have c1 : wr.cell? ⟨(a.add (k * 6)).block, (a.add (k * 6)).off + 1, none⟩ = some (.int .i64 i) := hOk'.c1
      have c2 : wr.cell? ⟨(a.add (k * 6)).block, (a.add (k * 6)).off + 2, none⟩ = some (.int .i64 at_) := hOk'.c2
      have c3 : wr.cell? ⟨(a.add (k * 6)).block, (a.add (k * 6)).off + 3, none⟩ = some (.int .u8 (x.toNat : Int)) := hOk'.c3
      have c4 : wr.cell? ⟨(a.add (k * 6)).block, (a.add (k * 6)).off + 4, none⟩ = some (.int .u8 t8) := hOk'.c4
      have c5 : wr.cell? ⟨(a.add (k * 6)).block, (a.add (k * 6)).off + 5, none⟩ = some (.slice ba bs.length bc) := hOk'.c5
      have i1 := hOk'.i1
      have i2 := hOk'.i2
      have Hsl := Lib.hid hOk'.sl
      have Hsl0 := Lib.hid hOk.sl
      dsimp only at c0 c1 c2 c3 c4 c5 Hsl Hsl0 i1 i2
      clear hOk hOk' hP hx
      by_cases h200 : 200 < bs.length
      · have h200' : (200 : Int) < (bs.length : Int) := by omega
        go_wp2_with fail
        refine (known_any _).mono ?_
        rintro e w5 ⟨rfl, hb5⟩
        go_wp2_with fail
        go_ret
        exact ⟨rfl, (HPl.out.bel.alloc hw0 _).trans (hb5.mono (by simp; omega))⟩
      · have h200' : ¬ (200 : Int) < (bs.length : Int) := by omega
        go_upto_region 11 with (fail)
        generalize hW1 : wr.alloc (.cells #[.int .i64 kd, .int .i64 i, .int .i64 at_, .int .u8 (x.toNat : Int), .int .u8 t8, .slice ba bs.length bc] 46) = W1
        have hB1 : Below wr.heap.size wr W1 := by rw [← hW1]; exact (Below.refl _ _).alloc (Nat.le_refl _) _
        have hsW1 : wr.heap.size + 1 ≤ W1.heap.size := by rw [← hW1]; simp
        have hq1 : W1.heap[wr.heap.size]? = some (.cells #[.int .i64 kd, .int .i64 i, .int .i64 at_, .int .u8 (x.toNat : Int), .int .u8 t8, .slice ba bs.length bc] 46 (0, 0)) := by rw [← hW1]; exact heap_new _ _
        have cq1 := cells_at hq1
        have lq1 : wr.heap.size < W1.heap.size := by omega
        have Hsl1 := Lib.hid (Hsl.out.below hB1)
        have HB1 := Lib.hid hB1
        have Hq1 := Lib.hid hq1
        clear hW1 hB1 hq1
        go_wp2_with (at_builtin; go_must (refine wpList_append_sl rfl _ _ 24 rfl W1.heap.size 5 i0 (.int .u8 0) 1 1 Try.underlying24 hi0 hz0 hz1 hz2 rfl (by decide) _ 0 0 [] rfl (World.ownsRow_made W1 #[] 0 (Nat.le_refl _) (by decide) rfl) ba bs.length bc (u8s bs) rfl (Hsl1.out.below ((Below.refl _ _).alloc (Nat.le_refl _) _)) (u8s_one bs) ?c3 ?c4 ?c5 ?_))
        case c3 => unfold maxLen; omega
        case c4 => omega
        intro ia ic w2 ho2 hc2 hl2
        have hsz2 := hc2.size
        simp at hsz2
        have hB2 : Below W1.heap.size W1 w2 := ((Below.refl _ _).alloc (Nat.le_refl _) _).trans (hc2.below (by simp) (by simp [ob]))
        have hBr : Below wr.heap.size wr w2 := HB1.out.trans (hB2.mono (by omega))
        have hP2 := HPl.out.below hBr
        have hia : ∀ x ∈ ob ia, wr.heap.size + 1 ≤ x := fun x hx => by rcases hl2 x hx with h | h; simp [ob] at h; omega; omega
        have hq := heap_chg Hq1.out (Chg.of_below (F := []) hB2) (by simp)
        have hown : w2.ownsRow w.heap.size 5 1 (.slice ia bs.length ic) bs.length (u8s bs) := by
          have := owns_base ho2 (show w.heap.size ≤ W1.heap.size by omega)
          simpa using this
        have hFlt := HPl.out.bag.lt'
        have hGlt := HPl.out.ref.lt
        have hdis : ∀ x ∈ ob ia, x ∉ F ∧ x ∉ G := fun x hx => ⟨fun h => by have := hFlt x h; have := hia x hx; omega, fun h => by have := hGlt x h; have := hia x hx; omega⟩
        have cq := cells_at hq
        have Hq := Lib.hid hq
        have HP2 := Lib.hid hP2
        have Hown := Lib.hid hown
        have Hdis := Lib.hid hdis
        have lq : wr.heap.size < w2.heap.size := by omega
        have hFq : wr.heap.size ∉ F := fun h => by have := hFlt _ h; omega
        have hGq : wr.heap.size ∉ G := fun h => by have := hGlt _ h; omega
        have hw2 : w.heap.size ≤ w2.heap.size := by omega
        clear hq hP2 hown hdis hFlt hGlt hia hB2 hBr ho2 hc2 hl2 cq1 Hq1 HB1 Hsl1 c0 c1 c2 c3 c4 c5 HPl Hsl HO
        go_upto_block 2 with (fail)
        go_cut [3, 4, 8] (fun s3 s4 s8 wx => Mid w ia bs.length ic (k + 1) s3 s4 s8 wx)
        case first =>
          by_cases k1 : kd = 1
          · subst k1
            as_aux_lemma =>
            go_wp2_with fail
            have hL := HP2.out.len
            refine (put_R pb t8 bs ia bs.length ic _ L F rfl (Sl.of_owns Hown.out) (by omega) HP2.out.bag (by omega)).mono ?_
            rintro e w3 ⟨rfl, hT1⟩
            have hr3 := HP2.out.ref_after hT1 (Below.refl _ _)
            have hb3 : Below w.heap.size w w3 := HP2.out.bel.trans (hT1.chg'.below hw2 HP2.out.bF)
            have hq3 := heap_chg Hq.out hT1.chg' (by simpa using hFq)
            have cq3 := cells_at hq3
            have HT1 := Lib.hid hT1
            have Hr3 := Lib.hid hr3
            have Hb3 := Lib.hid hb3
            have lq3 := heap_lt hq3
            clear hT1 hr3 hb3 hq3 cq
            go_wp2_with fail
            refine (put_ref pr t8 bs ba bs.length bc L G _ (Hsl0.out.below Hb3.out) Hr3.out (by omega)).mono ?_
            rintro e w4 ⟨rfl, hT2⟩
            have HT2 := Lib.hid hT2
            clear hT2 cq3
            go_wp2_with fail
            go_meet
            obtain ⟨F', G', h1, h2, h3, h4⟩ := HP2.out.both HT1.out (Below.refl _ _) HT2.out (m' := k + 1) (by simp; omega) (fun l hl => by
              rw [List.mem_append, List.mem_singleton] at hl
              rcases hl with hl | rfl
              · exact HP2.out.sml l hl
              · show bs.length ≤ 200; omega)
            exact Mid.of h1 Hown.out Hdis.out h2 h3 h4
          have k1' : (kd == 1) = false := by simpa using k1
          by_cases k2 : kd = 2
          · subst k2
            as_aux_lemma =>
            clear k1
            have hL := HP2.out.len
            by_cases hin : 0 ≤ i ∧ i < (L.length : Int)
            · have hn : ∃ n : Nat, i = n := ⟨i.toNat, by omega⟩
              obtain ⟨n, rfl⟩ := hn
              have hl : ∃ l, L[n]? = some l := ⟨L[n]'(by omega), by simp⟩
              obtain ⟨l, hl⟩ := hl
              have hl200 := HP2.out.sml l (List.mem_of_getElem? hl)
              have Hl := Lib.hid hl
              clear hl
              go_wp2_with fail
              refine (take_R pb n _ L F l HP2.out.bag Hl.out (by omega)).mono ?_
              rintro e w3 ⟨xa, xc, F3, rfl, hB3, hF3, hxa, hxo, hC3⟩
              have hT3 : BagTo w2 pb F (L.eraseIdx n) w3 := ⟨F3, hB3, fun x hx => .inl (hF3 x hx), hC3⟩
              have hq3 := heap_chg Hq.out hC3 (by simpa using hFq)
              have cq3 := cells_at hq3
              have lq3 := heap_lt hq3
              have s3 := hC3.size
              have HT3 := Lib.hid hT3
              have Hq3 := Lib.hid hq3
              have Hxo := Lib.hid hxo
              have Hxa := Lib.hid hxa
              have hFG := Lib.hid (fun x hx => HP2.out.dis x (hxa x hx).1 : ∀ x ∈ ob xa, x ∉ G)
              have hprG := HP2.out.ref.mem
              have hprl := HP2.out.ref.lt pr hprG
              have Hpr := Lib.hid hprG
              clear hT3 hq3 hB3 hF3 hC3 hxo hxa cq hprG
              go_upto_region 19 with (fail)
              generalize hW3 : w3.alloc (.cells #[.int .u8 l.t, .slice xa l.b.length xc] 30) = W3
              have hB3 : Below w3.heap.size w3 W3 := by rw [← hW3]; exact (Below.refl _ _).alloc (Nat.le_refl _) _
              have sW3 : w3.heap.size + 1 ≤ W3.heap.size := by rw [← hW3]; simp
              have hq9 : W3.heap[w3.heap.size]? = some (.cells #[.int .u8 l.t, .slice xa l.b.length xc] 30 (0, 0)) := by rw [← hW3]; exact heap_new _ _
              have hq4 := heap_chg Hq3.out (Chg.of_below (F := []) hB3) (by simp)
              have cq4 := cells_at hq4
              have lq4 := heap_lt hq4
              have Hr3 := Lib.hid (HP2.out.ref_after HT3.out hB3)
              have HB3 := Lib.hid hB3
              have Hq9 := Lib.hid hq9
              clear hW3 hB3 hq9 hq4 cq3
              go_wp2_with fail
              refine (take_ref pr n l L G _ Hr3.out Hl.out (by omega) (by omega)).mono ?_
              rintro e w4 ⟨ya, yc, rfl, hys, hya, hT4⟩
              have hc4 : Chg [pr] W3 w4 := by obtain ⟨_, _, _, h⟩ := hT4; exact h
              have s4 := hc4.size
              have hq9 := heap_chg Hq9.out hc4 (by simp; omega)
              have cq9 := cells_at hq9
              have lq9 := heap_lt hq9
              have Hxo4 := Lib.hid (((Sl.of_owns Hxo.out).below HB3.out).chg hc4 (fun x hx he => hFG.out x hx (by simp at he; subst he; exact Hpr.out)))
              have HT4 := Lib.hid hT4
              have Hys := Lib.hid hys
              clear hT4 hys hya hc4 hq9 cq4
              go_upto_region 20 with (fail)
              generalize hW4 : w4.alloc (.cells #[.int .u8 l.t, .slice ya l.b.length yc] 30) = W4
              have hB4 : Below w4.heap.size w4 W4 := by rw [← hW4]; exact (Below.refl _ _).alloc (Nat.le_refl _) _
              have sW4 : w4.heap.size + 1 ≤ W4.heap.size := by rw [← hW4]; simp
              have hq11 : W4.heap[w4.heap.size]? = some (.cells #[.int .u8 l.t, .slice ya l.b.length yc] 30 (0, 0)) := by rw [← hW4]; exact heap_new _ _
              have cq11 := cells_at hq11
              have lq11 := heap_lt hq11
              have cq9' : ∀ i, W4.cell? ⟨w3.heap.size, i, none⟩ = #[Value.int .u8 l.t, .slice xa l.b.length xc][i]? := fun i => (hB4.cell (p := ⟨w3.heap.size, i, none⟩) lq9).trans (cq9 i)
              have lq9' : w3.heap.size < W4.heap.size := by omega
              have Hxo5 := Lib.hid (Hxo4.out.below hB4)
              have Hys5 := Lib.hid (Hys.out.below hB4)
              have HB4 := Lib.hid hB4
              clear hW4 hB4 hq11 cq9 Hxo4 Hys Hxo
              go_wp2_with fail
              generalize hW5 : (W4.alloc (.cells #[.int .u8 l.t, .slice xa l.b.length xc] 30)).alloc (.cells #[.int .u8 l.t, .slice ya l.b.length yc] 30) = W5
              have hB5 : Below W4.heap.size W4 W5 := by rw [← hW5]; exact ((Below.refl _ _).alloc (Nat.le_refl _) _).alloc (by simp) _
              have hz1 : W5.heap[W4.heap.size]? = some (.cells #[.int .u8 l.t, .slice xa l.b.length xc] 30 (0, 0)) := by rw [← hW5, heap_old _ _ (by simp)]; exact heap_new _ _
              have hz2 : W5.heap[W4.heap.size + 1]? = some (.cells #[.int .u8 l.t, .slice ya l.b.length yc] 30 (0, 0)) := by rw [← hW5]; exact heap_new' _ _ (by simp)
              have hS := same_eq [(l, xa, xc)] [(l, ya, yc)] (some ⟨W4.heap.size, 0, none⟩) (some ⟨W4.heap.size + 1, 0, none⟩) 1 1 W5 (Ls.one hz1 (Hxo5.out.below hB5)) (Ls.one hz2 (Hys5.out.below hB5)) (by simp) (by simp)
              simp only [List.length_singleton] at hS
              have HS := Lib.hid hS
              have HB5 := Lib.hid hB5
              clear hS hB5 hz1 hz2 hW5 cq11 cq9'
              refine HS.out.mono ?_
              rintro e w6 ⟨rfl, hb6⟩
              have hb6' : Below w4.heap.size w4 w6 := HB4.out.trans ((HB5.out.trans (hb6.mono HB5.out.size)).mono HB4.out.size)
              have HB6 := Lib.hid hb6'
              clear hb6 hb6' HS
              go_wp2_with fail
              go_meet
              obtain ⟨F', G', h1, h2, h3, h4⟩ := HP2.out.both HT3.out HB3.out HT4.out (m' := k + 1) (by have := List.length_eraseIdx_le L n; omega) (fun l' hl => HP2.out.sml l' (List.mem_of_mem_eraseIdx hl))
              have s5 := h4.size
              exact Mid.of (h1.below HB6.out) Hown.out Hdis.out h2 h3 (h4.trans (Chg.of_below (F := []) HB6.out) (by simp))
            · have hout : i < 0 ∨ (L.length : Int) ≤ i := by omega
              go_wp2_with fail
              refine (take_R_no pb i _ L F HP2.out.bag i1 i2 hout).mono ?_
              rintro e w3 ⟨rfl, _, hb3⟩
              have hq3 := heap_chg Hq.out (Chg.of_below (F := []) hb3) (by simp)
              have s3 := hb3.size
              have Hb3 := Lib.hid hb3
              have Hq3 := Lib.hid hq3
              clear hb3 hq3 cq
              go_upto_region 19 with (fail)
              generalize hW3 : w3.alloc (.cells #[.int .u8 0, .slice none 0 0] 30) = W3
              have hB3 : Below w3.heap.size w3 W3 := by rw [← hW3]; exact (Below.refl _ _).alloc (Nat.le_refl _) _
              have sW3 : w3.heap.size + 1 ≤ W3.heap.size := by rw [← hW3]; simp
              have hq9 : W3.heap[w3.heap.size]? = some (.cells #[.int .u8 0, .slice none 0 0] 30 (0, 0)) := by rw [← hW3]; exact heap_new _ _
              have hq4 := heap_chg Hq3.out (Chg.of_below (F := []) hB3) (by simp)
              have cq4 := cells_at hq4
              have lq4 := heap_lt hq4
              have HBr := Lib.hid (Hb3.out.trans (hB3.mono s3))
              have Hr3 := Lib.hid (HP2.out.ref.chg (Chg.of_below (F := []) HBr.out) (by simp))
              have Hq9 := Lib.hid hq9
              clear hW3 hB3 hq9 hq4
              go_wp2_with fail
              refine (take_ref_no pr i L G _ Hr3.out hout).mono ?_
              rintro e w4 ⟨rfl, hb4⟩
              have s4 := hb4.size
              have hq9 := heap_chg Hq9.out (Chg.of_below (F := []) hb4) (by simp)
              have cq9 := cells_at hq9
              have lq9 := heap_lt hq9
              have Hb4 := Lib.hid (HBr.out.trans (hb4.mono (by omega)))
              clear hb4 hq9 cq4
              go_upto_region 20 with (fail)
              generalize hW4 : w4.alloc (.cells #[.int .u8 0, .slice none 0 0] 30) = W4
              have hB4 : Below w4.heap.size w4 W4 := by rw [← hW4]; exact (Below.refl _ _).alloc (Nat.le_refl _) _
              have sW4 : w4.heap.size + 1 ≤ W4.heap.size := by rw [← hW4]; simp
              have hq11 : W4.heap[w4.heap.size]? = some (.cells #[.int .u8 0, .slice none 0 0] 30 (0, 0)) := by rw [← hW4]; exact heap_new _ _
              have cq11 := cells_at hq11
              have lq11 := heap_lt hq11
              have cq9' : ∀ i, W4.cell? ⟨w3.heap.size, i, none⟩ = #[Value.int .u8 0, .slice none 0 0][i]? := fun i => (hB4.cell (p := ⟨w3.heap.size, i, none⟩) lq9).trans (cq9 i)
              have lq9' : w3.heap.size < W4.heap.size := by omega
              have HB4 := Lib.hid hB4
              clear hW4 hB4 hq11 cq9
              go_wp2_with fail
              generalize hW5 : (W4.alloc (.cells #[.int .u8 0, .slice none 0 0] 30)).alloc (.cells #[.int .u8 0, .slice none 0 0] 30) = W5
              have hB5 : Below W4.heap.size W4 W5 := by rw [← hW5]; exact ((Below.refl _ _).alloc (Nat.le_refl _) _).alloc (by simp) _
              have hz1 : W5.heap[W4.heap.size]? = some (.cells #[.int .u8 0, .slice none 0 0] 30 (0, 0)) := by rw [← hW5, heap_old _ _ (by simp)]; exact heap_new _ _
              have hz2 : W5.heap[W4.heap.size + 1]? = some (.cells #[.int .u8 0, .slice none 0 0] 30 (0, 0)) := by rw [← hW5]; exact heap_new' _ _ (by simp)
              have hS := same_eq [(⟨0, [], false⟩, none, 0)] [(⟨0, [], false⟩, none, 0)] (some ⟨W4.heap.size, 0, none⟩) (some ⟨W4.heap.size + 1, 0, none⟩) 1 1 W5 (Ls.one hz1 (Sl.nil _ _)) (Ls.one hz2 (Sl.nil _ _)) (by simp) (by simp)
              simp only [List.length_singleton] at hS
              have HS := Lib.hid hS
              have HB5 := Lib.hid hB5
              clear hS hB5 hz1 hz2 hW5 cq11 cq9'
              refine HS.out.mono ?_
              rintro e w6 ⟨rfl, hb6⟩
              have hb6' : Below w2.heap.size w2 w6 := Hb4.out.trans ((HB4.out.trans ((HB5.out.trans (hb6.mono HB5.out.size)).mono HB4.out.size)).mono Hb4.out.size)
              have HB6 := Lib.hid hb6'
              clear hb6 hb6' HS
              go_wp2_with fail
              go_meet
              exact ⟨pb, pr, L, F, G, bs, rfl, rfl, rfl, (HP2.out.below HB6.out).mono (by omega), owns_chg Hown.out (Chg.of_below (F := []) HB6.out) (by simp), Hdis.out⟩
          have k2' : (kd == 2) = false := by simpa using k2
          by_cases k3 : kd = 3
          · subst k3
            as_aux_lemma =>
            clear k1 k2
            have hL := HP2.out.len
            by_cases hin : 0 ≤ i ∧ i < (L.length : Int)
            · have hn : ∃ n : Nat, i = n := ⟨i.toNat, by omega⟩
              obtain ⟨n, rfl⟩ := hn
              have hl : ∃ l, L[n]? = some l := ⟨L[n]'(by omega), by simp⟩
              obtain ⟨l, hl⟩ := hl
              have hl200 := HP2.out.sml l (List.mem_of_getElem? hl)
              have Hl := Lib.hid hl
              clear hl
              go_wp2_with fail
              refine region_tree_at (fun k => k = wr.heap.size) (sgOf [([0, 1, 2, 4, 5, 6], false), ([3], true), ([7, 8, 9], false)]) mixed (by kernel_rfl) ?_
              simp only [sgOf, wpSgB, List.map_cons, List.map_nil, List.getD_cons_succ, List.getD_cons_zero]
              go_wp2_with fail
              refine (double_R pb n _ L F l HP2.out.bag.drew Hl.out (by omega) (by omega)).mono ?_
              rintro e w3 ⟨rfl, hT1⟩
              have HT1 := Lib.hid hT1
              have hr3 := HP2.out.ref_after hT1.drew (Below.refl _ _)
              have Hr3 := Lib.hid hr3
              clear hT1 hr3
              go_wp2_with fail
              refine And.intro (Held.of_chg Hq.out HT1.out.chg' hFq) ?_
              go_wp2_with fail
              refine (double_ref pr n l L G _ Hr3.out Hl.out (by omega)).mono ?_
              rintro e w4 ⟨rfl, hT2⟩
              have HT2 := Lib.hid hT2
              clear hT2
              go_wp2_with fail
              refine And.intro (And.intro (by kernel_rfl) ?rds) ?_
              case rds =>
                simp [reads, readsIn, Act.eval]
              go_wp2_with fail
              go_meet
              obtain ⟨F', G', h1, h2, h3, h4⟩ := HP2.out.both HT1.out.drew (Below.refl _ _) HT2.out (m' := k + 1) (by simp; omega) (fun l' hl => by
                rw [List.mem_append, List.mem_singleton] at hl
                rcases hl with hl | rfl
                · exact HP2.out.sml _ hl
                · exact hl200)
              exact Mid.of h1 Hown.out Hdis.out h2 h3 h4
            · have hout : i < 0 ∨ (L.length : Int) ≤ i := by omega
              go_wp2_with fail
              refine region_tree_at (fun k => k = wr.heap.size) (sgOf [([0, 1, 2, 4, 5, 6], false), ([3], true), ([7, 8, 9], false)]) mixed (by kernel_rfl) ?_
              simp only [sgOf, wpSgB, List.map_cons, List.map_nil, List.getD_cons_succ, List.getD_cons_zero]
              go_wp2_with fail
              refine (double_R_no pb i _ L F HP2.out.bag.drew i1 i2 hout).mono ?_
              rintro e w3 ⟨rfl, hT1⟩
              have HT1 := Lib.hid hT1
              have hr3 := HP2.out.ref_after hT1.drew (Below.refl _ _)
              have Hr3 := Lib.hid hr3
              clear hT1 hr3
              go_wp2_with fail
              refine And.intro (Held.of_chg Hq.out HT1.out.chg' hFq) ?_
              go_wp2_with fail
              refine (double_ref_no pr i L G _ Hr3.out hout).mono ?_
              rintro e w4 ⟨rfl, rfl⟩
              go_wp2_with fail
              refine And.intro (And.intro (by kernel_rfl) ?rds) ?_
              case rds => simp [reads, readsIn, Act.eval]
              go_wp2_with fail
              go_meet
              obtain ⟨F', G', h1, h2, h3, h4⟩ := HP2.out.both HT1.out.drew (Below.refl _ _) ⟨G, Hr3.out, fun _ h => .inl h, Chg.refl _ _⟩ (m' := k + 1) (by omega) HP2.out.sml
              exact Mid.of h1 Hown.out Hdis.out h2 h3 h4
          have k3' : (kd == 3) = false := by simpa using k3
          by_cases k4 : kd = 4
          · subst k4
            as_aux_lemma =>
            clear k1 k2 k3
            have hL := HP2.out.len
            have Hml := Lib.hid (show ∀ l ∈ (if mayChange L i at_ x then doChange L i at_ x else L), l.b.length ≤ 200 from change_sml L i at_ x HP2.out.sml)
            have Hmn := Lib.hid (show (if mayChange L i at_ x then doChange L i at_ x else L).length = L.length from change_len L i at_ x)
            go_wp2_with fail
            refine region_tree_at (fun k => k = wr.heap.size) (sgOf [([0, 1, 2, 3, 4, 5, 6, 8, 9, 10, 11, 12, 13, 14], false), ([7], true), ([15, 16, 17], false)]) mixed (by kernel_rfl) ?_
            simp only [sgOf, wpSgB, List.map_cons, List.map_nil, List.getD_cons_succ, List.getD_cons_zero]
            go_wp2_with fail
            refine (change_R pb i at_ x _ L F HP2.out.bag.drew i1 i2 (by omega) (fun l hl => by have := HP2.out.sml l hl; omega)).mono ?_
            rintro e w3 ⟨rfl, hT1⟩
            have HT1 := Lib.hid hT1
            have hr3 := HP2.out.ref_after hT1.drew (Below.refl _ _)
            have Hr3 := Lib.hid hr3
            clear hT1 hr3
            go_wp2_with fail
            refine And.intro (Held.of_chg Hq.out HT1.out.chg' hFq) ?_
            go_wp2_with fail
            refine (change_ref pr i at_ x _ L G Hr3.out (by omega) (fun l hl => by have := HP2.out.sml l hl; omega)).mono ?_
            rintro e w4 ⟨rfl, hT2⟩
            have HT2 := Lib.hid hT2
            clear hT2
            go_wp2_with fail
            refine And.intro (And.intro (by kernel_rfl) ?rds) ?_
            case rds => simp [reads, readsIn, Act.eval]
            go_wp2_with fail
            go_meet
            obtain ⟨F', G', h1, h2, h3, h4⟩ := HP2.out.both HT1.out.drew (Below.refl _ _) HT2.out (m' := k + 1) (by rw [Hmn.out]; omega) Hml.out
            exact Mid.of h1 Hown.out Hdis.out h2 h3 h4
          have k4' : (kd == 4) = false := by simpa using k4
          by_cases k5 : kd = 5
          · subst k5
            as_aux_lemma =>
            clear k1 k2 k3 k4
            have hL := HP2.out.len
            go_wp2_with fail
            refine (copy_R pb _ L F HP2.out.bag (by omega) (fun l hl => by have := HP2.out.sml l hl; omega)).mono ?_
            rintro e w3 ⟨rfl, F1, hc3, hF1, hb3⟩
            have s3 := hb3.size
            have hq3 := heap_chg Hq.out (Chg.of_below (F := []) hb3) (by simp)
            have cq3 := cells_at hq3
            have lq3 := heap_lt hq3
            have hB3 := HP2.out.bag.chg (Chg.of_below (F := []) hb3) (by simp)
            have Hc3 := Lib.hid hc3
            have HF1 := Lib.hid hF1
            have Hb3 := Lib.hid hb3
            have Hq3 := Lib.hid hq3
            have HB3 := Lib.hid hB3
            clear hc3 hF1 hb3 hq3 hB3 cq
            go_wp2_with fail
            refine (put_R pb t8 bs ba bs.length bc _ L F rfl (Hsl0.out.below (HP2.out.bel.trans (Hb3.out.mono hw2))) (by omega) HB3.out (by omega)).mono ?_
            rintro e w4 ⟨rfl, F4, hB4, hF4, hC4⟩
            have s4 := hC4.size
            have hq4 := heap_chg Hq3.out hC4 (by simpa using hFq)
            have cq4 := cells_at hq4
            have lq4 := heap_lt hq4
            have HB4 := Lib.hid hB4
            have HF4 := Lib.hid hF4
            have HC4 := Lib.hid hC4
            clear hB4 hF4 hC4 cq3 hq4
            go_wp2_with fail
            refine (change_R pb i at_ 1 _ _ F4 HB4.out i1 i2 (by simp; omega) (fun l hl => by
              rw [List.mem_append, List.mem_singleton] at hl
              rcases hl with hl | rfl
              · have := HP2.out.sml l hl; omega
              · show bs.length ≤ _; omega)).mono ?_
            rintro e w5 ⟨rfl, hT5⟩
            have h5 := play_case5 HP2.out Hc3.out HF1.out Hb3.out HC4.out HF4.out hT5.chg'
            have H5 := Lib.hid h5
            clear hT5 h5 cq4
            go_wp2_with fail
            refine (copy_ref pr L G _ H5.out.2.1).mono ?_
            rintro e w6 ⟨rfl, G', hR6, hG6, hb6⟩
            have h6 := play_case5' HP2.out HF1.out H5.out.1 H5.out.2.2 hR6 hG6 hb6
            have s5 := H5.out.2.2.size
            have HG6 := Lib.hid hG6
            have H6 := Lib.hid h6
            clear hR6 hG6 hb6 h6
            go_wp2_with fail
            go_meet
            exact Mid.of H6.out.1 Hown.out Hdis.out (fun x hx => .inr (HF1.out x hx)) (fun x hx => by rcases HG6.out x hx with h | h; exact .inl h; right; omega) H6.out.2
          have k5' : (kd == 5) = false := by simpa using k5
          by_cases k6 : kd = 6
          · subst k6
            as_aux_lemma =>
            clear k1 k2 k3 k4 k5
            have hL := HP2.out.len
            go_wp2_with fail
            refine (copy_R pb _ L F HP2.out.bag (by omega) (fun l hl => by have := HP2.out.sml l hl; omega)).mono ?_
            rintro e w3 ⟨rfl, F1, hc3, hF1, hb3⟩
            have s3 := hb3.size
            have hq3 := heap_chg Hq.out (Chg.of_below (F := []) hb3) (by simp)
            have cq3 := cells_at hq3
            have lq3 := heap_lt hq3
            have Hc3 := Lib.hid hc3
            have HF1 := Lib.hid hF1
            have Hb3 := Lib.hid hb3
            have Hq3 := Lib.hid hq3
            clear hc3 hF1 hb3 hq3 cq
            go_wp2_with fail
            refine (change_R w2.heap.size i at_ 1 _ L F1 Hc3.out i1 i2 (by omega) (fun l hl => by have := HP2.out.sml l hl; omega)).mono ?_
            rintro e w4 ⟨rfl, F4, hB4, hF4, hC4⟩
            have s4 := hC4.size
            have hF4' : ∀ x ∈ F4, w2.heap.size ≤ x := fun x hx => by
              rcases hF4 x hx with h | h
              · exact HF1.out x h
              · omega
            have hb4 : Below w2.heap.size w2 w4 := Hb3.out.trans (hC4.below s3 HF1.out)
            have hq4 := heap_chg Hq.out (Chg.of_below (F := []) hb4) (by simp)
            have cq4 := cells_at hq4
            have lq4 := heap_lt hq4
            have HB4 := Lib.hid hB4
            have HF4 := Lib.hid hF4'
            have Hb4 := Lib.hid hb4
            have Hmn := Lib.hid (change_len L i at_ 1)
            clear hB4 hF4 hF4' hC4 cq3 hq4 hb4 Hc3 Hq3 Hb3
            generalize (if mayChange L i at_ 1 then doChange L i at_ 1 else L) = L4 at *
            have hL4 : L4.length ≤ 1000000 := by have := Hmn.out; omega
            by_cases hin : 0 ≤ i ∧ i < (L4.length : Int)
            · have hn : ∃ n : Nat, i = n := ⟨i.toNat, by omega⟩
              obtain ⟨n, rfl⟩ := hn
              have hl : ∃ l, L4[n]? = some l := ⟨L4[n]'(by omega), by simp⟩
              obtain ⟨l, hl⟩ := hl
              have Hl := Lib.hid hl
              clear hl
              go_wp2_with fail
              refine (take_R w2.heap.size n _ L4 F4 l HB4.out Hl.out hL4).mono ?_
              rintro e w5 ⟨_, _, _, rfl, _, _, _, _, hC5⟩
              have hb5 : Below w2.heap.size w2 w5 := Hb4.out.trans (hC5.below Hb4.out.size HF4.out)
              have Hb5 := Lib.hid hb5
              clear hC5 hb5 cq4
              go_wp2_with fail
              go_meet
              exact ⟨pb, pr, L, F, G, bs, rfl, rfl, rfl, (HP2.out.below Hb5.out).mono (by omega), owns_chg Hown.out (Chg.of_below (F := []) Hb5.out) (by simp), Hdis.out⟩
            · have hout : i < 0 ∨ (L4.length : Int) ≤ i := by omega
              go_wp2_with fail
              refine (take_R_no w2.heap.size i _ L4 F4 HB4.out i1 i2 hout).mono ?_
              rintro e w5 ⟨rfl, _, hb5⟩
              have hb5' : Below w2.heap.size w2 w5 := Hb4.out.trans (hb5.mono Hb4.out.size)
              have Hb5 := Lib.hid hb5'
              clear hb5 hb5' cq4
              go_wp2_with fail
              go_meet
              exact ⟨pb, pr, L, F, G, bs, rfl, rfl, rfl, (HP2.out.below Hb5.out).mono (by omega), owns_chg Hown.out (Chg.of_below (F := []) Hb5.out) (by simp), Hdis.out⟩
          have k6' : (kd == 6) = false := by simpa using k6
          clear k1 k2 k3 k4 k5 k6
          go_wp2_with fail
          go_meet
          exact ⟨pb, pr, L, F, G, bs, rfl, rfl, rfl, HP2.out.mono (by omega), Hown.out, Hdis.out⟩
        case rest =>
          as_aux_lemma =>
          obtain ⟨pb', pr', L', F', G', bs', rfl, rfl, rfl, hP3, hown3, hdis3⟩ := hcut
          have HP3 := Lib.hid hP3
          have Hown3 := Lib.hid hown3
          have Hdis3 := Lib.hid hdis3
          have hw3 := hP3.bel.size
          clear hP3 hown3 hdis3 cq Hq HP2 Hown Hdis hFq hGq Hsl0
          go_wp2_with fail
          go_loopw [149] (fun s wv => ∃ j : Nat, j ≤ bs.length ∧ s = .int .i64 j ∧ InLoop w wc ia bs.length ic wv) (fun s _ => bs.length - (intOf s).toNat)
          case atStart => exact ⟨0, Nat.zero_le _, rfl, _, Hown3.out, Chg.refl _ _⟩
          case round =>
            obtain ⟨j, hj, rfl, b2, ho3, hc3⟩ := hrel
            have Ho3 := Lib.hid ho3
            have Hc3 := Lib.hid hc3
            by_cases hjl : j < bs.length
            · have hjl' : (j : Int) < (bs.length : Int) := by omega
              have hb2 := u8s_len ho3
              obtain ⟨g, rfl, e0, e1, _⟩ := own_at (i := j) (owns_base ho3 (Nat.zero_le _)) (u8s_at (by omega))
              have lg := World.block_lt_of_cell? _ _ e0
              have hadd := add_u8 (b2[j]'(by omega))
              clear ho3 hc3
              go_wp2_with fail
              go_roundw
              case rel => exact ⟨j + 1, by omega, by simp, by rw [inc_u8]; exact InLoop.step Ho3.out Hc3.out _⟩
              case measure => simp [intOf]; omega
            · have hjl' : ¬ (j : Int) < (bs.length : Int) := by omega
              have hP4 : Play w wr pb' pr' L' F' G' (k + 1) := HP3.out.chg hc3 (fun x hx => ⟨(owns_lt Hown3.out x hx).1, Hdis3.out x hx⟩)
              have HP4 := Lib.hid hP4
              have hw4 := hP4.bel.size
              have hlen4 := hP4.len
              have hm4 : L'.length ≤ 1000000 := by omega
              clear ho3 hc3 Ho3 Hc3 hP4 HP3 Hown3 Hdis3
              have ⟨w4, hw4e⟩ : ∃ w4, w4 = wr := ⟨wr, rfl⟩
              subst hw4e
              go_wp2_with fail
              refine (all_R pb' _ L' F' HP4.out.bag hm4 (fun l hl => by have := HP4.out.sml l hl; omega)).mono ?_
              rintro e w5 ⟨N, oa, oc, rfl, hN, hA, hb5⟩
              have hNl : N.length = L'.length := by rw [← hN]; simp
              have hP5 := HP4.out.below hb5
              have HP5 := Lib.hid hP5
              have hw5 := hb5.size
              have HA := Lib.hid hA
              have HN := Lib.hid hN
              have Hb5 := Lib.hid hb5
              clear hA hN hb5 hP5
              go_wp2_with fail
              refine region_text [([0, 1, 2, 3, 4, 5, 6, 7, 8, 9, 10, 12, 13, 14, 15, 16], false), ([11], true), ([17, 18], false)] mixed (by kernel_rfl) ?_
              simp only [wpSegs, List.map_cons, List.map_nil, List.getD_cons_succ, List.getD_cons_zero]
              go_wp2_with fail
              refine (all_ref pr' L' G' _ HP5.out.ref.drew hm4 (fun l hl => by have := HP5.out.sml l hl; omega)).mono ?_
              rintro e w6 ⟨N2, oa2, oc2, rfl, hN2, hLs2, hb6⟩
              have hb6' : Below w5.heap.size w5 w6 := (Below.refl _ _).drew.trans hb6
              have hN2l : N2.length = L'.length := by rw [← hN2]; simp
              have hS := same_eq N N2 oa oa2 oc oc2 w6 (HA.out.ls.below hb6') hLs2 (by
                have h1 := congrArg (List.map (fun l : Lt => (l.t, l.b))) HN.out
                have h2 := congrArg (List.map (fun l : Lt => (l.t, l.b))) hN2
                simp only [List.map_map] at h1 h2
                exact h1.trans h2.symm) (by omega)
              rw [hNl, hN2l] at hS
              have HS := Lib.hid hS
              have Hb6 := Lib.hid hb6'
              have hw6 := hb6'.size
              clear hS hb6 hb6' hN2 hLs2
              go_wp2_with fail
              refine HS.out.mono ?_
              rintro e w7 ⟨rfl, hb7⟩
              have hb7' : Below w5.heap.size w5 w7 := Hb6.out.trans (hb7.mono hw6)
              have hw7 := hb7'.size
              have hP7 := HP5.out.below hb7'
              obtain ⟨ta, tc, ra, rc, wa, kc, hR7, hG7⟩ := hP7.ref
              have cc7 := cells_at hR7.blk
              have lr7 := heap_lt hR7.blk
              have HP7 := Lib.hid hP7
              have Hb7 := Lib.hid hb7'
              clear hb7 hb7' hP7 hR7 HS
              go_wp2_with fail
              refine (len_R pb' _ L' F' HP7.out.bag).mono ?_
              rintro e w8 ⟨rfl, rfl⟩
              go_wp2_with fail
              refine And.intro (Agree.refl _) ?_
              go_wp2_with fail
              refine And.intro (by kernel_rfl) ?_
              have HO7 : Hid (OverLoop w4 N oa oc w7) := Lib.hid ⟨AllW.below HA.out.weak Hb7.out, Hb5.out.trans (Hb7.out.mono hw5)⟩
              clear cc7 HP7 Hb7 Hb6 HP5 HA Hb5
              go_wp2_with fail
              go_loopw [182] (fun s wv => ∃ j : Nat, j ≤ L'.length ∧ s = .int .i64 j ∧ OverLoop w4 N oa oc wv) (fun s _ => L'.length - (intOf s).toNat)
              case atStart => exact ⟨0, Nat.zero_le _, rfl, HO7.out⟩
              case round =>
                obtain ⟨n, hn, rfl, hO8⟩ := hrel
                have HO8 := Lib.hid hO8
                by_cases hnl : n < L'.length
                · have hnl' : (n : Int) < (L'.length : Int) := by omega
                  have hx : ∃ y, N[n]? = some y := ⟨N[n], by simp [hNl, hnl]⟩
                  obtain ⟨y, hy⟩ := hx
                  obtain ⟨g, rfl, e0, lg⟩ := hO8.1.at hy
                  have Hy := Lib.hid (List.mem_of_getElem? hy)
                  have hyl : y.1.b.length ≤ 200 := HP4.out.sml _ (by rw [← HN.out]; exact List.mem_map_of_mem (List.mem_of_getElem? hy))
                  have hyl' : (y.1.b.length : Int) ≤ 200 := by omega
                  have Hyn := Lib.hid hy
                  clear hO8 hy
                  go_wp2_with fail
                  go_loopw [191] (fun s wv => ∃ j : Nat, j ≤ y.1.b.length ∧ s = .int .i64 j ∧ OverLoop w4 N (some ⟨g, 0, none⟩) oc wv) (fun s _ => y.1.b.length - (intOf s).toNat)
                  case atStart => exact ⟨0, Nat.zero_le _, rfl, HO8.out⟩
                  case round =>
                    obtain ⟨q, hq, rfl, hO9⟩ := hrel
                    have HO9 := Lib.hid hO9
                    by_cases hql : q < y.1.b.length
                    · have hql' : (q : Int) < (y.1.b.length : Int) := by omega
                      obtain ⟨_, hge, e2, lg2⟩ := hO9.1.at Hyn.out
                      cases hge
                      obtain ⟨b2, ho9⟩ := hO9.1.bytes y Hy.out
                      have hb2 := u8s_len ho9
                      obtain ⟨g2, hg2, e3, e4, _⟩ := own_at (i := q) (owns_base ho9 (Nat.zero_le _)) (u8s_at (by omega))
                      have lg3 := World.block_lt_of_cell? _ _ e3
                      rw [hg2] at e2
                      have Hg2 := Lib.hid hg2
                      clear hO9 ho9 hg2
                      go_wp2_with fail
                      go_roundw
                      case rel => exact ⟨q + 1, by omega, by simp, by rw [inc_u8]; exact HO9.out.step Hy.out Hg2.out _⟩
                      case measure => simp [intOf]; omega
                    · have hql' : ¬ (q : Int) < (y.1.b.length : Int) := by omega
                      clear hO9
                      go_wp2_with fail
                      go_roundw
                      case rel => exact ⟨n + 1, by omega, by simp, HO9.out⟩
                      case measure => simp [intOf]; omega
                · have hnl' : ¬ (n : Int) < (L'.length : Int) := by omega
                  clear hO8
                  go_wp2_with fail
                  go_roundw
                  case rel => exact ⟨k + 1, by omega, by simp, pb', pr', L', F', G', rfl, rfl, HP4.out.below HO8.out.2⟩
                  case measure => simp [intOf]; omega
    · have hlt' : ¬ (k : Int) < (O.length : Int) := by omega
      clear hP
      go_wp2_with fail
      refine (known_any _).mono ?_
      rintro e w5 ⟨rfl, hb5⟩
      go_wp2_with fail
      go_ret
      exact ⟨rfl, HPl.out.bel.trans (hb5.mono (HPl.out.bel.size))⟩
end Go.Proofs.Ytkgbdgnfidpelaa
