/- DotOrder: the walk. -/
import Derived.Test.YtblahapjdgncfaaDotK
namespace Go.Proofs.Ytblahapjdgncfaa
open Go.RowKit
set_option linter.unusedVariables false
set_option linter.unusedSimpArgs false

/-- all vectors of the law, in memory -/
structure OrdE (w0 w : World) (a b c j m : Option Addr) (ca cb cc cj cm : Nat) (A B C : List Dt) : Prop where
  hA : Vec w a ca A
  hB : Vec w b cb B
  hC : Vec w c cc C
  hJ : Vec w j cj (joinV A B)
  hM : Vec w m cm (meetV A B)
  bel : Below w0.heap.size w0 w
theorem OrdE.step {w0 w w' : World} {a b c j m : Option Addr} {ca cb cc cj cm : Nat} {A B C : List Dt} (h : OrdE w0 w a b c j m ca cb cc cj cm A B C) (hb : Below w.heap.size w w') : OrdE w0 w' a b c j m ca cb cc cj cm A B C :=
  ⟨h.hA.below hb, h.hB.below hb, h.hC.below hb, h.hJ.below hb, h.hM.below hb, h.bel.trans (hb.mono h.bel.size)⟩

set_option maxRecDepth 100000 in
set_option maxHeartbeats 4000000 in
theorem order_walk (a b c : Option Addr) (ca cb cc : Nat) (A B C : List Dt) (w : World) (hA : Vec w a ca A) (hB : Vec w b cb B) (hC : Vec w c cc C) (okA : okV A) (okB : okV B) (okC : okV C) :
    Calls Try.prog 3 #[.slice a A.length ca, .slice b B.length cb, .slice c C.length cc] w fun e w' => e = .returned (.bool true) ∧ Below w.heap.size w w' := by
  by_cases h1 : 60 < A.length
  · have h1' : (60 : Int) < (A.length : Int) := by omega
    go_enter Try.func3, Try.ntmps3
    go_wp2_with fail
    refine (known_any _).mono ?_
    rintro e w' ⟨rfl, hb⟩
    go_wp2_with fail
    go_ret
    exact ⟨rfl, hb⟩
  have h1' : ¬ (60 : Int) < (A.length : Int) := by omega
  by_cases h2 : 60 < B.length
  · have h2' : (60 : Int) < (B.length : Int) := by omega
    go_enter Try.func3, Try.ntmps3
    go_wp2_with fail
    refine (known_any _).mono ?_
    rintro e w' ⟨rfl, hb⟩
    go_wp2_with fail
    go_ret
    exact ⟨rfl, hb⟩
  have h2' : ¬ (60 : Int) < (B.length : Int) := by omega
  by_cases h3 : 60 < C.length
  · have h3' : (60 : Int) < (C.length : Int) := by omega
    go_enter Try.func3, Try.ntmps3
    go_wp2_with fail
    refine (known_any _).mono ?_
    rintro e w' ⟨rfl, hb⟩
    go_wp2_with fail
    go_ret
    exact ⟨rfl, hb⟩
  have h3' : ¬ (60 : Int) < (C.length : Int) := by omega
  have lJ : (joinV A B).length ≤ 64 := vecOf_length _
  have lM : (meetV A B).length ≤ 64 := vecOf_length _
  have okJ := okV_joinV okA okB
  have okM := okV_meetV okA okB
  go_enter Try.func3, Try.ntmps3
  go_wp2_with fail
  refine (join_any a b ca cb A B w hA hB okA okB (by omega) (by omega)).mono ?_
  rintro e w1 ⟨j, cj, rfl, hown1, hb1⟩
  have hJ1 := Lib.hid (vec_of hown1)
  have HA := Lib.hid (hA.below hb1)
  have HB := Lib.hid (hB.below hb1)
  have HC := Lib.hid (hC.below hb1)
  have Hb1 := Lib.hid hb1
  clear hown1 hb1 hA hB hC
  go_wp2_with fail
  refine (meet_any a b ca cb A B w1 HA.out HB.out okA okB (by omega) (by omega)).mono ?_
  rintro e w2 ⟨m, cm, rfl, hown2, hb2⟩
  have E : Hid (OrdE w w2 a b c j m ca cb cc cj cm A B C) := Lib.hid ⟨HA.out.below hb2, HB.out.below hb2, HC.out.below hb2, hJ1.out.below hb2, vec_of hown2, Hb1.out.trans (hb2.mono Hb1.out.size)⟩
  clear hown2 hb2 HA HB HC Hb1 hJ1
  go_wp2_with fail
  refine (within_any a j ca cj A (joinV A B) _ E.out.hA E.out.hJ okA okJ (by omega) (by omega)).mono ?_
  rintro e w' ⟨rfl, hb⟩
  rw [within_join_left okA okB]
  replace E := Lib.hid (E.out.step hb)
  clear hb
  go_wp2_with fail
  refine (within_any b j cb cj B (joinV A B) _ E.out.hB E.out.hJ okB okJ (by omega) (by omega)).mono ?_
  rintro e w' ⟨rfl, hb⟩
  rw [within_join_right okA okB]
  replace E := Lib.hid (E.out.step hb)
  clear hb
  go_wp2_with fail
  refine (within_any m a cm ca (meetV A B) A _ E.out.hM E.out.hA okM okA (by omega) (by omega)).mono ?_
  rintro e w' ⟨rfl, hb⟩
  rw [within_meet_left okA okB]
  replace E := Lib.hid (E.out.step hb)
  clear hb
  go_wp2_with fail
  refine (within_any m b cm cb (meetV A B) B _ E.out.hM E.out.hB okM okB (by omega) (by omega)).mono ?_
  rintro e w' ⟨rfl, hb⟩
  rw [within_meet_right okA okB]
  replace E := Lib.hid (E.out.step hb)
  clear hb
  go_wp2_with fail
  refine (join_any b a cb ca B A _ E.out.hB E.out.hA okB okA (by omega) (by omega)).mono ?_
  rintro e w' ⟨x, cx, rfl, hown, hb⟩
  replace E := Lib.hid (E.out.step hb)
  have hX := Lib.hid (vec_of hown)
  clear hown hb
  go_wp2_with fail
  refine (same_any j x cj cx (joinV A B) (joinV B A) _ E.out.hJ hX.out (by omega) (by have := vecOf_length (fun x => max (getN B x) (getN A x)); unfold joinV; omega)).mono ?_
  rintro e w' ⟨rfl, hb⟩
  rw [show decide (joinV A B = joinV B A) = true by simpa using joinV_comm A B]
  replace E := Lib.hid (E.out.step hb)
  clear hb hX
  go_wp2_with fail
  refine (meet_any b a cb ca B A _ E.out.hB E.out.hA okB okA (by omega) (by omega)).mono ?_
  rintro e w' ⟨x, cx, rfl, hown, hb⟩
  replace E := Lib.hid (E.out.step hb)
  have hX := Lib.hid (vec_of hown)
  clear hown hb
  go_wp2_with fail
  refine (same_any m x cm cx (meetV A B) (meetV B A) _ E.out.hM hX.out (by omega) (by have := vecOf_length (fun x => min (getN B x) (getN A x)); unfold meetV; omega)).mono ?_
  rintro e w' ⟨rfl, hb⟩
  rw [show decide (meetV A B = meetV B A) = true by simpa using meetV_comm A B]
  replace E := Lib.hid (E.out.step hb)
  clear hb hX
  go_wp2_with fail
  refine (within_any a c ca cc A C _ E.out.hA E.out.hC okA okC (by omega) (by omega)).mono ?_
  rintro e w' ⟨rfl, hb⟩
  replace E := Lib.hid (E.out.step hb)
  clear hb
  cases hp : withinV A C with
  | false =>
    as_aux_lemma =>
    clear hp
    go_wp2_with fail
    refine (within_any c a cc ca C A _ E.out.hC E.out.hA okC okA (by omega) (by omega)).mono ?_
    rintro e w' ⟨rfl, hb⟩
    replace E := Lib.hid (E.out.step hb)
    clear hb
    cases hr : withinV C A with
    | false =>
      as_aux_lemma =>
      clear hr
      go_wp2_with fail
      refine (canon_any a ca A _ E.out.hA okA (by omega)).mono ?_
      rintro e w' ⟨x, cx, rfl, hown, hb⟩
      replace E := Lib.hid (E.out.step hb)
      have hX := Lib.hid (vec_of hown)
      clear hown hb
      go_wp2_with fail
      refine (canon_any b cb B _ E.out.hB okB (by omega)).mono ?_
      rintro e w' ⟨y, cy, rfl, hown, hb⟩
      replace E := Lib.hid (E.out.step hb)
      have hX' := Lib.hid (hX.out.below hb)
      have hY := Lib.hid (vec_of hown)
      clear hown hb hX
      go_wp2_with fail
      refine (same_any x y cx cy (canonV A) (canonV B) _ hX'.out hY.out (Nat.le_trans (vecOf_length _) (by omega)) (Nat.le_trans (vecOf_length _) (by omega))).mono ?_
      rintro e w' ⟨rfl, hb⟩
      rw [canon_same okA okB]
      replace E := Lib.hid (E.out.step hb)
      clear hb hX' hY
      cases hx : withinV A B with
      | false =>
        as_aux_lemma =>
        rw [Bool.false_and]
        go_wp2_with fail
        refine (within_any a b ca cb A B _ E.out.hA E.out.hB okA okB (by omega) (by omega)).mono ?_
        rintro e w' ⟨rfl, hb⟩
        replace E := Lib.hid (E.out.step hb)
        clear hb
        rw [hx]
        clear hx
        go_wp2_with fail
        refine (canon_any j cj (joinV A B) _ E.out.hJ okJ (by omega)).mono ?_
        rintro e w' ⟨x, cx, rfl, hown, hb⟩
        replace E := Lib.hid (E.out.step hb)
        have hX := Lib.hid (vec_of hown)
        clear hown hb
        go_wp2_with fail
        refine (same_any x j cx cj (canonV (joinV A B)) (joinV A B) _ hX.out E.out.hJ (Nat.le_trans (vecOf_length _) (by omega)) (by omega)).mono ?_
        rintro e w' ⟨rfl, hb⟩
        rw [show decide (canonV (joinV A B) = joinV A B) = true by simpa using canon_join okA okB]
        replace E := Lib.hid (E.out.step hb)
        clear hb hX
        go_wp2_with fail
        refine (known_any _).mono ?_
        rintro e w' ⟨rfl, hb⟩
        replace E := Lib.hid (E.out.step hb)
        clear hb
        go_wp2_with fail
        go_ret
        exact ⟨rfl, E.out.bel⟩
      | true =>
        rw [Bool.true_and]
        cases hy : withinV B A with
        | false =>
          as_aux_lemma =>
          go_wp2_with fail
          refine (within_any a b ca cb A B _ E.out.hA E.out.hB okA okB (by omega) (by omega)).mono ?_
          rintro e w' ⟨rfl, hb⟩
          replace E := Lib.hid (E.out.step hb)
          clear hb
          rw [hx]
          clear hx
          go_wp2_with fail
          refine (within_any b a cb ca B A _ E.out.hB E.out.hA okB okA (by omega) (by omega)).mono ?_
          rintro e w' ⟨rfl, hb⟩
          replace E := Lib.hid (E.out.step hb)
          clear hb
          rw [hy]
          clear hy
          go_wp2_with fail
          refine (canon_any j cj (joinV A B) _ E.out.hJ okJ (by omega)).mono ?_
          rintro e w' ⟨x, cx, rfl, hown, hb⟩
          replace E := Lib.hid (E.out.step hb)
          have hX := Lib.hid (vec_of hown)
          clear hown hb
          go_wp2_with fail
          refine (same_any x j cx cj (canonV (joinV A B)) (joinV A B) _ hX.out E.out.hJ (Nat.le_trans (vecOf_length _) (by omega)) (by omega)).mono ?_
          rintro e w' ⟨rfl, hb⟩
          rw [show decide (canonV (joinV A B) = joinV A B) = true by simpa using canon_join okA okB]
          replace E := Lib.hid (E.out.step hb)
          clear hb hX
          go_wp2_with fail
          refine (known_any _).mono ?_
          rintro e w' ⟨rfl, hb⟩
          replace E := Lib.hid (E.out.step hb)
          clear hb
          go_wp2_with fail
          go_ret
          exact ⟨rfl, E.out.bel⟩
        | true =>
          as_aux_lemma =>
          go_wp2_with fail
          refine (within_any a b ca cb A B _ E.out.hA E.out.hB okA okB (by omega) (by omega)).mono ?_
          rintro e w' ⟨rfl, hb⟩
          replace E := Lib.hid (E.out.step hb)
          clear hb
          rw [hx]
          clear hx
          go_wp2_with fail
          refine (within_any b a cb ca B A _ E.out.hB E.out.hA okB okA (by omega) (by omega)).mono ?_
          rintro e w' ⟨rfl, hb⟩
          replace E := Lib.hid (E.out.step hb)
          clear hb
          rw [hy]
          clear hy
          go_wp2_with fail
          refine (canon_any j cj (joinV A B) _ E.out.hJ okJ (by omega)).mono ?_
          rintro e w' ⟨x, cx, rfl, hown, hb⟩
          replace E := Lib.hid (E.out.step hb)
          have hX := Lib.hid (vec_of hown)
          clear hown hb
          go_wp2_with fail
          refine (same_any x j cx cj (canonV (joinV A B)) (joinV A B) _ hX.out E.out.hJ (Nat.le_trans (vecOf_length _) (by omega)) (by omega)).mono ?_
          rintro e w' ⟨rfl, hb⟩
          rw [show decide (canonV (joinV A B) = joinV A B) = true by simpa using canon_join okA okB]
          replace E := Lib.hid (E.out.step hb)
          clear hb hX
          go_wp2_with fail
          refine (known_any _).mono ?_
          rintro e w' ⟨rfl, hb⟩
          replace E := Lib.hid (E.out.step hb)
          clear hb
          go_wp2_with fail
          go_ret
          exact ⟨rfl, E.out.bel⟩
    | true =>
      as_aux_lemma =>
      go_wp2_with fail
      refine (within_any c b cc cb C B _ E.out.hC E.out.hB okC okB (by omega) (by omega)).mono ?_
      rintro e w' ⟨rfl, hb⟩
      replace E := Lib.hid (E.out.step hb)
      clear hb
      go_wp2_with fail
      refine (within_any c m cc cm C (meetV A B) _ E.out.hC E.out.hM okC okM (by omega) (by omega)).mono ?_
      rintro e w' ⟨rfl, hb⟩
      replace E := Lib.hid (E.out.step hb)
      clear hb
      rw [← meet_greatest okA okB okC hr]
      clear hr
      generalize withinV C B = q
      cases q with
      | false =>
        as_aux_lemma =>
        go_wp2_with fail
        refine (canon_any a ca A _ E.out.hA okA (by omega)).mono ?_
        rintro e w' ⟨x, cx, rfl, hown, hb⟩
        replace E := Lib.hid (E.out.step hb)
        have hX := Lib.hid (vec_of hown)
        clear hown hb
        go_wp2_with fail
        refine (canon_any b cb B _ E.out.hB okB (by omega)).mono ?_
        rintro e w' ⟨y, cy, rfl, hown, hb⟩
        replace E := Lib.hid (E.out.step hb)
        have hX' := Lib.hid (hX.out.below hb)
        have hY := Lib.hid (vec_of hown)
        clear hown hb hX
        go_wp2_with fail
        refine (same_any x y cx cy (canonV A) (canonV B) _ hX'.out hY.out (Nat.le_trans (vecOf_length _) (by omega)) (Nat.le_trans (vecOf_length _) (by omega))).mono ?_
        rintro e w' ⟨rfl, hb⟩
        rw [canon_same okA okB]
        replace E := Lib.hid (E.out.step hb)
        clear hb hX' hY
        cases hx : withinV A B with
        | false =>
          as_aux_lemma =>
          rw [Bool.false_and]
          go_wp2_with fail
          refine (within_any a b ca cb A B _ E.out.hA E.out.hB okA okB (by omega) (by omega)).mono ?_
          rintro e w' ⟨rfl, hb⟩
          replace E := Lib.hid (E.out.step hb)
          clear hb
          rw [hx]
          clear hx
          go_wp2_with fail
          refine (canon_any j cj (joinV A B) _ E.out.hJ okJ (by omega)).mono ?_
          rintro e w' ⟨x, cx, rfl, hown, hb⟩
          replace E := Lib.hid (E.out.step hb)
          have hX := Lib.hid (vec_of hown)
          clear hown hb
          go_wp2_with fail
          refine (same_any x j cx cj (canonV (joinV A B)) (joinV A B) _ hX.out E.out.hJ (Nat.le_trans (vecOf_length _) (by omega)) (by omega)).mono ?_
          rintro e w' ⟨rfl, hb⟩
          rw [show decide (canonV (joinV A B) = joinV A B) = true by simpa using canon_join okA okB]
          replace E := Lib.hid (E.out.step hb)
          clear hb hX
          go_wp2_with fail
          refine (known_any _).mono ?_
          rintro e w' ⟨rfl, hb⟩
          replace E := Lib.hid (E.out.step hb)
          clear hb
          go_wp2_with fail
          go_ret
          exact ⟨rfl, E.out.bel⟩
        | true =>
          rw [Bool.true_and]
          cases hy : withinV B A with
          | false =>
            as_aux_lemma =>
            go_wp2_with fail
            refine (within_any a b ca cb A B _ E.out.hA E.out.hB okA okB (by omega) (by omega)).mono ?_
            rintro e w' ⟨rfl, hb⟩
            replace E := Lib.hid (E.out.step hb)
            clear hb
            rw [hx]
            clear hx
            go_wp2_with fail
            refine (within_any b a cb ca B A _ E.out.hB E.out.hA okB okA (by omega) (by omega)).mono ?_
            rintro e w' ⟨rfl, hb⟩
            replace E := Lib.hid (E.out.step hb)
            clear hb
            rw [hy]
            clear hy
            go_wp2_with fail
            refine (canon_any j cj (joinV A B) _ E.out.hJ okJ (by omega)).mono ?_
            rintro e w' ⟨x, cx, rfl, hown, hb⟩
            replace E := Lib.hid (E.out.step hb)
            have hX := Lib.hid (vec_of hown)
            clear hown hb
            go_wp2_with fail
            refine (same_any x j cx cj (canonV (joinV A B)) (joinV A B) _ hX.out E.out.hJ (Nat.le_trans (vecOf_length _) (by omega)) (by omega)).mono ?_
            rintro e w' ⟨rfl, hb⟩
            rw [show decide (canonV (joinV A B) = joinV A B) = true by simpa using canon_join okA okB]
            replace E := Lib.hid (E.out.step hb)
            clear hb hX
            go_wp2_with fail
            refine (known_any _).mono ?_
            rintro e w' ⟨rfl, hb⟩
            replace E := Lib.hid (E.out.step hb)
            clear hb
            go_wp2_with fail
            go_ret
            exact ⟨rfl, E.out.bel⟩
          | true =>
            as_aux_lemma =>
            go_wp2_with fail
            refine (within_any a b ca cb A B _ E.out.hA E.out.hB okA okB (by omega) (by omega)).mono ?_
            rintro e w' ⟨rfl, hb⟩
            replace E := Lib.hid (E.out.step hb)
            clear hb
            rw [hx]
            clear hx
            go_wp2_with fail
            refine (within_any b a cb ca B A _ E.out.hB E.out.hA okB okA (by omega) (by omega)).mono ?_
            rintro e w' ⟨rfl, hb⟩
            replace E := Lib.hid (E.out.step hb)
            clear hb
            rw [hy]
            clear hy
            go_wp2_with fail
            refine (canon_any j cj (joinV A B) _ E.out.hJ okJ (by omega)).mono ?_
            rintro e w' ⟨x, cx, rfl, hown, hb⟩
            replace E := Lib.hid (E.out.step hb)
            have hX := Lib.hid (vec_of hown)
            clear hown hb
            go_wp2_with fail
            refine (same_any x j cx cj (canonV (joinV A B)) (joinV A B) _ hX.out E.out.hJ (Nat.le_trans (vecOf_length _) (by omega)) (by omega)).mono ?_
            rintro e w' ⟨rfl, hb⟩
            rw [show decide (canonV (joinV A B) = joinV A B) = true by simpa using canon_join okA okB]
            replace E := Lib.hid (E.out.step hb)
            clear hb hX
            go_wp2_with fail
            refine (known_any _).mono ?_
            rintro e w' ⟨rfl, hb⟩
            replace E := Lib.hid (E.out.step hb)
            clear hb
            go_wp2_with fail
            go_ret
            exact ⟨rfl, E.out.bel⟩
      | true =>
        as_aux_lemma =>
        go_wp2_with fail
        refine (canon_any a ca A _ E.out.hA okA (by omega)).mono ?_
        rintro e w' ⟨x, cx, rfl, hown, hb⟩
        replace E := Lib.hid (E.out.step hb)
        have hX := Lib.hid (vec_of hown)
        clear hown hb
        go_wp2_with fail
        refine (canon_any b cb B _ E.out.hB okB (by omega)).mono ?_
        rintro e w' ⟨y, cy, rfl, hown, hb⟩
        replace E := Lib.hid (E.out.step hb)
        have hX' := Lib.hid (hX.out.below hb)
        have hY := Lib.hid (vec_of hown)
        clear hown hb hX
        go_wp2_with fail
        refine (same_any x y cx cy (canonV A) (canonV B) _ hX'.out hY.out (Nat.le_trans (vecOf_length _) (by omega)) (Nat.le_trans (vecOf_length _) (by omega))).mono ?_
        rintro e w' ⟨rfl, hb⟩
        rw [canon_same okA okB]
        replace E := Lib.hid (E.out.step hb)
        clear hb hX' hY
        cases hx : withinV A B with
        | false =>
          as_aux_lemma =>
          rw [Bool.false_and]
          go_wp2_with fail
          refine (within_any a b ca cb A B _ E.out.hA E.out.hB okA okB (by omega) (by omega)).mono ?_
          rintro e w' ⟨rfl, hb⟩
          replace E := Lib.hid (E.out.step hb)
          clear hb
          rw [hx]
          clear hx
          go_wp2_with fail
          refine (canon_any j cj (joinV A B) _ E.out.hJ okJ (by omega)).mono ?_
          rintro e w' ⟨x, cx, rfl, hown, hb⟩
          replace E := Lib.hid (E.out.step hb)
          have hX := Lib.hid (vec_of hown)
          clear hown hb
          go_wp2_with fail
          refine (same_any x j cx cj (canonV (joinV A B)) (joinV A B) _ hX.out E.out.hJ (Nat.le_trans (vecOf_length _) (by omega)) (by omega)).mono ?_
          rintro e w' ⟨rfl, hb⟩
          rw [show decide (canonV (joinV A B) = joinV A B) = true by simpa using canon_join okA okB]
          replace E := Lib.hid (E.out.step hb)
          clear hb hX
          go_wp2_with fail
          refine (known_any _).mono ?_
          rintro e w' ⟨rfl, hb⟩
          replace E := Lib.hid (E.out.step hb)
          clear hb
          go_wp2_with fail
          go_ret
          exact ⟨rfl, E.out.bel⟩
        | true =>
          rw [Bool.true_and]
          cases hy : withinV B A with
          | false =>
            as_aux_lemma =>
            go_wp2_with fail
            refine (within_any a b ca cb A B _ E.out.hA E.out.hB okA okB (by omega) (by omega)).mono ?_
            rintro e w' ⟨rfl, hb⟩
            replace E := Lib.hid (E.out.step hb)
            clear hb
            rw [hx]
            clear hx
            go_wp2_with fail
            refine (within_any b a cb ca B A _ E.out.hB E.out.hA okB okA (by omega) (by omega)).mono ?_
            rintro e w' ⟨rfl, hb⟩
            replace E := Lib.hid (E.out.step hb)
            clear hb
            rw [hy]
            clear hy
            go_wp2_with fail
            refine (canon_any j cj (joinV A B) _ E.out.hJ okJ (by omega)).mono ?_
            rintro e w' ⟨x, cx, rfl, hown, hb⟩
            replace E := Lib.hid (E.out.step hb)
            have hX := Lib.hid (vec_of hown)
            clear hown hb
            go_wp2_with fail
            refine (same_any x j cx cj (canonV (joinV A B)) (joinV A B) _ hX.out E.out.hJ (Nat.le_trans (vecOf_length _) (by omega)) (by omega)).mono ?_
            rintro e w' ⟨rfl, hb⟩
            rw [show decide (canonV (joinV A B) = joinV A B) = true by simpa using canon_join okA okB]
            replace E := Lib.hid (E.out.step hb)
            clear hb hX
            go_wp2_with fail
            refine (known_any _).mono ?_
            rintro e w' ⟨rfl, hb⟩
            replace E := Lib.hid (E.out.step hb)
            clear hb
            go_wp2_with fail
            go_ret
            exact ⟨rfl, E.out.bel⟩
          | true =>
            as_aux_lemma =>
            go_wp2_with fail
            refine (within_any a b ca cb A B _ E.out.hA E.out.hB okA okB (by omega) (by omega)).mono ?_
            rintro e w' ⟨rfl, hb⟩
            replace E := Lib.hid (E.out.step hb)
            clear hb
            rw [hx]
            clear hx
            go_wp2_with fail
            refine (within_any b a cb ca B A _ E.out.hB E.out.hA okB okA (by omega) (by omega)).mono ?_
            rintro e w' ⟨rfl, hb⟩
            replace E := Lib.hid (E.out.step hb)
            clear hb
            rw [hy]
            clear hy
            go_wp2_with fail
            refine (canon_any j cj (joinV A B) _ E.out.hJ okJ (by omega)).mono ?_
            rintro e w' ⟨x, cx, rfl, hown, hb⟩
            replace E := Lib.hid (E.out.step hb)
            have hX := Lib.hid (vec_of hown)
            clear hown hb
            go_wp2_with fail
            refine (same_any x j cx cj (canonV (joinV A B)) (joinV A B) _ hX.out E.out.hJ (Nat.le_trans (vecOf_length _) (by omega)) (by omega)).mono ?_
            rintro e w' ⟨rfl, hb⟩
            rw [show decide (canonV (joinV A B) = joinV A B) = true by simpa using canon_join okA okB]
            replace E := Lib.hid (E.out.step hb)
            clear hb hX
            go_wp2_with fail
            refine (known_any _).mono ?_
            rintro e w' ⟨rfl, hb⟩
            replace E := Lib.hid (E.out.step hb)
            clear hb
            go_wp2_with fail
            go_ret
            exact ⟨rfl, E.out.bel⟩
  | true =>
    as_aux_lemma =>
    go_wp2_with fail
    refine (within_any b c cb cc B C _ E.out.hB E.out.hC okB okC (by omega) (by omega)).mono ?_
    rintro e w' ⟨rfl, hb⟩
    replace E := Lib.hid (E.out.step hb)
    clear hb
    go_wp2_with fail
    refine (within_any j c cj cc (joinV A B) C _ E.out.hJ E.out.hC okJ okC (by omega) (by omega)).mono ?_
    rintro e w' ⟨rfl, hb⟩
    replace E := Lib.hid (E.out.step hb)
    clear hb
    rw [← join_least okA okB hp]
    clear hp
    generalize withinV B C = q
    cases q with
    | false =>
      as_aux_lemma =>
      go_wp2_with fail
      refine (within_any c a cc ca C A _ E.out.hC E.out.hA okC okA (by omega) (by omega)).mono ?_
      rintro e w' ⟨rfl, hb⟩
      replace E := Lib.hid (E.out.step hb)
      clear hb
      cases hr : withinV C A with
      | false =>
        as_aux_lemma =>
        clear hr
        go_wp2_with fail
        refine (canon_any a ca A _ E.out.hA okA (by omega)).mono ?_
        rintro e w' ⟨x, cx, rfl, hown, hb⟩
        replace E := Lib.hid (E.out.step hb)
        have hX := Lib.hid (vec_of hown)
        clear hown hb
        go_wp2_with fail
        refine (canon_any b cb B _ E.out.hB okB (by omega)).mono ?_
        rintro e w' ⟨y, cy, rfl, hown, hb⟩
        replace E := Lib.hid (E.out.step hb)
        have hX' := Lib.hid (hX.out.below hb)
        have hY := Lib.hid (vec_of hown)
        clear hown hb hX
        go_wp2_with fail
        refine (same_any x y cx cy (canonV A) (canonV B) _ hX'.out hY.out (Nat.le_trans (vecOf_length _) (by omega)) (Nat.le_trans (vecOf_length _) (by omega))).mono ?_
        rintro e w' ⟨rfl, hb⟩
        rw [canon_same okA okB]
        replace E := Lib.hid (E.out.step hb)
        clear hb hX' hY
        cases hx : withinV A B with
        | false =>
          as_aux_lemma =>
          rw [Bool.false_and]
          go_wp2_with fail
          refine (within_any a b ca cb A B _ E.out.hA E.out.hB okA okB (by omega) (by omega)).mono ?_
          rintro e w' ⟨rfl, hb⟩
          replace E := Lib.hid (E.out.step hb)
          clear hb
          rw [hx]
          clear hx
          go_wp2_with fail
          refine (canon_any j cj (joinV A B) _ E.out.hJ okJ (by omega)).mono ?_
          rintro e w' ⟨x, cx, rfl, hown, hb⟩
          replace E := Lib.hid (E.out.step hb)
          have hX := Lib.hid (vec_of hown)
          clear hown hb
          go_wp2_with fail
          refine (same_any x j cx cj (canonV (joinV A B)) (joinV A B) _ hX.out E.out.hJ (Nat.le_trans (vecOf_length _) (by omega)) (by omega)).mono ?_
          rintro e w' ⟨rfl, hb⟩
          rw [show decide (canonV (joinV A B) = joinV A B) = true by simpa using canon_join okA okB]
          replace E := Lib.hid (E.out.step hb)
          clear hb hX
          go_wp2_with fail
          refine (known_any _).mono ?_
          rintro e w' ⟨rfl, hb⟩
          replace E := Lib.hid (E.out.step hb)
          clear hb
          go_wp2_with fail
          go_ret
          exact ⟨rfl, E.out.bel⟩
        | true =>
          rw [Bool.true_and]
          cases hy : withinV B A with
          | false =>
            as_aux_lemma =>
            go_wp2_with fail
            refine (within_any a b ca cb A B _ E.out.hA E.out.hB okA okB (by omega) (by omega)).mono ?_
            rintro e w' ⟨rfl, hb⟩
            replace E := Lib.hid (E.out.step hb)
            clear hb
            rw [hx]
            clear hx
            go_wp2_with fail
            refine (within_any b a cb ca B A _ E.out.hB E.out.hA okB okA (by omega) (by omega)).mono ?_
            rintro e w' ⟨rfl, hb⟩
            replace E := Lib.hid (E.out.step hb)
            clear hb
            rw [hy]
            clear hy
            go_wp2_with fail
            refine (canon_any j cj (joinV A B) _ E.out.hJ okJ (by omega)).mono ?_
            rintro e w' ⟨x, cx, rfl, hown, hb⟩
            replace E := Lib.hid (E.out.step hb)
            have hX := Lib.hid (vec_of hown)
            clear hown hb
            go_wp2_with fail
            refine (same_any x j cx cj (canonV (joinV A B)) (joinV A B) _ hX.out E.out.hJ (Nat.le_trans (vecOf_length _) (by omega)) (by omega)).mono ?_
            rintro e w' ⟨rfl, hb⟩
            rw [show decide (canonV (joinV A B) = joinV A B) = true by simpa using canon_join okA okB]
            replace E := Lib.hid (E.out.step hb)
            clear hb hX
            go_wp2_with fail
            refine (known_any _).mono ?_
            rintro e w' ⟨rfl, hb⟩
            replace E := Lib.hid (E.out.step hb)
            clear hb
            go_wp2_with fail
            go_ret
            exact ⟨rfl, E.out.bel⟩
          | true =>
            as_aux_lemma =>
            go_wp2_with fail
            refine (within_any a b ca cb A B _ E.out.hA E.out.hB okA okB (by omega) (by omega)).mono ?_
            rintro e w' ⟨rfl, hb⟩
            replace E := Lib.hid (E.out.step hb)
            clear hb
            rw [hx]
            clear hx
            go_wp2_with fail
            refine (within_any b a cb ca B A _ E.out.hB E.out.hA okB okA (by omega) (by omega)).mono ?_
            rintro e w' ⟨rfl, hb⟩
            replace E := Lib.hid (E.out.step hb)
            clear hb
            rw [hy]
            clear hy
            go_wp2_with fail
            refine (canon_any j cj (joinV A B) _ E.out.hJ okJ (by omega)).mono ?_
            rintro e w' ⟨x, cx, rfl, hown, hb⟩
            replace E := Lib.hid (E.out.step hb)
            have hX := Lib.hid (vec_of hown)
            clear hown hb
            go_wp2_with fail
            refine (same_any x j cx cj (canonV (joinV A B)) (joinV A B) _ hX.out E.out.hJ (Nat.le_trans (vecOf_length _) (by omega)) (by omega)).mono ?_
            rintro e w' ⟨rfl, hb⟩
            rw [show decide (canonV (joinV A B) = joinV A B) = true by simpa using canon_join okA okB]
            replace E := Lib.hid (E.out.step hb)
            clear hb hX
            go_wp2_with fail
            refine (known_any _).mono ?_
            rintro e w' ⟨rfl, hb⟩
            replace E := Lib.hid (E.out.step hb)
            clear hb
            go_wp2_with fail
            go_ret
            exact ⟨rfl, E.out.bel⟩
      | true =>
        as_aux_lemma =>
        go_wp2_with fail
        refine (within_any c b cc cb C B _ E.out.hC E.out.hB okC okB (by omega) (by omega)).mono ?_
        rintro e w' ⟨rfl, hb⟩
        replace E := Lib.hid (E.out.step hb)
        clear hb
        go_wp2_with fail
        refine (within_any c m cc cm C (meetV A B) _ E.out.hC E.out.hM okC okM (by omega) (by omega)).mono ?_
        rintro e w' ⟨rfl, hb⟩
        replace E := Lib.hid (E.out.step hb)
        clear hb
        rw [← meet_greatest okA okB okC hr]
        clear hr
        generalize withinV C B = q
        cases q with
        | false =>
          as_aux_lemma =>
          go_wp2_with fail
          refine (canon_any a ca A _ E.out.hA okA (by omega)).mono ?_
          rintro e w' ⟨x, cx, rfl, hown, hb⟩
          replace E := Lib.hid (E.out.step hb)
          have hX := Lib.hid (vec_of hown)
          clear hown hb
          go_wp2_with fail
          refine (canon_any b cb B _ E.out.hB okB (by omega)).mono ?_
          rintro e w' ⟨y, cy, rfl, hown, hb⟩
          replace E := Lib.hid (E.out.step hb)
          have hX' := Lib.hid (hX.out.below hb)
          have hY := Lib.hid (vec_of hown)
          clear hown hb hX
          go_wp2_with fail
          refine (same_any x y cx cy (canonV A) (canonV B) _ hX'.out hY.out (Nat.le_trans (vecOf_length _) (by omega)) (Nat.le_trans (vecOf_length _) (by omega))).mono ?_
          rintro e w' ⟨rfl, hb⟩
          rw [canon_same okA okB]
          replace E := Lib.hid (E.out.step hb)
          clear hb hX' hY
          cases hx : withinV A B with
          | false =>
            as_aux_lemma =>
            rw [Bool.false_and]
            go_wp2_with fail
            refine (within_any a b ca cb A B _ E.out.hA E.out.hB okA okB (by omega) (by omega)).mono ?_
            rintro e w' ⟨rfl, hb⟩
            replace E := Lib.hid (E.out.step hb)
            clear hb
            rw [hx]
            clear hx
            go_wp2_with fail
            refine (canon_any j cj (joinV A B) _ E.out.hJ okJ (by omega)).mono ?_
            rintro e w' ⟨x, cx, rfl, hown, hb⟩
            replace E := Lib.hid (E.out.step hb)
            have hX := Lib.hid (vec_of hown)
            clear hown hb
            go_wp2_with fail
            refine (same_any x j cx cj (canonV (joinV A B)) (joinV A B) _ hX.out E.out.hJ (Nat.le_trans (vecOf_length _) (by omega)) (by omega)).mono ?_
            rintro e w' ⟨rfl, hb⟩
            rw [show decide (canonV (joinV A B) = joinV A B) = true by simpa using canon_join okA okB]
            replace E := Lib.hid (E.out.step hb)
            clear hb hX
            go_wp2_with fail
            refine (known_any _).mono ?_
            rintro e w' ⟨rfl, hb⟩
            replace E := Lib.hid (E.out.step hb)
            clear hb
            go_wp2_with fail
            go_ret
            exact ⟨rfl, E.out.bel⟩
          | true =>
            rw [Bool.true_and]
            cases hy : withinV B A with
            | false =>
              as_aux_lemma =>
              go_wp2_with fail
              refine (within_any a b ca cb A B _ E.out.hA E.out.hB okA okB (by omega) (by omega)).mono ?_
              rintro e w' ⟨rfl, hb⟩
              replace E := Lib.hid (E.out.step hb)
              clear hb
              rw [hx]
              clear hx
              go_wp2_with fail
              refine (within_any b a cb ca B A _ E.out.hB E.out.hA okB okA (by omega) (by omega)).mono ?_
              rintro e w' ⟨rfl, hb⟩
              replace E := Lib.hid (E.out.step hb)
              clear hb
              rw [hy]
              clear hy
              go_wp2_with fail
              refine (canon_any j cj (joinV A B) _ E.out.hJ okJ (by omega)).mono ?_
              rintro e w' ⟨x, cx, rfl, hown, hb⟩
              replace E := Lib.hid (E.out.step hb)
              have hX := Lib.hid (vec_of hown)
              clear hown hb
              go_wp2_with fail
              refine (same_any x j cx cj (canonV (joinV A B)) (joinV A B) _ hX.out E.out.hJ (Nat.le_trans (vecOf_length _) (by omega)) (by omega)).mono ?_
              rintro e w' ⟨rfl, hb⟩
              rw [show decide (canonV (joinV A B) = joinV A B) = true by simpa using canon_join okA okB]
              replace E := Lib.hid (E.out.step hb)
              clear hb hX
              go_wp2_with fail
              refine (known_any _).mono ?_
              rintro e w' ⟨rfl, hb⟩
              replace E := Lib.hid (E.out.step hb)
              clear hb
              go_wp2_with fail
              go_ret
              exact ⟨rfl, E.out.bel⟩
            | true =>
              as_aux_lemma =>
              go_wp2_with fail
              refine (within_any a b ca cb A B _ E.out.hA E.out.hB okA okB (by omega) (by omega)).mono ?_
              rintro e w' ⟨rfl, hb⟩
              replace E := Lib.hid (E.out.step hb)
              clear hb
              rw [hx]
              clear hx
              go_wp2_with fail
              refine (within_any b a cb ca B A _ E.out.hB E.out.hA okB okA (by omega) (by omega)).mono ?_
              rintro e w' ⟨rfl, hb⟩
              replace E := Lib.hid (E.out.step hb)
              clear hb
              rw [hy]
              clear hy
              go_wp2_with fail
              refine (canon_any j cj (joinV A B) _ E.out.hJ okJ (by omega)).mono ?_
              rintro e w' ⟨x, cx, rfl, hown, hb⟩
              replace E := Lib.hid (E.out.step hb)
              have hX := Lib.hid (vec_of hown)
              clear hown hb
              go_wp2_with fail
              refine (same_any x j cx cj (canonV (joinV A B)) (joinV A B) _ hX.out E.out.hJ (Nat.le_trans (vecOf_length _) (by omega)) (by omega)).mono ?_
              rintro e w' ⟨rfl, hb⟩
              rw [show decide (canonV (joinV A B) = joinV A B) = true by simpa using canon_join okA okB]
              replace E := Lib.hid (E.out.step hb)
              clear hb hX
              go_wp2_with fail
              refine (known_any _).mono ?_
              rintro e w' ⟨rfl, hb⟩
              replace E := Lib.hid (E.out.step hb)
              clear hb
              go_wp2_with fail
              go_ret
              exact ⟨rfl, E.out.bel⟩
        | true =>
          as_aux_lemma =>
          go_wp2_with fail
          refine (canon_any a ca A _ E.out.hA okA (by omega)).mono ?_
          rintro e w' ⟨x, cx, rfl, hown, hb⟩
          replace E := Lib.hid (E.out.step hb)
          have hX := Lib.hid (vec_of hown)
          clear hown hb
          go_wp2_with fail
          refine (canon_any b cb B _ E.out.hB okB (by omega)).mono ?_
          rintro e w' ⟨y, cy, rfl, hown, hb⟩
          replace E := Lib.hid (E.out.step hb)
          have hX' := Lib.hid (hX.out.below hb)
          have hY := Lib.hid (vec_of hown)
          clear hown hb hX
          go_wp2_with fail
          refine (same_any x y cx cy (canonV A) (canonV B) _ hX'.out hY.out (Nat.le_trans (vecOf_length _) (by omega)) (Nat.le_trans (vecOf_length _) (by omega))).mono ?_
          rintro e w' ⟨rfl, hb⟩
          rw [canon_same okA okB]
          replace E := Lib.hid (E.out.step hb)
          clear hb hX' hY
          cases hx : withinV A B with
          | false =>
            as_aux_lemma =>
            rw [Bool.false_and]
            go_wp2_with fail
            refine (within_any a b ca cb A B _ E.out.hA E.out.hB okA okB (by omega) (by omega)).mono ?_
            rintro e w' ⟨rfl, hb⟩
            replace E := Lib.hid (E.out.step hb)
            clear hb
            rw [hx]
            clear hx
            go_wp2_with fail
            refine (canon_any j cj (joinV A B) _ E.out.hJ okJ (by omega)).mono ?_
            rintro e w' ⟨x, cx, rfl, hown, hb⟩
            replace E := Lib.hid (E.out.step hb)
            have hX := Lib.hid (vec_of hown)
            clear hown hb
            go_wp2_with fail
            refine (same_any x j cx cj (canonV (joinV A B)) (joinV A B) _ hX.out E.out.hJ (Nat.le_trans (vecOf_length _) (by omega)) (by omega)).mono ?_
            rintro e w' ⟨rfl, hb⟩
            rw [show decide (canonV (joinV A B) = joinV A B) = true by simpa using canon_join okA okB]
            replace E := Lib.hid (E.out.step hb)
            clear hb hX
            go_wp2_with fail
            refine (known_any _).mono ?_
            rintro e w' ⟨rfl, hb⟩
            replace E := Lib.hid (E.out.step hb)
            clear hb
            go_wp2_with fail
            go_ret
            exact ⟨rfl, E.out.bel⟩
          | true =>
            rw [Bool.true_and]
            cases hy : withinV B A with
            | false =>
              as_aux_lemma =>
              go_wp2_with fail
              refine (within_any a b ca cb A B _ E.out.hA E.out.hB okA okB (by omega) (by omega)).mono ?_
              rintro e w' ⟨rfl, hb⟩
              replace E := Lib.hid (E.out.step hb)
              clear hb
              rw [hx]
              clear hx
              go_wp2_with fail
              refine (within_any b a cb ca B A _ E.out.hB E.out.hA okB okA (by omega) (by omega)).mono ?_
              rintro e w' ⟨rfl, hb⟩
              replace E := Lib.hid (E.out.step hb)
              clear hb
              rw [hy]
              clear hy
              go_wp2_with fail
              refine (canon_any j cj (joinV A B) _ E.out.hJ okJ (by omega)).mono ?_
              rintro e w' ⟨x, cx, rfl, hown, hb⟩
              replace E := Lib.hid (E.out.step hb)
              have hX := Lib.hid (vec_of hown)
              clear hown hb
              go_wp2_with fail
              refine (same_any x j cx cj (canonV (joinV A B)) (joinV A B) _ hX.out E.out.hJ (Nat.le_trans (vecOf_length _) (by omega)) (by omega)).mono ?_
              rintro e w' ⟨rfl, hb⟩
              rw [show decide (canonV (joinV A B) = joinV A B) = true by simpa using canon_join okA okB]
              replace E := Lib.hid (E.out.step hb)
              clear hb hX
              go_wp2_with fail
              refine (known_any _).mono ?_
              rintro e w' ⟨rfl, hb⟩
              replace E := Lib.hid (E.out.step hb)
              clear hb
              go_wp2_with fail
              go_ret
              exact ⟨rfl, E.out.bel⟩
            | true =>
              as_aux_lemma =>
              go_wp2_with fail
              refine (within_any a b ca cb A B _ E.out.hA E.out.hB okA okB (by omega) (by omega)).mono ?_
              rintro e w' ⟨rfl, hb⟩
              replace E := Lib.hid (E.out.step hb)
              clear hb
              rw [hx]
              clear hx
              go_wp2_with fail
              refine (within_any b a cb ca B A _ E.out.hB E.out.hA okB okA (by omega) (by omega)).mono ?_
              rintro e w' ⟨rfl, hb⟩
              replace E := Lib.hid (E.out.step hb)
              clear hb
              rw [hy]
              clear hy
              go_wp2_with fail
              refine (canon_any j cj (joinV A B) _ E.out.hJ okJ (by omega)).mono ?_
              rintro e w' ⟨x, cx, rfl, hown, hb⟩
              replace E := Lib.hid (E.out.step hb)
              have hX := Lib.hid (vec_of hown)
              clear hown hb
              go_wp2_with fail
              refine (same_any x j cx cj (canonV (joinV A B)) (joinV A B) _ hX.out E.out.hJ (Nat.le_trans (vecOf_length _) (by omega)) (by omega)).mono ?_
              rintro e w' ⟨rfl, hb⟩
              rw [show decide (canonV (joinV A B) = joinV A B) = true by simpa using canon_join okA okB]
              replace E := Lib.hid (E.out.step hb)
              clear hb hX
              go_wp2_with fail
              refine (known_any _).mono ?_
              rintro e w' ⟨rfl, hb⟩
              replace E := Lib.hid (E.out.step hb)
              clear hb
              go_wp2_with fail
              go_ret
              exact ⟨rfl, E.out.bel⟩
    | true =>
      as_aux_lemma =>
      go_wp2_with fail
      refine (within_any c a cc ca C A _ E.out.hC E.out.hA okC okA (by omega) (by omega)).mono ?_
      rintro e w' ⟨rfl, hb⟩
      replace E := Lib.hid (E.out.step hb)
      clear hb
      cases hr : withinV C A with
      | false =>
        as_aux_lemma =>
        clear hr
        go_wp2_with fail
        refine (canon_any a ca A _ E.out.hA okA (by omega)).mono ?_
        rintro e w' ⟨x, cx, rfl, hown, hb⟩
        replace E := Lib.hid (E.out.step hb)
        have hX := Lib.hid (vec_of hown)
        clear hown hb
        go_wp2_with fail
        refine (canon_any b cb B _ E.out.hB okB (by omega)).mono ?_
        rintro e w' ⟨y, cy, rfl, hown, hb⟩
        replace E := Lib.hid (E.out.step hb)
        have hX' := Lib.hid (hX.out.below hb)
        have hY := Lib.hid (vec_of hown)
        clear hown hb hX
        go_wp2_with fail
        refine (same_any x y cx cy (canonV A) (canonV B) _ hX'.out hY.out (Nat.le_trans (vecOf_length _) (by omega)) (Nat.le_trans (vecOf_length _) (by omega))).mono ?_
        rintro e w' ⟨rfl, hb⟩
        rw [canon_same okA okB]
        replace E := Lib.hid (E.out.step hb)
        clear hb hX' hY
        cases hx : withinV A B with
        | false =>
          as_aux_lemma =>
          rw [Bool.false_and]
          go_wp2_with fail
          refine (within_any a b ca cb A B _ E.out.hA E.out.hB okA okB (by omega) (by omega)).mono ?_
          rintro e w' ⟨rfl, hb⟩
          replace E := Lib.hid (E.out.step hb)
          clear hb
          rw [hx]
          clear hx
          go_wp2_with fail
          refine (canon_any j cj (joinV A B) _ E.out.hJ okJ (by omega)).mono ?_
          rintro e w' ⟨x, cx, rfl, hown, hb⟩
          replace E := Lib.hid (E.out.step hb)
          have hX := Lib.hid (vec_of hown)
          clear hown hb
          go_wp2_with fail
          refine (same_any x j cx cj (canonV (joinV A B)) (joinV A B) _ hX.out E.out.hJ (Nat.le_trans (vecOf_length _) (by omega)) (by omega)).mono ?_
          rintro e w' ⟨rfl, hb⟩
          rw [show decide (canonV (joinV A B) = joinV A B) = true by simpa using canon_join okA okB]
          replace E := Lib.hid (E.out.step hb)
          clear hb hX
          go_wp2_with fail
          refine (known_any _).mono ?_
          rintro e w' ⟨rfl, hb⟩
          replace E := Lib.hid (E.out.step hb)
          clear hb
          go_wp2_with fail
          go_ret
          exact ⟨rfl, E.out.bel⟩
        | true =>
          rw [Bool.true_and]
          cases hy : withinV B A with
          | false =>
            as_aux_lemma =>
            go_wp2_with fail
            refine (within_any a b ca cb A B _ E.out.hA E.out.hB okA okB (by omega) (by omega)).mono ?_
            rintro e w' ⟨rfl, hb⟩
            replace E := Lib.hid (E.out.step hb)
            clear hb
            rw [hx]
            clear hx
            go_wp2_with fail
            refine (within_any b a cb ca B A _ E.out.hB E.out.hA okB okA (by omega) (by omega)).mono ?_
            rintro e w' ⟨rfl, hb⟩
            replace E := Lib.hid (E.out.step hb)
            clear hb
            rw [hy]
            clear hy
            go_wp2_with fail
            refine (canon_any j cj (joinV A B) _ E.out.hJ okJ (by omega)).mono ?_
            rintro e w' ⟨x, cx, rfl, hown, hb⟩
            replace E := Lib.hid (E.out.step hb)
            have hX := Lib.hid (vec_of hown)
            clear hown hb
            go_wp2_with fail
            refine (same_any x j cx cj (canonV (joinV A B)) (joinV A B) _ hX.out E.out.hJ (Nat.le_trans (vecOf_length _) (by omega)) (by omega)).mono ?_
            rintro e w' ⟨rfl, hb⟩
            rw [show decide (canonV (joinV A B) = joinV A B) = true by simpa using canon_join okA okB]
            replace E := Lib.hid (E.out.step hb)
            clear hb hX
            go_wp2_with fail
            refine (known_any _).mono ?_
            rintro e w' ⟨rfl, hb⟩
            replace E := Lib.hid (E.out.step hb)
            clear hb
            go_wp2_with fail
            go_ret
            exact ⟨rfl, E.out.bel⟩
          | true =>
            as_aux_lemma =>
            go_wp2_with fail
            refine (within_any a b ca cb A B _ E.out.hA E.out.hB okA okB (by omega) (by omega)).mono ?_
            rintro e w' ⟨rfl, hb⟩
            replace E := Lib.hid (E.out.step hb)
            clear hb
            rw [hx]
            clear hx
            go_wp2_with fail
            refine (within_any b a cb ca B A _ E.out.hB E.out.hA okB okA (by omega) (by omega)).mono ?_
            rintro e w' ⟨rfl, hb⟩
            replace E := Lib.hid (E.out.step hb)
            clear hb
            rw [hy]
            clear hy
            go_wp2_with fail
            refine (canon_any j cj (joinV A B) _ E.out.hJ okJ (by omega)).mono ?_
            rintro e w' ⟨x, cx, rfl, hown, hb⟩
            replace E := Lib.hid (E.out.step hb)
            have hX := Lib.hid (vec_of hown)
            clear hown hb
            go_wp2_with fail
            refine (same_any x j cx cj (canonV (joinV A B)) (joinV A B) _ hX.out E.out.hJ (Nat.le_trans (vecOf_length _) (by omega)) (by omega)).mono ?_
            rintro e w' ⟨rfl, hb⟩
            rw [show decide (canonV (joinV A B) = joinV A B) = true by simpa using canon_join okA okB]
            replace E := Lib.hid (E.out.step hb)
            clear hb hX
            go_wp2_with fail
            refine (known_any _).mono ?_
            rintro e w' ⟨rfl, hb⟩
            replace E := Lib.hid (E.out.step hb)
            clear hb
            go_wp2_with fail
            go_ret
            exact ⟨rfl, E.out.bel⟩
      | true =>
        as_aux_lemma =>
        go_wp2_with fail
        refine (within_any c b cc cb C B _ E.out.hC E.out.hB okC okB (by omega) (by omega)).mono ?_
        rintro e w' ⟨rfl, hb⟩
        replace E := Lib.hid (E.out.step hb)
        clear hb
        go_wp2_with fail
        refine (within_any c m cc cm C (meetV A B) _ E.out.hC E.out.hM okC okM (by omega) (by omega)).mono ?_
        rintro e w' ⟨rfl, hb⟩
        replace E := Lib.hid (E.out.step hb)
        clear hb
        rw [← meet_greatest okA okB okC hr]
        clear hr
        generalize withinV C B = q
        cases q with
        | false =>
          as_aux_lemma =>
          go_wp2_with fail
          refine (canon_any a ca A _ E.out.hA okA (by omega)).mono ?_
          rintro e w' ⟨x, cx, rfl, hown, hb⟩
          replace E := Lib.hid (E.out.step hb)
          have hX := Lib.hid (vec_of hown)
          clear hown hb
          go_wp2_with fail
          refine (canon_any b cb B _ E.out.hB okB (by omega)).mono ?_
          rintro e w' ⟨y, cy, rfl, hown, hb⟩
          replace E := Lib.hid (E.out.step hb)
          have hX' := Lib.hid (hX.out.below hb)
          have hY := Lib.hid (vec_of hown)
          clear hown hb hX
          go_wp2_with fail
          refine (same_any x y cx cy (canonV A) (canonV B) _ hX'.out hY.out (Nat.le_trans (vecOf_length _) (by omega)) (Nat.le_trans (vecOf_length _) (by omega))).mono ?_
          rintro e w' ⟨rfl, hb⟩
          rw [canon_same okA okB]
          replace E := Lib.hid (E.out.step hb)
          clear hb hX' hY
          cases hx : withinV A B with
          | false =>
            as_aux_lemma =>
            rw [Bool.false_and]
            go_wp2_with fail
            refine (within_any a b ca cb A B _ E.out.hA E.out.hB okA okB (by omega) (by omega)).mono ?_
            rintro e w' ⟨rfl, hb⟩
            replace E := Lib.hid (E.out.step hb)
            clear hb
            rw [hx]
            clear hx
            go_wp2_with fail
            refine (canon_any j cj (joinV A B) _ E.out.hJ okJ (by omega)).mono ?_
            rintro e w' ⟨x, cx, rfl, hown, hb⟩
            replace E := Lib.hid (E.out.step hb)
            have hX := Lib.hid (vec_of hown)
            clear hown hb
            go_wp2_with fail
            refine (same_any x j cx cj (canonV (joinV A B)) (joinV A B) _ hX.out E.out.hJ (Nat.le_trans (vecOf_length _) (by omega)) (by omega)).mono ?_
            rintro e w' ⟨rfl, hb⟩
            rw [show decide (canonV (joinV A B) = joinV A B) = true by simpa using canon_join okA okB]
            replace E := Lib.hid (E.out.step hb)
            clear hb hX
            go_wp2_with fail
            refine (known_any _).mono ?_
            rintro e w' ⟨rfl, hb⟩
            replace E := Lib.hid (E.out.step hb)
            clear hb
            go_wp2_with fail
            go_ret
            exact ⟨rfl, E.out.bel⟩
          | true =>
            rw [Bool.true_and]
            cases hy : withinV B A with
            | false =>
              as_aux_lemma =>
              go_wp2_with fail
              refine (within_any a b ca cb A B _ E.out.hA E.out.hB okA okB (by omega) (by omega)).mono ?_
              rintro e w' ⟨rfl, hb⟩
              replace E := Lib.hid (E.out.step hb)
              clear hb
              rw [hx]
              clear hx
              go_wp2_with fail
              refine (within_any b a cb ca B A _ E.out.hB E.out.hA okB okA (by omega) (by omega)).mono ?_
              rintro e w' ⟨rfl, hb⟩
              replace E := Lib.hid (E.out.step hb)
              clear hb
              rw [hy]
              clear hy
              go_wp2_with fail
              refine (canon_any j cj (joinV A B) _ E.out.hJ okJ (by omega)).mono ?_
              rintro e w' ⟨x, cx, rfl, hown, hb⟩
              replace E := Lib.hid (E.out.step hb)
              have hX := Lib.hid (vec_of hown)
              clear hown hb
              go_wp2_with fail
              refine (same_any x j cx cj (canonV (joinV A B)) (joinV A B) _ hX.out E.out.hJ (Nat.le_trans (vecOf_length _) (by omega)) (by omega)).mono ?_
              rintro e w' ⟨rfl, hb⟩
              rw [show decide (canonV (joinV A B) = joinV A B) = true by simpa using canon_join okA okB]
              replace E := Lib.hid (E.out.step hb)
              clear hb hX
              go_wp2_with fail
              refine (known_any _).mono ?_
              rintro e w' ⟨rfl, hb⟩
              replace E := Lib.hid (E.out.step hb)
              clear hb
              go_wp2_with fail
              go_ret
              exact ⟨rfl, E.out.bel⟩
            | true =>
              as_aux_lemma =>
              go_wp2_with fail
              refine (within_any a b ca cb A B _ E.out.hA E.out.hB okA okB (by omega) (by omega)).mono ?_
              rintro e w' ⟨rfl, hb⟩
              replace E := Lib.hid (E.out.step hb)
              clear hb
              rw [hx]
              clear hx
              go_wp2_with fail
              refine (within_any b a cb ca B A _ E.out.hB E.out.hA okB okA (by omega) (by omega)).mono ?_
              rintro e w' ⟨rfl, hb⟩
              replace E := Lib.hid (E.out.step hb)
              clear hb
              rw [hy]
              clear hy
              go_wp2_with fail
              refine (canon_any j cj (joinV A B) _ E.out.hJ okJ (by omega)).mono ?_
              rintro e w' ⟨x, cx, rfl, hown, hb⟩
              replace E := Lib.hid (E.out.step hb)
              have hX := Lib.hid (vec_of hown)
              clear hown hb
              go_wp2_with fail
              refine (same_any x j cx cj (canonV (joinV A B)) (joinV A B) _ hX.out E.out.hJ (Nat.le_trans (vecOf_length _) (by omega)) (by omega)).mono ?_
              rintro e w' ⟨rfl, hb⟩
              rw [show decide (canonV (joinV A B) = joinV A B) = true by simpa using canon_join okA okB]
              replace E := Lib.hid (E.out.step hb)
              clear hb hX
              go_wp2_with fail
              refine (known_any _).mono ?_
              rintro e w' ⟨rfl, hb⟩
              replace E := Lib.hid (E.out.step hb)
              clear hb
              go_wp2_with fail
              go_ret
              exact ⟨rfl, E.out.bel⟩
        | true =>
          as_aux_lemma =>
          go_wp2_with fail
          refine (canon_any a ca A _ E.out.hA okA (by omega)).mono ?_
          rintro e w' ⟨x, cx, rfl, hown, hb⟩
          replace E := Lib.hid (E.out.step hb)
          have hX := Lib.hid (vec_of hown)
          clear hown hb
          go_wp2_with fail
          refine (canon_any b cb B _ E.out.hB okB (by omega)).mono ?_
          rintro e w' ⟨y, cy, rfl, hown, hb⟩
          replace E := Lib.hid (E.out.step hb)
          have hX' := Lib.hid (hX.out.below hb)
          have hY := Lib.hid (vec_of hown)
          clear hown hb hX
          go_wp2_with fail
          refine (same_any x y cx cy (canonV A) (canonV B) _ hX'.out hY.out (Nat.le_trans (vecOf_length _) (by omega)) (Nat.le_trans (vecOf_length _) (by omega))).mono ?_
          rintro e w' ⟨rfl, hb⟩
          rw [canon_same okA okB]
          replace E := Lib.hid (E.out.step hb)
          clear hb hX' hY
          cases hx : withinV A B with
          | false =>
            as_aux_lemma =>
            rw [Bool.false_and]
            go_wp2_with fail
            refine (within_any a b ca cb A B _ E.out.hA E.out.hB okA okB (by omega) (by omega)).mono ?_
            rintro e w' ⟨rfl, hb⟩
            replace E := Lib.hid (E.out.step hb)
            clear hb
            rw [hx]
            clear hx
            go_wp2_with fail
            refine (canon_any j cj (joinV A B) _ E.out.hJ okJ (by omega)).mono ?_
            rintro e w' ⟨x, cx, rfl, hown, hb⟩
            replace E := Lib.hid (E.out.step hb)
            have hX := Lib.hid (vec_of hown)
            clear hown hb
            go_wp2_with fail
            refine (same_any x j cx cj (canonV (joinV A B)) (joinV A B) _ hX.out E.out.hJ (Nat.le_trans (vecOf_length _) (by omega)) (by omega)).mono ?_
            rintro e w' ⟨rfl, hb⟩
            rw [show decide (canonV (joinV A B) = joinV A B) = true by simpa using canon_join okA okB]
            replace E := Lib.hid (E.out.step hb)
            clear hb hX
            go_wp2_with fail
            refine (known_any _).mono ?_
            rintro e w' ⟨rfl, hb⟩
            replace E := Lib.hid (E.out.step hb)
            clear hb
            go_wp2_with fail
            go_ret
            exact ⟨rfl, E.out.bel⟩
          | true =>
            rw [Bool.true_and]
            cases hy : withinV B A with
            | false =>
              as_aux_lemma =>
              go_wp2_with fail
              refine (within_any a b ca cb A B _ E.out.hA E.out.hB okA okB (by omega) (by omega)).mono ?_
              rintro e w' ⟨rfl, hb⟩
              replace E := Lib.hid (E.out.step hb)
              clear hb
              rw [hx]
              clear hx
              go_wp2_with fail
              refine (within_any b a cb ca B A _ E.out.hB E.out.hA okB okA (by omega) (by omega)).mono ?_
              rintro e w' ⟨rfl, hb⟩
              replace E := Lib.hid (E.out.step hb)
              clear hb
              rw [hy]
              clear hy
              go_wp2_with fail
              refine (canon_any j cj (joinV A B) _ E.out.hJ okJ (by omega)).mono ?_
              rintro e w' ⟨x, cx, rfl, hown, hb⟩
              replace E := Lib.hid (E.out.step hb)
              have hX := Lib.hid (vec_of hown)
              clear hown hb
              go_wp2_with fail
              refine (same_any x j cx cj (canonV (joinV A B)) (joinV A B) _ hX.out E.out.hJ (Nat.le_trans (vecOf_length _) (by omega)) (by omega)).mono ?_
              rintro e w' ⟨rfl, hb⟩
              rw [show decide (canonV (joinV A B) = joinV A B) = true by simpa using canon_join okA okB]
              replace E := Lib.hid (E.out.step hb)
              clear hb hX
              go_wp2_with fail
              refine (known_any _).mono ?_
              rintro e w' ⟨rfl, hb⟩
              replace E := Lib.hid (E.out.step hb)
              clear hb
              go_wp2_with fail
              go_ret
              exact ⟨rfl, E.out.bel⟩
            | true =>
              as_aux_lemma =>
              go_wp2_with fail
              refine (within_any a b ca cb A B _ E.out.hA E.out.hB okA okB (by omega) (by omega)).mono ?_
              rintro e w' ⟨rfl, hb⟩
              replace E := Lib.hid (E.out.step hb)
              clear hb
              rw [hx]
              clear hx
              go_wp2_with fail
              refine (within_any b a cb ca B A _ E.out.hB E.out.hA okB okA (by omega) (by omega)).mono ?_
              rintro e w' ⟨rfl, hb⟩
              replace E := Lib.hid (E.out.step hb)
              clear hb
              rw [hy]
              clear hy
              go_wp2_with fail
              refine (canon_any j cj (joinV A B) _ E.out.hJ okJ (by omega)).mono ?_
              rintro e w' ⟨x, cx, rfl, hown, hb⟩
              replace E := Lib.hid (E.out.step hb)
              have hX := Lib.hid (vec_of hown)
              clear hown hb
              go_wp2_with fail
              refine (same_any x j cx cj (canonV (joinV A B)) (joinV A B) _ hX.out E.out.hJ (Nat.le_trans (vecOf_length _) (by omega)) (by omega)).mono ?_
              rintro e w' ⟨rfl, hb⟩
              rw [show decide (canonV (joinV A B) = joinV A B) = true by simpa using canon_join okA okB]
              replace E := Lib.hid (E.out.step hb)
              clear hb hX
              go_wp2_with fail
              refine (known_any _).mono ?_
              rintro e w' ⟨rfl, hb⟩
              replace E := Lib.hid (E.out.step hb)
              clear hb
              go_wp2_with fail
              go_ret
              exact ⟨rfl, E.out.bel⟩
end Go.Proofs.Ytblahapjdgncfaa
