/- The law for regions that draw their order, once more: a slice's length is no reading. | Bytes of one's own that are put behind: code.Num, Int, Text; op.putDot; commit.put: the contracts. | op.putDot, commit.put: the contracts. (printed by wip/tools/genbytb.py) | op.Put: the contract. (printed by wip/tools/genbytc.py) | commit.Put of no bytes, commit.Bytes: the contracts. (printed by wip/tools/genbytd.py) -/
import Derived.Test.YtaandcblndldmaaGreatBase
import Derived.Test.YtaandcblndldmaaGreatGraC
import Derived.Lib.AppendStr
import Derived.Laws.Closers25b
import Derived.Test.YtaandcblndldmaaGreatGraA
/- RegL -/
namespace Go.Proofs.YtaandcblndldmaaGreat.LenR
open Go.Proofs.YtaandcblndldmaaGreat Go.RowKit
set_option linter.unusedVariables false
set_option linter.unusedSimpArgs false

/-- what is read lies in B; calls aside -/
def readsN (B : Nat → Prop) (ρ : Operand → Value) (o : Oper) : Prop :=
  match o.op with
  | .call _ => True
  | _ => readsIn B ρ o
def reads (B : Nat → Prop) (ops : Array Oper) (a : Act) : Prop := ∀ o ∈ ops.toList, readsN B a.eval o
/-- no length of a map is asked -/
def noLen (P : Program) (ops : Array Oper) : Bool := ops.toList.all fun o => match o.op with
  | .call _ => opKind P o != 1
  | _ => true
theorem readsN_of {P : Program} {B : Nat → Prop} {ρ : Operand → Value} {ops : Array Oper} {o : Oper} (hl : noLen P ops = true) (ho : o ∈ ops.toList) (h : readsN B ρ o) : opKind P o = 1 → readsIn B ρ o := fun hk => by
  unfold noLen at hl
  rw [List.all_eq_true] at hl
  have h1 := hl o ho
  unfold readsN at h
  cases hop : o.op <;> rw [hop] at h h1 <;> first | exact h | (rw [hk] at h1; cases h1)
def readsL (B : Nat → Prop) (ρ : Operand → Value) : List Oper → Prop
  | [] => True
  | o :: l => readsN B ρ o ∧ readsL B ρ l
theorem reads_of {B : Nat → Prop} {ops : Array Oper} {a : Act} (h : readsL B a.eval ops.toList) : reads B ops a := by
  unfold reads
  generalize ops.toList = l at *
  induction l with
  | nil => intro o ho; simp at ho
  | cons x l ih =>
    intro o ho
    rcases List.mem_cons.1 ho with rfl | ho
    · exact h.1
    · exact ih h.2 o ho
section
variable {P : Program} {ops : Array Oper} {Q : Exit → Act → World → Prop} {md : Region.Mode} {B : Nat → Prop} {X : Nat → Bool}
theorem wpAnyB_of_can (hlen : noLen P ops = true) (hs : Region.noSelect ops = true) (F : Nat) (Xo : Nat → Bool) (hXo : ∀ i o, ops[i]? = some o → X i = true → 2 < opKind P o → Xo i = true) :
    ∀ (n : Nat) (l : Tr) (listed : Array Bool) (a : Act) (w : World), okOrd P md ops F X n l listed = true → Down md ops listed →
      wpCan P ops (Tame fun e a w => (fin ops a = true ∧ reads B ops a) ∧ Q e a w) B Xo l a w → wpAnyB P md ops (Tame fun e a w => (fin ops a = true ∧ reads B ops a) ∧ Q e a w) B X n listed a w
  | 0, .nil, listed, a, w, hok, hd, h => by
    simp only [okOrd, List.isEmpty_iff] at hok
    exact ⟨hok, h⟩
  | 0, .cons _ _, listed, a, w, hok, hd, h => by simp [okOrd] at hok
  | 0, .fork _ _, listed, a, w, hok, hd, h => by simp [okOrd] at hok
  | n + 1, .nil, listed, a, w, hok, hd, h => by simp [okOrd] at hok
  | n + 1, .fork .nil _, listed, a, w, hok, hd, h => by simp [okOrd] at hok
  | n + 1, .fork (.fork _ _) _, listed, a, w, hok, hd, h => by simp [okOrd] at hok
  | n + 1, .fork (.cons _ _) .nil, listed, a, w, hok, hd, h => by simp [okOrd] at hok
  | n + 1, .fork (.cons _ _) (.fork _ _), listed, a, w, hok, hd, h => by simp [okOrd] at hok
  | n + 1, .fork (.cons i s) (.cons j t), listed, a, w, hok, hd, h => by
    simp only [okOrd, Bool.and_eq_true, beq_iff_eq, decide_eq_true_eq] at hok
    obtain ⟨⟨⟨⟨hr, hki⟩, hkj⟩, hok1⟩, hok2⟩ := hok
    have hi' : i ∈ Region.ready md ops listed := by rw [hr]; simp
    have hj' : j ∈ Region.ready md ops listed := by rw [hr]; simp
    refine ⟨fun h0 => (by rw [hr] at h0; cases h0), fun k hk => ?_⟩
    rw [hr] at hk
    simp only [List.mem_cons, List.not_mem_nil, or_false] at hk
    rcases hk with rfl | rfl
    · obtain ⟨_, o, ho, _⟩ := mem_ready.1 hi'
      simp only [kindAt, ho] at hki
      exact can_effect hXo ho (by omega) (fun a' w' hc => wpAnyB_of_can hlen hs F Xo hXo n s _ _ _ hok1 (hd.set hi') hc) h.1
    · obtain ⟨_, o, ho, _⟩ := mem_ready.1 hj'
      simp only [kindAt, ho] at hkj
      exact can_effect hXo ho (by omega) (fun a' w' hc => wpAnyB_of_can hlen hs F Xo hXo n t _ _ _ hok2 (hd.set hj') hc) h.2
  | n + 1, .cons i rest, listed, a, w, hok, hd, h => by
    simp only [okOrd, Bool.and_eq_true] at hok
    obtain ⟨hok1, hok2⟩ := hok
    cases ho : ops[i]? with
    | none => simp [ho] at hok1
    | some o =>
      simp only [ho] at hok1
      split at hok1
      · rename_i hk
        simp only [Bool.and_eq_true, Bool.or_eq_true] at hok1
        obtain ⟨⟨⟨hr, hfree⟩, hX⟩, hsens⟩ := hok1
        have hr' : i ∈ Region.ready md ops listed := by simpa using hr
        obtain ⟨af, wf, ⟨⟨hfin, hrds⟩, _⟩, hkeep⟩ := wpCan_get (.cons i rest) a w h
        have hsame : ∀ x ∈ sens o, af.eval x = a.eval x := by
          intro x hx
          rw [List.all_eq_true] at hsens
          have := hsens x hx
          cases x with
          | tmp t =>
            simp only [List.all_eq_true] at this
            exact hkeep t fun j hj => by simpa using this j hj
          | const v => rfl
          | global g => rfl
          | func f => rfl
        have hofin : okFin a.eval o = true := by
          have h1 : okFin af.eval o = true := by
            unfold fin at hfin
            rw [List.all_eq_true] at hfin
            exact hfin o (by rw [Array.mem_toList_iff]; exact Array.mem_of_getElem? ho)
          rw [← okFin_congr (ρ := af.eval) (ρ' := a.eval) o hsame]
          exact h1
        have hord : opKind P o = 1 → readsIn B a.eval o := fun hk1 => by
          rw [← readsIn_congr (ρ := af.eval) (ρ' := a.eval) o hsame]
          exact readsN_of hlen (by rw [Array.mem_toList_iff]; exact Array.mem_of_getElem? ho) (hrds o (by rw [Array.mem_toList_iff]; exact Array.mem_of_getElem? ho)) hk1
        obtain ⟨s, hs1, hcalm⟩ := calm_op (P := P) o a.eval B hk hofin hord
        have hfirst : ∀ v, YieldsIf P ops (fun w2 => (opKind P o == 1) = true → Held B w w2) o v a →
            wpCan P ops (Tame fun e a w => (fin ops a = true ∧ reads B ops a) ∧ Q e a w) B Xo rest (a.put o.dst v) w →
            wpAnyB P md ops (Tame fun e a w => (fin ops a = true ∧ reads B ops a) ∧ Q e a w) B X (n + 1) listed a w := by
          intro v hy hc
          refine wpAnyB_first (F := F) ho (Region.noSelect_spec hs) (fun c a w h => h) n listed a w hd (Region.free_spec ho hfree) ?_ hr' hy
            (wpAnyB_of_can hlen hs F Xo hXo n rest _ _ _ hok2 (hd.set hr') hc)
          intro hrd j hun hji
          rcases hX with hX | hX
          · exfalso; simp at hrd hX; omega
          · rw [List.all_eq_true] at hX
            have hlt : j < listed.size := by
              rcases Nat.lt_or_ge j listed.size with h' | h'
              · exact h'
              · simp [Array.getElem?_eq_none h'] at hun
            have := hX j (List.mem_range.2 hlt)
            simp only [hun, Bool.or_eq_true, beq_iff_eq, hji] at this
            simpa using this
        unfold wpCan wpOp at h
        simp only [ho] at h
        split at h
        · rename_i hwant
          rcases h with h | ⟨_, h⟩
          case inr => exact (Tame.lets h).elim
          unfold Oper.wp at h
          rw [hs1] at h
          simp only [Sem.run_bind, Sem.run_pure] at h
          cases hrun : s.run P w with
          | ok v w' =>
            obtain ⟨rfl, hst⟩ := hcalm.stable w v w' hrun
            rw [hrun] at h
            simp only [Result.andThen_ok, Oper.upon] at h
            refine hfirst v (.inl ⟨hwant, fun w2 ha => ?_⟩) h.2
            have hh : Held (fun k => opKind P o = 1 ∧ B k) w' w2 := by
              by_cases hk1 : opKind P o = 1
              · exact (ha (by simp [hk1])).mono fun k h => h.2
              · exact .inr fun k o hm => absurd hm.1 hk1
            rw [hs1, Sem.run_bind, hst w2 hh]
            rfl
          | halt x w' =>
            rw [hrun] at h
            simp only [Result.andThen] at h
            cases x <;> simp only [Oper.upon] at h <;> exact h.elim
        · rename_i hwant
          exact hfirst undef (.inr ⟨by simpa using hwant, rfl⟩) h.2
      · rename_i hk
        have hr : Region.ready md ops listed = [i] := by simpa using hok1
        have hr' : i ∈ Region.ready md ops listed := by rw [hr]; simp
        refine ⟨fun h0 => (by rw [hr] at h0; cases h0), fun j hj => ?_⟩
        rw [hr] at hj
        obtain rfl : j = i := by simpa using hj
        exact can_effect hXo ho hk (fun a' w' hc => wpAnyB_of_can hlen hs F Xo hXo n rest _ _ _ hok2 (hd.set hr') hc) h
end
section
variable {P : Program} {ops : Array Oper} {Q : Exit → Act → World → Prop} {B : Nat → Prop}
def wpSgB (P : Program) (ops : Array Oper) (Q : Exit → Act → World → Prop) (B : Nat → Prop) : Sg → Act → World → Prop
  | .done, a, w => (fin ops a = true ∧ reads B ops a) ∧ Q .normal a w
  | .seg l true r, a, w => wpList P ops (Exit.then (fun a' w' => Held B w w' ∧ wpSgB P ops Q B r a' w') shut) (l.map fun i => ops.toList.getD i default) a w
  | .seg l false r, a, w => wpList P ops (Exit.then (wpSgB P ops Q B r) shut) (l.map fun i => ops.toList.getD i default) a w
  | .fork s t, a, w => wpSgB P ops Q B s a w ∧ wpSgB P ops Q B t a w
theorem can_of_list {Xo : Nat → Bool} {K : Act → World → Prop} {more : Tr} (hK : ∀ a w, K a w → wpCan P ops (Tame fun e a w => (fin ops a = true ∧ reads B ops a) ∧ Q e a w) B Xo more a w) :
    ∀ (l : List Nat) (a : Act) (w : World), (l.all fun i => !Xo i && decide (i < ops.size)) = true → wpList P ops (Exit.then K shut) (l.map fun i => ops.toList.getD i default) a w →
      wpCan P ops (Tame fun e a w => (fin ops a = true ∧ reads B ops a) ∧ Q e a w) B Xo (addTr l more) a w
  | [], a, w, _, h => hK a w h
  | i :: l, a, w, hx, h => by
    simp only [List.all_cons, Bool.and_eq_true, decide_eq_true_eq] at hx
    have ho : ops[i]? = some ops[i] := Array.getElem?_eq_getElem hx.1.2
    rw [List.map_cons, show ops.toList.getD i default = ops[i] from by simp [List.getD_eq_getElem?_getD, hx.1.2]] at h
    simp only [addTr, wpCan]
    have h1 := wpList_cons_op ho h
    have h2 := wpOp_monoQ (Q2 := Tame fun e a w => (fin ops a = true ∧ reads B ops a) ∧ Q e a w) (fun e a w hne hh => by cases e <;> first | exact absurd rfl hne | exact hh) h1
    refine wpOp_mono (fun a' w' h3 => ⟨fun hxi => ?_, can_of_list hK l a' w' (by simpa using hx.2) h3⟩) h2
    rw [hxi] at hx; simp at hx

theorem can_of_sg {Xo : Nat → Bool} : ∀ (s : Sg) (a : Act) (w : World), sgOk Xo ops.size s = true → wpSgB P ops Q B s a w →
    wpCan P ops (Tame fun e a w => (fin ops a = true ∧ reads B ops a) ∧ Q e a w) B Xo s.tr a w
  | .done, a, w, _, h => h
  | .fork s t, a, w, hs, h => by
    simp only [sgOk, Bool.and_eq_true] at hs
    exact ⟨can_of_sg s a w hs.1 h.1, can_of_sg t a w hs.2 h.2⟩
  | .seg l false r, a, w, hs, h => by
    simp only [sgOk, Bool.and_eq_true] at hs
    exact can_of_list (fun a w hk => can_of_sg r a w hs.2 hk) l a w hs.1 h
  | .seg l true r, a, w, hs, h => by
    simp only [sgOk, Bool.and_eq_true, beq_iff_eq] at hs
    obtain ⟨⟨h1, h2⟩, h3⟩ := hs
    match l, h1, h2, h with
    | [i], _, hi, h =>
      simp only [List.all_cons, List.all_nil, Bool.and_true, decide_eq_true_eq] at hi
      have ho : ops[i]? = some ops[i] := Array.getElem?_eq_getElem hi
      simp only [wpSgB] at h
      rw [List.map_cons, List.map_nil, show ops.toList.getD i default = ops[i] from by simp [List.getD_eq_getElem?_getD, hi]] at h
      have h1 := wpList_cons_op ho h
      have h2 := wpOp_monoQ (Q2 := Tame fun e a w => (fin ops a = true ∧ reads B ops a) ∧ Q e a w) (fun e a w hne hh => by cases e <;> first | exact absurd rfl hne | exact hh) h1
      simp only [Sg.tr, addTr, wpCan]
      exact wpOp_mono (fun a' w' h4 => ⟨fun _ => h4.1, can_of_sg r a' w' h3 h4.2⟩) h2

theorem region_tree_at (B : Nat → Prop) (s : Sg) {id : Nat} {a : Act} {w : World} (hm : P.follows .mixedOrders = true) (hok : okRegion P ops s = true) (hlen : noLen P ops = true)
    (h : wpSgB P ops Q B s a w.drew) : (Code.region id ops true).wp P Q a w := by
  unfold okRegion at hok
  simp only [Bool.and_eq_true, beq_iff_eq] at hok
  obtain ⟨⟨⟨h1, h2⟩, h3⟩, h4⟩ := hok
  refine Code.wp_mono Tame.imp ?_
  refine Code.wp_mono (Q := Tame fun e a w => (fin ops a = true ∧ reads B ops a) ∧ Q e a w) (fun e a w hh => by cases e <;> first | exact hh.2 | exact (hh : False).elim) ?_
  refine wp_region_any hm ?_
  refine wpAny_of_B (B := B) _ _ _ _ (wpAnyB_of_can hlen h1 ops.size _ ?_ _ _ _ _ _ h3 ?_ (can_of_sg s a _ h4 h))
  · intro i o ho hx hk
    simp only [ho, Bool.and_eq_true, decide_eq_true_eq]
    exact ⟨hx, hk⟩
  · intro j o ho hj
    exfalso
    rcases Nat.lt_or_ge j ops.size with h' | h' <;> simp [h'] at hj
end
end Go.Proofs.YtaandcblndldmaaGreat.LenR

/- BytA -/
namespace Go.Proofs.YtaandcblndldmaaGreat
open Go.RowKit
set_option linter.unusedVariables false
set_option linter.unusedSimpArgs false

/-- bytes in a row of one's own -/
def Yb (w : World) (base : Nat) (a : Option Addr) (c : Nat) (X : List UInt8) : Prop := w.ownsRow base 5 1 (.slice a X.length c) X.length (u8s X)
theorem Yb.nil (w : World) (base : Nat) : Yb w base none 0 [] := World.ownsRow_nil _ _ _ _
/-- what is no row of bytes stays -/
def KeepB (w w' : World) : Prop := ∀ (k : Nat) (C : Array Value) (t : TypeId) (f : Nat × Nat), t ≠ 5 → w.heap[k]? = some (.cells C t f) → w'.heap[k]? = some (.cells C t f)
theorem KeepB.refl (w : World) : KeepB w w := fun _ _ _ _ _ h => h
theorem KeepB.trans {a b c : World} (h : KeepB a b) (k : KeepB b c) : KeepB a c := fun i C t f ht hi => k i C t f ht (h i C t f ht hi)
theorem KeepB.of_below {w w' : World} (h : Below w.heap.size w w') : KeepB w w' := fun k C t f _ hk => (h.block k (heap_lt hk)).trans hk
theorem KeepB.of_chg {w w' : World} {base : Nat} {a : Option Addr} {c : Nat} {X : List UInt8} (h : Chg (ob a) w w') (ho : Yb w base a c X) : KeepB w w' := fun k C t f ht hk => by
  refine heap_chg hk h (fun hm => ?_)
  obtain ⟨C', f', hh⟩ := ob_row ho k hm
  rw [hk] at hh
  injection hh with hh
  injection hh with _ hh _
  exact ht hh
theorem Yb.chg_below {w w' : World} {base : Nat} {a : Option Addr} {c : Nat} {X : List UInt8} (ho : Yb w base a c X) (h : Chg (ob a) w w') (hb : base ≤ w.heap.size) : Below base w w' := h.below hb (fun k hk => (owns_lt ho k hk).1)
theorem Yb.below {w w' : World} {base : Nat} {a : Option Addr} {c : Nat} {X : List UInt8} (h : Yb w base a c X) (hb : Below w.heap.size w w') : Yb w' base a c X := owns_chg (F := []) h (Chg.of_below hb) (by simp)
/-- a call tells bytes: those that there were, and more behind them -/
def PutY (w : World) (base : Nat) (r : List UInt8) (e : Ending) (w' : World) : Prop :=
  ∃ (X : List UInt8) (a' : Option Addr) (c' : Nat), X = r ∧ e = .returned (.slice a' X.length c') ∧ Yb w' base a' c' X ∧ Below base w w' ∧ KeepB w w'
theorem numY_any (a : Option Addr) (c base : Nat) (X : List UInt8) (n : Nat) (w : World) (h : Yb w base a c X) (hb : base ≤ w.heap.size) (hl : X.length ≤ 100000000) (hn : n < 18446744073709551616) :
    Calls Tryz.prog 165 #[.slice a X.length c, .int .u64 n] w (PutY w base (X ++ numB n)) := by
  refine (num_any a X.length c base X n w h hb (by omega) hn).mono ?_
  rintro e w' ⟨a', c', rfl, ho, hc, _⟩
  have hl : X.length + (numB n).length = (X ++ numB n).length := by simp
  rw [hl] at ho
  exact ⟨X ++ numB n, a', c', rfl, by rw [← hl], ho, h.chg_below hc hb, KeepB.of_chg hc h⟩
/-- what an integer is laid as -/
def intZ (n : Int) : Int := bits BinOp.xor IntKind.u64 (IntKind.u64.wrap (IntKind.u64.wrap n * 2)) (IntKind.u64.wrap (n / 9223372036854775808))
def intG (n : Int) : List UInt8 := numB (intZ n).toNat
theorem intZ_nat (n : Int) : ∃ m : Nat, intZ n = (m : Int) ∧ m < 18446744073709551616 := by
  have h1 := Go.bits_lo_u64 BinOp.xor (IntKind.u64.wrap (IntKind.u64.wrap n * 2)) (IntKind.u64.wrap (n / 9223372036854775808))
  have h2 := Go.bits_hi_u64 BinOp.xor (IntKind.u64.wrap (IntKind.u64.wrap n * 2)) (IntKind.u64.wrap (n / 9223372036854775808))
  refine ⟨(intZ n).toNat, ?_, ?_⟩ <;> unfold intZ <;> omega
set_option maxHeartbeats 1000000 in
theorem intY_any (a : Option Addr) (c base : Nat) (X : List UInt8) (n : Int) (w : World) (h : Yb w base a c X) (hb : base ≤ w.heap.size) (hl : X.length ≤ 100000000) :
    Calls Tryz.prog 210 #[.slice a X.length c, .int .i64 n] w (PutY w base (X ++ intG n)) := by
  have H := Lib.hid h
  clear h
  go_enter Tryz.func210, Tryz.ntmps210
  go_wp2_with fail
  obtain ⟨m, hm, hm2⟩ := intZ_nat n
  have e : intG n = numB m := by unfold intG; rw [hm]; rfl
  have hm' : bits BinOp.xor IntKind.u64 (IntKind.u64.wrap (IntKind.u64.wrap n * 2)) (IntKind.u64.wrap (n / 9223372036854775808)) = (m : Int) := hm
  rw [hm']
  have E := Lib.hid e
  clear e hm hm'
  refine (numY_any a c base X m w H.out hb hl hm2).mono ?_
  rintro e w1 ⟨Y, a1, c1, hY, rfl, hy, hb1, hk1⟩
  have HY : Hid (Y = X ++ intG n) := Lib.hid (by rw [hY, E.out])
  have Hy := Lib.hid hy
  have HB := Lib.hid hb1
  have HK := Lib.hid hk1
  clear hY hy hb1 hk1
  go_wp2_with fail
  go_ret
  exact ⟨Y, a1, c1, HY.out, rfl, Hy.out, HB.out, HK.out⟩
theorem strCells_u8 (s : ByteArray) (X : List UInt8) : u8s X ++ Go.Lib.strCells s = u8s (X ++ s.data.toList) := by simp [u8s, Go.Lib.strCells]
theorem wpList_appTxt {w : World} {ops : Array Oper} {rest : List Oper} {o : Oper} {a : Act} {Q : Exit → Act → World → Prop} (hgd : o.guard = none) (sl x : Operand)
    (ho : o.op = .call { callee := .builtin .append, args := #[sl, x], argTypes := #[100, 9] }) (base : Nat) (va : Option Addr) (vc : Nat) (X : List UInt8) (hs : a.eval sl = .slice va X.length vc) (hown : Yb w base va vc X)
    (s : ByteArray) (hx : a.eval x = .string s) (hX : X.length ≤ 100000000) (hS : s.size ≤ 100000000) (hbase : base ≤ w.heap.size)
    (h : ∀ (Y : List UInt8) (a' : Option Addr) (c' : Nat) (w' : World), Y = X ++ s.data.toList → Yb w' base a' c' Y → Below base w w' → KeepB w w' → wpList Tryz.prog ops Q rest (a.put o.dst (.slice a' Y.length c')) w') : wpList Tryz.prog ops Q (o :: rest) a w := by
  obtain ⟨i0, hi0, hz0, hz1, hz2⟩ := info_parts Tryz.info_u8
  refine Go.Lib.wpList_append_own_string w hgd sl x 100 9 ho base 5 i0 Tryz.underlying100 Tryz.underlying9 hi0 hz0 hz1 hz2 _ X.length (u8s X) hs hown s hx (by unfold maxLen; omega) (by omega) hbase fun v' w' h1 h2 _ => ?_
  obtain ⟨a', c', rfl⟩ := owns_slice h1
  have hc : Chg (ob va) w w' := (Chg.grown h2).mono (fun y hy _ => by rw [ownBlock_eq] at hy; cases va <;> simp [ob] at hy ⊢; exact hy)
  have hl : X.length + s.size = (X ++ s.data.toList).length := by rw [List.length_append, Array.length_toList]; rfl
  rw [strCells_u8, hl] at h1
  rw [hl]
  exact h _ a' c' w' rfl h1 (hown.chg_below hc hbase) (KeepB.of_chg hc hown)
set_option maxHeartbeats 1000000 in
theorem textY_any (a : Option Addr) (c base : Nat) (X : List UInt8) (s : ByteArray) (w : World) (h : Yb w base a c X) (hb : base ≤ w.heap.size) (hl : X.length ≤ 50000000) (hs : s.size ≤ 1100000) :
    Calls Tryz.prog 209 #[.slice a X.length c, .string s] w (PutY w base (X ++ textB s)) := by
  have H := Lib.hid h
  clear h
  go_enter Tryz.func209, Tryz.ntmps209
  go_wp2_with fail
  refine (numY_any a c base X s.size w H.out hb (by omega) (by omega)).mono ?_
  rintro e w1 ⟨Y, a1, c1, hY, rfl, hy, hb1, hk1⟩
  have hYl : Y.length ≤ 100000000 := by
    rw [hY, List.length_append]
    have := numB_len s.size (by omega)
    omega
  have HY := Lib.hid hY
  have Hy := Lib.hid hy
  have HB := Lib.hid hb1
  have HK := Lib.hid hk1
  have hb2 : base ≤ w1.heap.size := by have := hb1.size; omega
  clear hY hy hb1 hk1
  go_wp2_with (at_builtin; go_must (refine wpList_appTxt rfl _ _ rfl base a1 c1 Y rfl Hy.out s rfl hYl (by omega) hb2 ?_))
  intro Z a2 c2 w2 hZ hz hb3 hk3
  have HZ : Hid (Z = X ++ textB s) := Lib.hid (by rw [hZ, HY.out, List.append_assoc]; rfl)
  have Hz := Lib.hid hz
  have HB2 := Lib.hid (HB.out.trans hb3)
  have HK2 := Lib.hid (HK.out.trans hk3)
  clear hZ hz hb3 hk3
  go_wp2_with fail
  go_ret
  exact ⟨Z, a2, c2, HZ.out, rfl, Hz.out, HB2.out, HK2.out⟩
end Go.Proofs.YtaandcblndldmaaGreat

/- BytB -/
namespace Go.Proofs.YtaandcblndldmaaGreat
open Go.RowKit
set_option linter.unusedVariables false
set_option linter.unusedSimpArgs false

theorem held_keep {w w' : World} {q : Nat} {C : Array Value} {t : TypeId} {fr : Nat × Nat} (h : w.heap[q]? = some (.cells C t fr)) (ht : t ≠ 5) (k : KeepB w w') : Held (fun k => k = q) w w' := by
  refine .inr fun j o hj ho => ?_
  have hj' : j = q := hj
  subst hj'
  rw [h] at ho
  have ho' := Option.some.inj ho
  subst ho'
  exact ⟨fun _ _ hh => (by cases hh), k _ _ _ _ ht h⟩
theorem dot_ne : 49 ≠ 5 := by decide
/-- bytes, and a box beside them, since a world -/
structure YE (w wr : World) (base : Nat) (a : Option Addr) (c : Nat) (X : List UInt8) : Prop where
  own : Yb wr base a c X
  bel : Below base w wr
  keep : KeepB w wr
theorem YE.start {w : World} {base : Nat} {a : Option Addr} {c : Nat} {X : List UInt8} (h : Yb w base a c X) : YE w w base a c X := ⟨h, Below.refl _ _, KeepB.refl _⟩
theorem YE.below {w wr w' : World} {base : Nat} {a : Option Addr} {c : Nat} {X : List UInt8} (h : YE w wr base a c X) (hb : base ≤ w.heap.size) (k : Below wr.heap.size wr w') : YE w w' base a c X :=
  ⟨h.own.below k, h.bel.trans (k.mono (by have := h.bel.size; omega)), h.keep.trans (KeepB.of_below k)⟩
theorem YE.step {w wr w' : World} {base : Nat} {a : Option Addr} {c : Nat} {X r : List UInt8} {e : Ending} (h : YE w wr base a c X) (k : PutY wr base r e w') : ∃ (Y : List UInt8) (a' : Option Addr) (c' : Nat), Y = r ∧ e = .returned (.slice a' Y.length c') ∧ YE w w' base a' c' Y ∧ KeepB wr w' := by
  obtain ⟨Y, a', c', hY, rfl, h1, h2, h3⟩ := k
  exact ⟨Y, a', c', hY, rfl, ⟨h1, h.bel.trans h2, h.keep.trans h3⟩, h3⟩
theorem YE.put {w wr : World} {base : Nat} {a : Option Addr} {c : Nat} {X r : List UInt8} (h : YE w wr base a c X) (e : X = r) : PutY w base r (.returned (.slice a X.length c)) wr := ⟨X, a, c, e, rfl, h.own, h.bel, h.keep⟩
theorem numB_l (n : Nat) (h : n < 18446744073709551616) : (numB n).length ≤ 10 := numB_len n h
set_option maxRecDepth 100000 in
set_option maxHeartbeats 1000000 in
theorem putDotY_any (a : Option Addr) (c base : Nat) (X : List UInt8) (d : Dt) (w : World) (h : Yb w base a c X) (hb : base ≤ w.heap.size) (hl : X.length ≤ 50000000) (hok : okD d) :
    Calls Tryz.prog 211 #[.slice a X.length c, .agg #[.int .u8 d.1.1, .int .u32 d.1.2, .int .u64 d.2]] w (PutY w base (X ++ dotB d)) := by
  obtain ⟨⟨r, i⟩, s⟩ := d
  obtain ⟨⟨⟨r1, r2⟩, i1, i2⟩, s1, s2⟩ := hok
  dsimp only at r1 r2 i1 i2 s1 s2
  obtain ⟨rn, rfl⟩ : ∃ rn : Nat, r = (rn : Int) := ⟨r.toNat, by omega⟩
  obtain ⟨iN, rfl⟩ : ∃ iN : Nat, i = (iN : Int) := ⟨i.toNat, by omega⟩
  obtain ⟨sn, rfl⟩ : ∃ sn : Nat, s = (sn : Int) := ⟨s.toNat, by omega⟩
  have E0 : Hid (YE w (w.alloc (.cells #[.int .u8 (rn : Int), .int .u32 (iN : Int), .int .u64 (sn : Int)] 49)).drew base a c X) := Lib.hid ((YE.start h).below hb ((Below.refl _ _).alloc (Nat.le_refl _) _).drew)
  have Hq : Hid ((w.alloc (.cells #[.int .u8 (rn : Int), .int .u32 (iN : Int), .int .u64 (sn : Int)] 49)).drew.heap[w.heap.size]? = some (.cells #[.int .u8 (rn : Int), .int .u32 (iN : Int), .int .u64 (sn : Int)] 49 (0, 0))) := Lib.hid (heap_new w _)
  clear h
  go_enter Tryz.func211, Tryz.ntmps211
  go_wp2_with fail
  refine region_tree_at (fun k => k = w.heap.size) (sgOf [([0, 1, 2, 3, 4, 6, 7, 8, 9, 11, 12], false), ([5], true), ([10], true), ([13, 14], false)]) mixed (by kernel_rfl) ?_
  simp only [sgOf, wpSgB, List.map_cons, List.map_nil, List.getD_cons_succ, List.getD_cons_zero]
  go_wp2_with fail
  refine (numY_any a c base X rn _ E0.out.own (by have := E0.out.bel.size; omega) (by omega) (by omega)).mono ?_
  intro e w3 hto
  obtain ⟨Y3, a3, c3, hY, rfl, hE, hk⟩ := E0.out.step hto
  have hl3 : Y3.length ≤ X.length + 10 := by rw [hY, List.length_append]; have := numB_l rn (by omega); omega
  have E3 := Lib.hid hE
  have HY3 := Lib.hid hY
  have hheld := held_keep Hq.out dot_ne hk
  replace Hq := Lib.hid (hk _ _ _ _ dot_ne Hq.out)
  clear hto hY hE hk
  have d0 := cells_at Hq.out
  have z0 := heap_lt Hq.out
  go_wp2_with fail
  refine And.intro hheld ?_
  clear hheld
  go_wp2_with fail
  clear d0 z0
  refine (numY_any a3 c3 base Y3 iN _ E3.out.own (by have := E3.out.bel.size; omega) (by omega) (by omega)).mono ?_
  intro e w4 hto
  obtain ⟨Y4, a4, c4, hY, rfl, hE, hk⟩ := E3.out.step hto
  have hl4 : Y4.length ≤ Y3.length + 10 := by rw [hY, List.length_append]; have := numB_l iN (by omega); omega
  have E4 := Lib.hid hE
  have HY4 := Lib.hid hY
  have hheld := held_keep Hq.out dot_ne hk
  replace Hq := Lib.hid (hk _ _ _ _ dot_ne Hq.out)
  clear hto hY hE hk
  have d0 := cells_at Hq.out
  have z0 := heap_lt Hq.out
  go_wp2_with fail
  refine And.intro hheld ?_
  clear hheld
  go_wp2_with fail
  clear d0 z0
  refine (numY_any a4 c4 base Y4 sn _ E4.out.own (by have := E4.out.bel.size; omega) (by omega) (by omega)).mono ?_
  intro e w5 hto
  obtain ⟨Y5, a5, c5, hY, rfl, hE, hk⟩ := E4.out.step hto
  have hl5 : Y5.length ≤ Y4.length + 10 := by rw [hY, List.length_append]; have := numB_l sn (by omega); omega
  have E5 := Lib.hid hE
  have HY5 := Lib.hid hY
  clear hto hY hE hk
  go_wp2_with fail
  refine And.intro (And.intro (by kernel_rfl) ?rds) ?_
  case rds => simp [reads, readsIn, Act.eval]
  go_wp2_with fail
  go_ret
  exact E5.out.put (by rw [HY5.out, HY4.out, HY3.out]; simp [dotB])
set_option maxRecDepth 100000 in
set_option maxHeartbeats 2000000 in
theorem putC_any (a : Option Addr) (c base : Nat) (X : List UInt8) (la : Option Addr) (lc : Nat) (l : List Dt) (wb w : World) (h : Yb w base a c X) (hb : base ≤ w.heap.size) (hwb : wb.heap.size ≤ base) (hv : Vec wb la lc l) (hbl : Below wb.heap.size wb w) (hok : okV l) (hn : l.length ≤ 100000) (hl : X.length ≤ 10000000) :
    Calls Tryz.prog 164 #[.slice a X.length c, .slice la l.length lc] w (PutY w base (X ++ dotsB l)) := by
  have E0 := Lib.hid (YE.start h)
  have Hv := Lib.hid hv
  have Hbl := Lib.hid hbl
  have Hok := Lib.hid hok
  clear h hv hbl hok
  go_enter Tryz.func164, Tryz.ntmps164
  go_wp2_with fail
  go_loopw [0, 9] (fun b i wr => ∃ (k : Nat) (Y : List UInt8) (ba : Option Addr) (bc : Nat), k ≤ l.length ∧ i = .int .i64 k ∧ b = .slice ba Y.length bc ∧ Hid (Y = X ++ dotsB (l.take k)) ∧ Hid (YE w wr base ba bc Y)) (fun _ i _ => l.length - (intOf i).toNat)
  case atStart => exact ⟨0, X, a, c, Nat.zero_le _, rfl, rfl, Lib.hid (by simp [dotsB]), E0⟩
  case round =>
    obtain ⟨k, Y, ba, bc, hk, rfl, rfl, HY, E⟩ := hrel
    clear E0
    have hYl : Y.length ≤ 40000000 := by
      have h1 := dotsB_len (okV_take Hok.out k)
      rw [HY.out, List.length_append]
      simp at h1
      omega
    by_cases hlt : k < l.length
    · obtain ⟨⟨⟨r, i⟩, s⟩, hx⟩ : ∃ x, l[k]? = some x := ⟨l[k], by simp [hlt]⟩
      obtain ⟨ad, had, d0, d1, d2, hlt0⟩ := (Hv.out.below (Hbl.out.trans (E.out.bel.mono hwb))).at hx
      have had' := had
      subst had'
      have hokd := Hok.out _ (List.mem_of_getElem? hx)
      obtain ⟨⟨⟨r1, r2⟩, i1, i2⟩, s1', s2'⟩ := hokd
      have Hx := Lib.hid (take_snoc' hx)
      dsimp only at d0 d1 d2 r1 r2 i1 i2 s1' s2'
      clear hx had
      obtain ⟨rn, rfl⟩ : ∃ rn : Nat, r = (rn : Int) := ⟨r.toNat, by omega⟩
      obtain ⟨iN, rfl⟩ : ∃ iN : Nat, i = (iN : Int) := ⟨i.toNat, by omega⟩
      obtain ⟨sn, rfl⟩ : ∃ sn : Nat, s = (sn : Int) := ⟨s.toNat, by omega⟩
      have F0 : Hid (YE w (wr.alloc (.cells #[.int .u8 (rn : Int), .int .u32 (iN : Int), .int .u64 (sn : Int)] 49)).drew base ba bc Y) := Lib.hid (E.out.below hb ((Below.refl _ _).alloc (Nat.le_refl _) _).drew)
      have Hq : Hid ((wr.alloc (.cells #[.int .u8 (rn : Int), .int .u32 (iN : Int), .int .u64 (sn : Int)] 49)).drew.heap[wr.heap.size]? = some (.cells #[.int .u8 (rn : Int), .int .u32 (iN : Int), .int .u64 (sn : Int)] 49 (0, 0))) := Lib.hid (heap_new wr _)
      go_wp2_with fail
      clear d0 d1 d2 hlt0
      refine region_tree_at (fun k => k = wr.heap.size) (sgOf [([0, 1, 2, 3, 4, 6, 7, 8, 9, 11, 12], false), ([5], true), ([10], true), ([13, 14], false)]) mixed (by kernel_rfl) ?_
      simp only [sgOf, wpSgB, List.map_cons, List.map_nil, List.getD_cons_succ, List.getD_cons_zero]
      go_wp2_with fail
      refine (numY_any ba bc base Y rn _ F0.out.own (by have := F0.out.bel.size; omega) (by omega) (by omega)).mono ?_
      intro e w3 hto
      obtain ⟨Y3, a3, c3, hY, rfl, hE, hk⟩ := F0.out.step hto
      have hl3 : Y3.length ≤ Y.length + 10 := by rw [hY, List.length_append]; have := numB_l rn (by omega); omega
      have E3 := Lib.hid hE
      have HY3 := Lib.hid hY
      have hheld := held_keep Hq.out dot_ne hk
      replace Hq := Lib.hid (hk _ _ _ _ dot_ne Hq.out)
      clear hto hY hE hk
      have d0 := cells_at Hq.out
      have z0 := heap_lt Hq.out
      go_wp2_with fail
      refine And.intro hheld ?_
      clear hheld
      go_wp2_with fail
      clear d0 z0
      refine (numY_any a3 c3 base Y3 iN _ E3.out.own (by have := E3.out.bel.size; omega) (by omega) (by omega)).mono ?_
      intro e w4 hto
      obtain ⟨Y4, a4, c4, hY, rfl, hE, hk⟩ := E3.out.step hto
      have hl4 : Y4.length ≤ Y3.length + 10 := by rw [hY, List.length_append]; have := numB_l iN (by omega); omega
      have E4 := Lib.hid hE
      have HY4 := Lib.hid hY
      have hheld := held_keep Hq.out dot_ne hk
      replace Hq := Lib.hid (hk _ _ _ _ dot_ne Hq.out)
      clear hto hY hE hk
      have d0 := cells_at Hq.out
      have z0 := heap_lt Hq.out
      go_wp2_with fail
      refine And.intro hheld ?_
      clear hheld
      go_wp2_with fail
      clear d0 z0
      refine (numY_any a4 c4 base Y4 sn _ E4.out.own (by have := E4.out.bel.size; omega) (by omega) (by omega)).mono ?_
      intro e w5 hto
      obtain ⟨Y5, a5, c5, hY, rfl, hE, hk⟩ := E4.out.step hto
      have hl5 : Y5.length ≤ Y4.length + 10 := by rw [hY, List.length_append]; have := numB_l sn (by omega); omega
      have E5 := Lib.hid hE
      have HY5 := Lib.hid hY
      clear hto hY hE hk
      go_wp2_with fail
      refine And.intro (And.intro (by kernel_rfl) ?rds) ?_
      case rds => simp [reads, readsIn, Act.eval]
      go_wp2_with fail
      go_roundw
      case rel => exact ⟨k + 1, Y5, a5, c5, by omega, by go_num, rfl, Lib.hid (by rw [HY5.out, HY4.out, HY3.out, HY.out, Hx.out, dotsB_snoc]; simp [dotB]), E5⟩
      case measure => simp [intOf]; omega
    · have He := Lib.hid (show Y = X ++ dotsB l by rw [HY.out, List.take_of_length_le (by omega)])
      go_wp2_with fail
      go_ret
      exact E.out.put He.out
end Go.Proofs.YtaandcblndldmaaGreat

/- BytC -/
namespace Go.Proofs.YtaandcblndldmaaGreat
open Go.RowKit
set_option linter.unusedVariables false
set_option linter.unusedSimpArgs false

theorem op_ne : 52 ≠ 5 := by decide
/-- an operation's bytes -/
def opG (o : Opn) : List UInt8 := numB o.k.toNat ++ numB o.p.length ++ o.p.flatMap textB ++ intG o.n ++ textB o.x ++ numB o.ds.length ++ dotsB o.ds
theorem textB_len {s : ByteArray} (h : s.size ≤ 1100000) : (textB s).length ≤ s.size + 10 := by
  have := numB_len s.size (by omega)
  have h2 : s.data.toList.length = s.size := by rw [Array.length_toList]; rfl
  unfold textB
  rw [List.length_append, h2]; omega
theorem texts_len {p : List ByteArray} (h : ∀ s ∈ p, s.size ≤ 1000) : (p.flatMap textB).length ≤ p.length * 1010 := by
  induction p with
  | nil => simp
  | cons s p ih =>
    have h1 := textB_len (s := s) (by have := h s (by simp); omega)
    have h2 := h s (by simp)
    have h3 := ih fun x hx => h x (by simp [hx])
    simp only [List.flatMap_cons, List.length_append, List.length_cons] at h3 ⊢
    omega
theorem intG_len (n : Int) : (intG n).length ≤ 10 := by
  obtain ⟨m, hm, h2⟩ := intZ_nat n
  unfold intG
  rw [hm]
  exact numB_len _ (by simpa using h2)
set_option maxRecDepth 100000 in
set_option maxHeartbeats 4000000 in
theorem opPutY_any (a : Option Addr) (c base : Nat) (X : List UInt8) (v : Ow) (wb w : World) (h : Yb w base a c X) (hb : base ≤ w.heap.size) (hwb : wb.heap.size ≤ base) (hv : OwAt wb v) (hbl : Below wb.heap.size wb w) (hk1 : 0 ≤ v.o.k) (hk2 : v.o.k ≤ 255) (hp3 : v.o.p.length ≤ 100) (hps : ∀ s ∈ v.o.p, s.size ≤ 1000) (hx1 : v.o.x.size ≤ 100000) (hds : v.o.ds.length ≤ 1000) (hl : X.length ≤ 900000) :
    Calls Tryz.prog 166 #[.slice a X.length c, .agg (owcells v)] w (PutY w base (X ++ opG v.o)) := by
  obtain ⟨⟨k, n, x, p, ds⟩, pa, pc, da, dc⟩ := v
  dsimp only at hk1 hk2 hp3 hps hx1 hds
  obtain ⟨kn, rfl⟩ : ∃ kn : Nat, k = (kn : Int) := ⟨k.toNat, by omega⟩
  have Hv := Lib.hid hv
  have Hbl := Lib.hid hbl
  have Hps := Lib.hid hps
  have b1 := hv.pt.2.2.1
  have b2 := hv.ds.2.2.1
  have b3 := hv.pt.2.1
  have b4 := hv.ds.2.1
  unfold maxLen at b1 b2
  dsimp only at b1 b2 b3 b4
  have E0 : Hid (YE w (w.alloc (.cells (ocells kn n x pa p.length pc da ds.length dc) 52)).drew base a c X) := Lib.hid ((YE.start h).below hb ((Below.refl _ _).alloc (Nat.le_refl _) _).drew)
  have Hq : Hid ((w.alloc (.cells (ocells kn n x pa p.length pc da ds.length dc) 52)).drew.heap[w.heap.size]? = some (.cells (ocells kn n x pa p.length pc da ds.length dc) 52 (0, 0))) := Lib.hid (heap_new w _)
  clear h hv hbl hps
  simp only [owcells, ocells]
  go_enter Tryz.func166, Tryz.ntmps166
  go_wp2_with fail
  refine LenR.region_tree_at (fun k => k = w.heap.size) (sgOf [([0, 1, 2, 3, 5, 6, 7, 8], false), ([4], true), ([9, 10], false)]) mixed (by kernel_rfl) (by kernel_rfl) ?_
  simp only [sgOf, LenR.wpSgB, List.map_cons, List.map_nil, List.getD_cons_succ, List.getD_cons_zero]
  go_wp2_with fail
  have d0 : True := trivial
  have z0 : True := trivial
  refine (numY_any a c base X kn _ E0.out.own (by have := E0.out.bel.size; omega) (by omega) (by omega)).mono ?_
  intro e w1 hto
  obtain ⟨Y1, a1, c1, hY, rfl, hE, hk⟩ := E0.out.step hto
  have hl1 : Y1.length ≤ X.length + 10 := by rw [hY, List.length_append]; have := numB_l kn (by omega); omega
  have E1 := Lib.hid hE
  have HY1 := Lib.hid hY
  have hheld := held_keep Hq.out op_ne hk
  replace Hq := Lib.hid (hk _ _ _ _ op_ne Hq.out)
  clear hto hY hE hk d0 z0
  have d0 := cells_at Hq.out
  simp only [ocells] at d0
  have z0 := heap_lt Hq.out
  go_wp2_with fail
  refine And.intro hheld ?_
  clear hheld
  go_wp2_with fail
  refine (numY_any a1 c1 base Y1 p.length _ E1.out.own (by have := E1.out.bel.size; omega) (by omega) (by omega)).mono ?_
  intro e w2 hto
  obtain ⟨Y2, a2, c2, hY, rfl, hE, hk⟩ := E1.out.step hto
  have hl2 : Y2.length ≤ Y1.length + 10 := by rw [hY, List.length_append]; have := numB_l p.length (by omega); omega
  have E2 := Lib.hid hE
  have HY2 := Lib.hid hY
  replace Hq := Lib.hid (hk _ _ _ _ op_ne Hq.out)
  clear hto hY hE hk d0 z0
  have d0 := cells_at Hq.out
  simp only [ocells] at d0
  have z0 := heap_lt Hq.out
  go_wp2_with fail
  refine And.intro (And.intro (by kernel_rfl) ?rds) ?_
  case rds => simp [LenR.reads, LenR.readsN, readsIn, Act.eval]
  go_wp2_with fail
  clear d0 z0
  have HY : Hid (Y2 = X ++ numB kn ++ numB p.length) := Lib.hid (by rw [HY2.out, HY1.out])
  clear HY1 HY2 E1 E0
  go_loopw [0, 22] (fun b i wr => ∃ (j : Nat) (Y : List UInt8) (ba : Option Addr) (bc : Nat), j ≤ p.length ∧ i = .int .i64 j ∧ b = .slice ba Y.length bc ∧ Hid (Y = X ++ numB kn ++ numB p.length ++ (p.take j).flatMap textB) ∧ Hid (YE w wr base ba bc Y) ∧ Hid (wr.heap[w.heap.size]? = some (.cells (ocells kn n x pa p.length pc da ds.length dc) 52 (0, 0)))) (fun _ i _ => p.length - (intOf i).toNat)
  case atStart => exact ⟨0, Y2, a2, c2, Nat.zero_le _, rfl, rfl, Lib.hid (by rw [HY.out]; simp), E2, Hq⟩
  case round =>
    obtain ⟨j, Y, ba, bc, hj, rfl, rfl, HYj, E⟩ := hrel
    obtain ⟨E, Hq⟩ := E
    clear HY E2 hl1 hl2
    have hYl : Y.length ≤ 1200000 := by
      have h1 := texts_len (p := p.take j) (fun s hs => Hps.out s (List.mem_of_mem_take hs))
      have h2 := numB_l kn (by omega)
      have h3 := numB_l p.length (by omega)
      rw [HYj.out]
      simp only [List.length_append, List.length_take] at h1 ⊢
      omega
    have d0 := cells_at Hq.out
    simp only [ocells] at d0
    have z0 := heap_lt Hq.out
    by_cases hlt : j < p.length
    · obtain ⟨s, hx⟩ : ∃ s, p[j]? = some s := ⟨p[j], by simp [hlt]⟩
      have hs1 := Hps.out s (List.mem_of_getElem? hx)
      obtain ⟨ad, had, e0⟩ := Strs.at (Hv.out.pt.below (Hbl.out.trans (E.out.bel.mono hwb))) hx
      dsimp only at had
      subst had
      have Hx := Lib.hid (take_snoc' hx)
      clear hx
      go_wp2_with fail
      refine (textY_any ba bc base Y s _ E.out.own (by have := E.out.bel.size; omega) (by omega) (by omega)).mono ?_
      intro e w3 hto
      obtain ⟨Y3, a3, c3, hY, rfl, hE, hk⟩ := E.out.step hto
      have hl3 : Y3.length ≤ Y.length + 1010 := by rw [hY, List.length_append]; have := textB_len (s := s) (by omega); omega
      have E3 := Lib.hid hE
      have HY3 := Lib.hid hY
      replace Hq := Lib.hid (hk _ _ _ _ op_ne Hq.out)
      clear hto hY hE hk d0 z0 e0
      have d0 := cells_at Hq.out
      simp only [ocells] at d0
      have z0 := heap_lt Hq.out
      go_wp2_with fail
      go_roundw
      case rel => exact ⟨j + 1, Y3, a3, c3, by omega, by go_num, rfl, Lib.hid (by rw [HY3.out, HYj.out, Hx.out]; simp), E3, Hq⟩
      case measure => simp [intOf]; omega
    · have HY : Hid (Y = X ++ numB kn ++ numB p.length ++ p.flatMap textB) := Lib.hid (by rw [HYj.out, List.take_of_length_le (by omega)])
      clear HYj
      have E0 := Lib.hid (E.out.below hb (Below.refl _ _).drew)
      have Hq0 := Hq
      have Hq : Hid (wr.drew.heap[w.heap.size]? = some (.cells (ocells kn n x pa p.length pc da ds.length dc) 52 (0, 0))) := Lib.hid Hq0.out
      clear Hq0
      go_wp2_with fail
      refine LenR.region_tree_at (fun k => k = w.heap.size) (sgOf [([0, 1, 2, 4, 5, 7, 8, 9, 10], false), ([3], true), ([6], true), ([11, 12], false)]) mixed (by kernel_rfl) (by kernel_rfl) ?_
      simp only [sgOf, LenR.wpSgB, List.map_cons, List.map_nil, List.getD_cons_succ, List.getD_cons_zero]
      go_wp2_with fail
      refine (intY_any ba bc base Y n _ E0.out.own (by have := E0.out.bel.size; omega) (by omega)).mono ?_
      intro e w4 hto
      obtain ⟨Y4, a4, c4, hY, rfl, hE, hk⟩ := E0.out.step hto
      have hl4 : Y4.length ≤ Y.length + 10 := by rw [hY, List.length_append]; have := intG_len n; omega
      have E4 := Lib.hid hE
      have HY4 := Lib.hid hY
      have hheld := held_keep Hq.out op_ne hk
      replace Hq := Lib.hid (hk _ _ _ _ op_ne Hq.out)
      clear hto hY hE hk d0 z0
      have d0 := cells_at Hq.out
      simp only [ocells] at d0
      have z0 := heap_lt Hq.out
      go_wp2_with fail
      refine And.intro hheld ?_
      clear hheld
      go_wp2_with fail
      refine (textY_any a4 c4 base Y4 x _ E4.out.own (by have := E4.out.bel.size; omega) (by omega) (by omega)).mono ?_
      intro e w5 hto
      obtain ⟨Y5, a5, c5, hY, rfl, hE, hk⟩ := E4.out.step hto
      have hl5 : Y5.length ≤ Y4.length + 100010 := by rw [hY, List.length_append]; have := textB_len (s := x) (by omega); omega
      have E5 := Lib.hid hE
      have HY5 := Lib.hid hY
      have hheld := held_keep Hq.out op_ne hk
      replace Hq := Lib.hid (hk _ _ _ _ op_ne Hq.out)
      clear hto hY hE hk d0 z0
      have d0 := cells_at Hq.out
      simp only [ocells] at d0
      have z0 := heap_lt Hq.out
      go_wp2_with fail
      refine And.intro hheld ?_
      clear hheld
      go_wp2_with fail
      refine (numY_any a5 c5 base Y5 ds.length _ E5.out.own (by have := E5.out.bel.size; omega) (by omega) (by omega)).mono ?_
      intro e w6 hto
      obtain ⟨Y6, a6, c6, hY, rfl, hE, hk⟩ := E5.out.step hto
      have hl6 : Y6.length ≤ Y5.length + 10 := by rw [hY, List.length_append]; have := numB_l ds.length (by omega); omega
      have E6 := Lib.hid hE
      have HY6 := Lib.hid hY
      replace Hq := Lib.hid (hk _ _ _ _ op_ne Hq.out)
      clear hto hY hE hk d0 z0
      have d0 := cells_at Hq.out
      simp only [ocells] at d0
      have z0 := heap_lt Hq.out
      go_wp2_with fail
      refine And.intro (And.intro (by kernel_rfl) ?rds) ?_
      case rds => simp [LenR.reads, LenR.readsN, readsIn, Act.eval]
      go_wp2_with fail
      clear d0 z0
      have HZ : Hid (Y6 = X ++ numB kn ++ numB p.length ++ p.flatMap textB ++ intG n ++ textB x ++ numB ds.length) := Lib.hid (by rw [HY6.out, HY5.out, HY4.out, HY.out])
      have hZl : Y6.length ≤ 1400000 := by omega
      clear HY6 HY5 HY4 HY E4 E5 E0
      go_loopw [0, 45] (fun b i wr2 => ∃ (j : Nat) (Y : List UInt8) (ba : Option Addr) (bc : Nat), j ≤ ds.length ∧ i = .int .i64 j ∧ b = .slice ba Y.length bc ∧ Hid (Y = Y6 ++ dotsB (ds.take j)) ∧ Hid (YE w wr2 base ba bc Y)) (fun _ i _ => ds.length - (intOf i).toNat)
      case atStart => exact ⟨0, Y6, a6, c6, Nat.zero_le _, rfl, rfl, Lib.hid (by simp [dotsB]), E6⟩
      case round =>
        obtain ⟨j, Y, ba, bc, hj, rfl, rfl, HYj, E⟩ := hrel
        clear E6 Hq
        have hYl : Y.length ≤ 1500000 := by
          have h1 := dotsB_len (okV_take Hv.out.ok j)
          rw [HYj.out, List.length_append]
          simp at h1
          omega
        by_cases hlt : j < ds.length
        · obtain ⟨⟨⟨r, i⟩, s⟩, hx⟩ : ∃ x, ds[j]? = some x := ⟨ds[j], by simp [hlt]⟩
          obtain ⟨ad, had, d0, d1, d2, hlt0⟩ := (Hv.out.ds.below (Hbl.out.trans (E.out.bel.mono hwb))).at hx
          have had' := had
          subst had'
          have Hokd := Lib.hid (Hv.out.ok _ (List.mem_of_getElem? hx))
          have Hx := Lib.hid (take_snoc' hx)
          dsimp only at d0 d1 d2
          clear hx had
          have F0 : Hid (YE w (wr.alloc (.cells #[.int .u8 r, .int .u32 i, .int .u64 s] 49)) base ba bc Y) := Lib.hid (E.out.below hb ((Below.refl _ _).alloc (Nat.le_refl _) _))
          go_wp2_with fail
          refine (putDotY_any ba bc base Y ((r, i), s) _ F0.out.own (by have := F0.out.bel.size; omega) (by omega) Hokd.out).mono ?_
          intro e w7 hto
          obtain ⟨Y7, a7, c7, hY, rfl, hE, _⟩ := F0.out.step hto
          have E7 := Lib.hid hE
          have HY7 := Lib.hid hY
          clear hto hY hE d0 d1 d2
          go_wp2_with fail
          go_roundw
          case rel => exact ⟨j + 1, Y7, a7, c7, by omega, by go_num, rfl, Lib.hid (by rw [HY7.out, HYj.out, Hx.out, dotsB_snoc]; simp), E7⟩
          case measure => simp [intOf]; omega
        · have He := Lib.hid (show Y = X ++ opG ⟨kn, n, x, p, ds⟩ by rw [HYj.out, List.take_of_length_le (by omega), HZ.out]; simp [opG])
          go_wp2_with fail
          go_ret
          exact E.out.put He.out
end Go.Proofs.YtaandcblndldmaaGreat

/- BytD -/
namespace Go.Proofs.YtaandcblndldmaaGreat
open Go.RowKit
set_option linter.unusedVariables false
set_option linter.unusedSimpArgs false

theorem heap_lastY (w : World) (o : Obj) {k : Nat} (h : k = w.heap.size) : (w.alloc o).heap[k]? = some o := by subst h; exact heap_new w o
theorem cm_ne : 54 ≠ 5 := by decide
/-- a commit's bytes -/
def cmG (c : Cm) : List UInt8 := dotsB [c.d] ++ numB c.ps.length ++ dotsB c.ps ++ numB c.vv.length ++ dotsB c.vv ++ numB c.t.toNat ++ opG c.o
theorem PutY.weak {w w' : World} {b b' : Nat} {r : List UInt8} {e : Ending} (h : PutY w b r e w') (hb : b' ≤ b) : PutY w b' r e w' := by
  obtain ⟨X, a, c, h1, h2, h3, h4, h5⟩ := h
  exact ⟨X, a, c, h1, h2, owns_base h3 hb, h4.mono hb, h5⟩
/-- what is so small that its bytes can be counted -/
structure FewC (c : Cm) : Prop where
  k1 : 0 ≤ c.o.k
  k2 : c.o.k ≤ 255
  p : c.o.p.length ≤ 100
  ps : ∀ s ∈ c.o.p, s.size ≤ 1000
  x : c.o.x.size ≤ 100000
  ds : c.o.ds.length ≤ 1000
  par : c.ps.length ≤ 1000
  vv : c.vv.length ≤ 1000
set_option maxRecDepth 100000 in
set_option maxHeartbeats 4000000 in
theorem comPut_any (v : Cw) (w : World) (hv : CwAt w v) (hf : FewC v.c) :
    Calls Tryz.prog 123 #[.slice none 0 0, .agg (cwcells v)] w (PutY w w.heap.size (cmG v.c)) := by
  obtain ⟨⟨⟨⟨r, i⟩, s⟩, ps, uu, t, ⟨k, n, x, p, ds⟩⟩, qa, qc, ua, uc, pa, pc, da, dc⟩ := v
  obtain ⟨t1, t2⟩ := hv.ok.t
  dsimp only at t1 t2
  obtain ⟨tn, rfl⟩ : ∃ tn : Nat, t = (tn : Int) := ⟨t.toNat, by omega⟩
  have Hv := Lib.hid hv
  have Hf := Lib.hid hf
  have b1 := hv.ps.2.2.1
  have b2 := hv.vv.2.2.1
  have b3 := hv.ps.2.1
  have b4 := hv.vv.2.1
  have f1 := hf.par
  have f2 := hf.vv
  unfold maxLen at b1 b2
  dsimp only at b1 b2 b3 b4 f1 f2
  have hB1 : Below w.heap.size w (((w.alloc (.cells (ccells r i s qa ps.length qc ua uu.length uc tn k pa p.length pc n x da ds.length dc) 54)).alloc (.cells #[.int .u8 r, .int .u32 i, .int .u64 s] 49))).drew := (((Below.refl _ _).alloc (Nat.le_refl _) _).alloc (by simp) _).drew
  have E0 : Hid (YE w (((w.alloc (.cells (ccells r i s qa ps.length qc ua uu.length uc tn k pa p.length pc n x da ds.length dc) 54)).alloc (.cells #[.int .u8 r, .int .u32 i, .int .u64 s] 49))).drew w.heap.size none 0 []) := Lib.hid ⟨Yb.nil _ _, hB1, KeepB.of_below hB1⟩
  have Hq : Hid ((((w.alloc (.cells (ccells r i s qa ps.length qc ua uu.length uc tn k pa p.length pc n x da ds.length dc) 54)).alloc (.cells #[.int .u8 r, .int .u32 i, .int .u64 s] 49))).drew.heap[w.heap.size]? = some (.cells (ccells r i s qa ps.length qc ua uu.length uc tn k pa p.length pc n x da ds.length dc) 54 (0, 0))) := Lib.hid ((heap_old _ _ (by simp)).trans (heap_new w _))
  have Hd : Hid (Vec (((w.alloc (.cells (ccells r i s qa ps.length qc ua uu.length uc tn k pa p.length pc n x da ds.length dc) 54)).alloc (.cells #[.int .u8 r, .int .u32 i, .int .u64 s] 49))).drew (some ⟨w.heap.size + 1, 0, none⟩) 1 [((r, i), s)]) := Lib.hid (Sl.blk (n := 1) (size := 3) (C := #[.int .u8 r, .int .u32 i, .int .u64 s]) (heap_lastY _ _ (by simp)) rfl (by decide))
  clear hv hf hB1
  simp only [cwcells, ccells]
  go_enter Tryz.func123, Tryz.ntmps123
  go_wp2_with fail
  refine LenR.region_tree_at (fun k => k = w.heap.size) (sgOf [([0, 1, 2, 5, 6, 7, 8, 10, 11, 3], false), ([4], true), ([9], true), ([12, 13], false)]) mixed (by kernel_rfl) (by kernel_rfl) ?_
  simp only [sgOf, LenR.wpSgB, List.map_cons, List.map_nil, List.getD_cons_succ, List.getD_cons_zero]
  go_wp2_with fail
  refine (putC_any none 0 _ [] (some ⟨w.heap.size + 1, 0, none⟩) 1 [((r, i), s)] _ _ (Yb.nil _ _) (Nat.le_refl _) (Nat.le_refl _) Hd.out (Below.refl _ _) (fun d hd => by rw [List.mem_singleton] at hd; subst hd; exact Hv.out.ok.d) (by simp) (by simp)).mono ?_
  intro e w1 hto
  obtain ⟨Y1, a1, c1, hY, rfl, hE, hk⟩ := E0.out.step (hto.weak (b' := w.heap.size) E0.out.bel.size)
  have HY1 : Hid (Y1 = dotsB [((r, i), s)]) := Lib.hid (by rw [hY]; rfl)
  have hl1 : Y1.length ≤ 30 := by rw [HY1.out]; have := dotsB_len (v := [((r, i), s)]) (fun d hd => by rw [List.mem_singleton] at hd; subst hd; exact Hv.out.ok.d); simpa using this
  have E1 := Lib.hid hE
  have hheld := held_keep Hq.out cm_ne hk
  replace Hq := Lib.hid (hk _ _ _ _ cm_ne Hq.out)
  clear hto hY hE hk E0 Hd
  have d0 := cells_at Hq.out
  simp only [ccells] at d0
  have z0 := heap_lt Hq.out
  go_wp2_with fail
  refine And.intro hheld ?_
  clear hheld
  go_wp2_with fail
  refine (numY_any a1 c1 _ Y1 ps.length _ E1.out.own (by have := E1.out.bel.size; omega) (by omega) (by omega)).mono ?_
  intro e w2 hto
  obtain ⟨Y2, a2, c2, hY, rfl, hE, hk⟩ := E1.out.step hto
  have hl2 : Y2.length ≤ Y1.length + 10 := by rw [hY, List.length_append]; have := numB_l ps.length (by omega); omega
  have E2 := Lib.hid hE
  have HY2 := Lib.hid hY
  have hheld := held_keep Hq.out cm_ne hk
  replace Hq := Lib.hid (hk _ _ _ _ cm_ne Hq.out)
  clear hto hY hE hk d0 z0
  have d0 := cells_at Hq.out
  simp only [ccells] at d0
  have z0 := heap_lt Hq.out
  go_wp2_with fail
  refine And.intro hheld ?_
  clear hheld
  go_wp2_with fail
  refine (putC_any a2 c2 w.heap.size Y2 qa qc ps w _ E2.out.own (by have := E2.out.bel.size; omega) (Nat.le_refl _) Hv.out.ps (by have := E2.out.bel; exact this) Hv.out.ok.ps (by omega) (by omega)).mono ?_
  intro e w3 hto
  obtain ⟨Y3, a3, c3, hY, rfl, hE, hk⟩ := E2.out.step hto
  have hl3 : Y3.length ≤ Y2.length + 30000 := by rw [hY, List.length_append]; have hh : (dotsB ps).length ≤ ps.length * 30 := dotsB_len Hv.out.ok.ps; omega
  have E3 := Lib.hid hE
  have HY3 := Lib.hid hY
  replace Hq := Lib.hid (hk _ _ _ _ cm_ne Hq.out)
  clear hto hY hE hk d0 z0
  have d0 := cells_at Hq.out
  simp only [ccells] at d0
  have z0 := heap_lt Hq.out
  go_wp2_with fail
  refine And.intro (And.intro (by kernel_rfl) ?rds) ?_
  case rds => simp [LenR.reads, LenR.readsN, readsIn, Act.eval]
  go_wp2_with fail
  have E3d := Lib.hid (E3.out.below (Nat.le_refl _) (Below.refl _ _).drew)
  have Hq : Hid (w3.drew.heap[w.heap.size]? = _) := Lib.hid Hq.out
  clear d0 z0
  have d0 := cells_at Hq.out
  simp only [ccells] at d0
  have z0 := heap_lt Hq.out
  go_wp2_with fail
  refine LenR.region_tree_at (fun k => k = w.heap.size) (sgOf [([0, 1, 2, 3, 4, 6, 7], false), ([5], true), ([8, 9], false)]) mixed (by kernel_rfl) (by kernel_rfl) ?_
  simp only [sgOf, LenR.wpSgB, List.map_cons, List.map_nil, List.getD_cons_succ, List.getD_cons_zero]
  go_wp2_with fail
  refine (numY_any a3 c3 _ Y3 uu.length _ E3d.out.own (by have := E3d.out.bel.size; omega) (by omega) (by omega)).mono ?_
  intro e w4 hto
  obtain ⟨Y4, a4, c4, hY, rfl, hE, hk⟩ := E3d.out.step hto
  have hl4 : Y4.length ≤ Y3.length + 10 := by rw [hY, List.length_append]; have := numB_l uu.length (by omega); omega
  have E4 := Lib.hid hE
  have HY4 := Lib.hid hY
  have hheld := held_keep Hq.out cm_ne hk
  replace Hq := Lib.hid (hk _ _ _ _ cm_ne Hq.out)
  clear hto hY hE hk d0 z0
  have d0 := cells_at Hq.out
  simp only [ccells] at d0
  have z0 := heap_lt Hq.out
  go_wp2_with fail
  refine And.intro hheld ?_
  clear hheld
  go_wp2_with fail
  refine (putC_any a4 c4 w.heap.size Y4 ua uc uu w _ E4.out.own (by have := E4.out.bel.size; omega) (Nat.le_refl _) Hv.out.vv (by have := E4.out.bel; exact this) Hv.out.ok.vv (by omega) (by omega)).mono ?_
  intro e w5 hto
  obtain ⟨Y5, a5, c5, hY, rfl, hE, hk⟩ := E4.out.step hto
  have hl5 : Y5.length ≤ Y4.length + 30000 := by rw [hY, List.length_append]; have hh : (dotsB uu).length ≤ uu.length * 30 := dotsB_len Hv.out.ok.vv; omega
  have E5 := Lib.hid hE
  have HY5 := Lib.hid hY
  replace Hq := Lib.hid (hk _ _ _ _ cm_ne Hq.out)
  clear hto hY hE hk d0 z0
  have d0 := cells_at Hq.out
  simp only [ccells] at d0
  have z0 := heap_lt Hq.out
  go_wp2_with fail
  refine And.intro (And.intro (by kernel_rfl) ?rds) ?_
  case rds => simp [LenR.reads, LenR.readsN, readsIn, Act.eval]
  go_wp2_with fail
  have E5d := Lib.hid (E5.out.below (Nat.le_refl _) (Below.refl _ _).drew)
  have Hq : Hid (w5.drew.heap[w.heap.size]? = _) := Lib.hid Hq.out
  clear d0 z0
  have d0 := cells_at Hq.out
  simp only [ccells] at d0
  have z0 := heap_lt Hq.out
  go_wp2_with fail
  refine LenR.region_tree_at (fun k => k = w.heap.size) (sgOf [([0, 1, 2, 4, 5], false), ([3], true), ([6, 7], false)]) mixed (by kernel_rfl) (by kernel_rfl) ?_
  simp only [sgOf, LenR.wpSgB, List.map_cons, List.map_nil, List.getD_cons_succ, List.getD_cons_zero]
  go_wp2_with fail
  refine (numY_any a5 c5 _ Y5 tn _ E5d.out.own (by have := E5d.out.bel.size; omega) (by omega) (by omega)).mono ?_
  intro e w6 hto
  obtain ⟨Y6, a6, c6, hY, rfl, hE, hk⟩ := E5d.out.step hto
  have hl6 : Y6.length ≤ Y5.length + 10 := by rw [hY, List.length_append]; have := numB_l tn (by omega); omega
  have E6 := Lib.hid hE
  have HY6 := Lib.hid hY
  have hheld := held_keep Hq.out cm_ne hk
  replace Hq := Lib.hid (hk _ _ _ _ cm_ne Hq.out)
  clear hto hY hE hk d0 z0
  have d0 := cells_at Hq.out
  simp only [ccells] at d0
  have z0 := heap_lt Hq.out
  go_wp2_with fail
  refine And.intro hheld ?_
  clear hheld
  go_wp2_with fail
  refine (opPutY_any a6 c6 w.heap.size Y6 ⟨⟨k, n, x, p, ds⟩, pa, pc, da, dc⟩ w _ E6.out.own (by have := E6.out.bel.size; omega) (Nat.le_refl _) Hv.out.op (by have := E6.out.bel; exact this) Hf.out.k1 Hf.out.k2 Hf.out.p Hf.out.ps Hf.out.x Hf.out.ds (by omega)).mono ?_
  intro e w7 hto
  obtain ⟨Y7, a7, c7, hY, rfl, hE, hk⟩ := E6.out.step hto
  have E7 := Lib.hid hE
  have HY7 := Lib.hid hY
  clear hto hY hE hk d0 z0
  go_wp2_with fail
  refine And.intro (And.intro (by kernel_rfl) ?rds) ?_
  case rds => simp [LenR.reads, LenR.readsN, readsIn, Act.eval]
  go_wp2_with fail
  go_ret
  exact E7.out.put (by rw [HY7.out, HY6.out, HY5.out, HY4.out, HY3.out, HY2.out, HY1.out]; simp [cmG])
/-- a commit's bytes in memory of one's own -/
def BytTo (w : World) (r : List UInt8) (e : Ending) (w' : World) : Prop := ∃ (X : List UInt8) (a : Option Addr) (c : Nat), X = r ∧ e = .returned (.tuple #[.slice a X.length c, .int .i64 0]) ∧ Yb w' w.heap.size a c X ∧ Below w.heap.size w w'
theorem CmP.fewC {c : Cm} (h : CmP c) : FewC c := by
  have hk := h.op.kind
  have hv : c.vv.length ≤ 64 := by
    have h1 : (canonV c.vv).length ≤ 64 := vecOf_length _
    rwa [h.canon] at h1
  have hk2 : 1 ≤ c.o.k ∧ c.o.k ≤ 5 := by
    unfold typeOf at hk
    by_cases h1 : 1 ≤ c.o.k ∧ c.o.k ≤ 5
    · exact h1
    · exfalso; apply hk
      repeat' split
      all_goals omega
  have hp := h.op.path
  exact ⟨by omega, by omega, by have := hp.2.1; omega, fun s hs => by have := (hp.2.2 s hs).2.1; omega, by have := h.op.text; omega, by have := h.op.few; omega, by have := h.few; omega, by omega⟩
set_option maxRecDepth 100000 in
set_option maxHeartbeats 4000000 in
theorem comBytes_any (v : Cw) (w : World) (hv : CwAt w v) (hC : CmP v.c) : Calls Tryz.prog 59 #[.agg (cwcells v)] w (BytTo w (cmG v.c)) := by
  obtain ⟨⟨⟨⟨r, i⟩, s⟩, ps, uu, t, ⟨k, n, x, p, ds⟩⟩, qa, qc, ua, uc, pa, pc, da, dc⟩ := v
  have Hv := Lib.hid hv
  have HC := Lib.hid hC
  have hvl := hC.fewC.vv
  have B0 : Hid (BoxE 54 w (w.alloc (.cells (ccells r i s qa ps.length qc ua uu.length uc t k pa p.length pc n x da ds.length dc) 54)) (ccells r i s qa ps.length qc ua uu.length uc t k pa p.length pc n x da ds.length dc)) := Lib.hid ⟨heap_new _ _, (Below.refl _ _).alloc (Nat.le_refl _) _⟩
  clear hv hC
  dsimp only at hvl
  simp only [cwcells, ccells]
  go_enter Tryz.func59, Tryz.ntmps59
  go_wp2_with fail
  refine (mayC_any ⟨⟨((r, i), s), ps, uu, t, ⟨k, n, x, p, ds⟩⟩, qa, qc, ua, uc, pa, pc, da, dc⟩ _ (Hv.out.below B0.out.bel) (by dsimp only; omega)).mono ?_
  rintro e w1 ⟨q, rfl, hq, hb⟩
  obtain rfl : q = true := hq.2 HC.out
  have B1 := Lib.hid (B0.out.step hb)
  clear hq hb
  have d0 := cells_at B1.out.blk
  simp only [ccells] at d0
  have z0 := heap_lt B1.out.blk
  go_wp2_with fail
  refine (comPut_any ⟨⟨((r, i), s), ps, uu, t, ⟨k, n, x, p, ds⟩⟩, qa, qc, ua, uc, pa, pc, da, dc⟩ _ (Hv.out.below B1.out.bel) HC.out.fewC).mono ?_
  rintro e w2 ⟨X, a, c, hX, rfl, hY, hb, _⟩
  have HX := Lib.hid hX
  have HY := Lib.hid (owns_base hY B1.out.bel.size)
  have B2 := Lib.hid (below2 B1.out.bel hb B1.out.bel.size)
  clear hX hY hb d0 z0
  go_wp2_with fail
  exact bodyPost_ret (v := .tuple #[.slice a X.length c, .int .i64 0]) (by simp [results, Tryz.results59, go_sem]; try rfl) rfl ⟨X, a, c, HX.out, rfl, HY.out, B2.out⟩
end Go.Proofs.YtaandcblndldmaaGreat
