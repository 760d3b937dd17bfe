/- BagPlays: what holds at the head of a round; its plain laws. -/
import Derived.Test.YtkgbdgnfidpelaaRefE
namespace Go.Proofs.Ytkgbdgnfidpelaa
open Go.RowKit
set_option linter.unusedVariables false
set_option linter.unusedSimpArgs false

/-- the bag and the reference's bag hold the same letters, in new blocks of their own -/
structure Play (w0 w : World) (pb pr : Nat) (L : List Lt) (F G : List Nat) (m : Nat) : Prop where
  bag : BagR w pb L F
  ref : RefR w pr L G
  bF : ∀ x ∈ F, w0.heap.size ≤ x
  bG : ∀ x ∈ G, w0.heap.size ≤ x
  dis : ∀ x ∈ F, x ∉ G
  len : L.length ≤ m
  sml : ∀ l ∈ L, l.b.length ≤ 200
  bel : Below w0.heap.size w0 w

theorem BagR.lt' {w : World} {pb : Nat} {L : List Lt} {F : List Nat} (h : BagR w pb L F) : ∀ k ∈ F, k < w.heap.size := by
  obtain ⟨M, sa, sc, g1, rfl, rfl⟩ := h
  exact g1.lt
theorem RefR.mem {w : World} {pr : Nat} {L : List Lt} {F : List Nat} (h : RefR w pr L F) : pr ∈ F := by
  obtain ⟨ta, tc, ba, bc, wa, wc, h1, rfl⟩ := h
  simp
theorem Play.chg {w0 w w' : World} {pb pr : Nat} {L : List Lt} {F G E : List Nat} {m : Nat} (h : Play w0 w pb pr L F G m) (hc : Chg E w w') (hE : ∀ x ∈ E, w0.heap.size ≤ x ∧ x ∉ F ∧ x ∉ G) : Play w0 w' pb pr L F G m :=
  ⟨h.bag.chg hc fun k hk he => (hE k he).2.1 hk, h.ref.chg hc fun k hk he => (hE k he).2.2 hk, h.bF, h.bG, h.dis, h.len, h.sml, h.bel.trans (hc.below h.bel.size fun x hx => (hE x hx).1)⟩
theorem Play.below {w0 w w' : World} {pb pr : Nat} {L : List Lt} {F G : List Nat} {m : Nat} (h : Play w0 w pb pr L F G m) (hb : Below w.heap.size w w') : Play w0 w' pb pr L F G m :=
  h.chg (E := []) (Chg.of_below hb) (by simp)
theorem Play.mono {w0 w : World} {pb pr : Nat} {L : List Lt} {F G : List Nat} {m m' : Nat} (h : Play w0 w pb pr L F G m) (hm : m ≤ m') : Play w0 w pb pr L F G m' :=
  ⟨h.bag, h.ref, h.bF, h.bG, h.dis, Nat.le_trans h.len hm, h.sml, h.bel⟩

/-- the reference's bag behind a call of the bag's -/
theorem Play.ref_after {w0 w w1 w2 : World} {pb pr : Nat} {L L' : List Lt} {F G : List Nat} {m : Nat} (h : Play w0 w pb pr L F G m) (h1 : BagTo w pb F L' w1) (hb : Below w1.heap.size w1 w2) : RefR w2 pr L G := by
  obtain ⟨F', _, _, hc⟩ := h1
  exact (h.ref.chg hc fun k hk he => h.dis k he hk).chg (Chg.of_below (F := []) hb) (by simp)

/-- a call of the bag's, and one of the reference's -/
theorem Play.both {w0 w w1 w2 w3 : World} {pb pr : Nat} {L L' : List Lt} {F G : List Nat} {m m' : Nat} (h : Play w0 w pb pr L F G m) (h1 : BagTo w pb F L' w1) (hb : Below w1.heap.size w1 w2) (h2 : RefTo w2 pr G L' w3)
    (hlen : L'.length ≤ m') (hsml : ∀ l ∈ L', l.b.length ≤ 200) :
    ∃ F' G', Play w0 w3 pb pr L' F' G' m' ∧ (∀ x ∈ F', x ∈ F ∨ w.heap.size ≤ x) ∧ (∀ x ∈ G', x ∈ G ∨ w.heap.size ≤ x) ∧ Chg (F ++ G) w w3 := by
  obtain ⟨F', hB, hF', hc1⟩ := h1
  obtain ⟨G', hR, hG', hc2⟩ := h2
  have s1 := hc1.size
  have s2 := hb.size
  have hFlt := h.bag.lt'
  have hGlt := h.ref.lt
  have hpr := h.ref.mem
  have hprF : pr ∉ F := fun hp => h.dis pr hp hpr
  have hprF' : pr ∉ F' := fun hp => by
    rcases hF' pr hp with h' | h'
    · exact hprF h'
    · have := hGlt pr hpr; omega
  have hB2 : BagR w2 pb L' F' := hB.chg (Chg.of_below (F := []) hb) (by simp)
  have hF'lt := hB.lt'
  have hs := h.bel.size
  refine ⟨F', G', ⟨hB2.chg hc2 (fun k hk he => by simp at he; subst he; exact hprF' hk), hR, ?_, ?_, ?_, hlen, hsml, ?_⟩, hF', ?_, ?_⟩
  · intro x hx
    rcases hF' x hx with h' | h'
    · exact h.bF x h'
    · omega
  · intro x hx
    rcases hG' x hx with h' | h'
    · exact h.bG x h'
    · omega
  · intro x hx hx'
    have hxlt := hF'lt x hx
    rcases hG' x hx' with h' | h'
    · rcases hF' x hx with h'' | h''
      · exact h.dis x h'' h'
      · have := hGlt x h'; omega
    · omega
  · have b1 : Below w0.heap.size w0 w1 := h.bel.trans (hc1.below hs h.bF)
    have b2 : Below w0.heap.size w0 w2 := b1.trans (hb.mono (by omega))
    exact b2.trans (hc2.below (by omega) fun x hx => by simp at hx; subst hx; exact h.bG x hpr)
  · intro x hx
    rcases hG' x hx with h' | h'
    · exact .inl h'
    · right; omega
  · have c1 : Chg (F ++ G) w w1 := hc1.mono fun x hx _ => by simp [hx]
    have c2 : Chg (F ++ G) w w2 := c1.trans (Chg.of_below (F := []) hb) (by simp)
    exact c2.trans hc2 fun x hx _ => by simp at hx; subst hx; simp [hpr]

/-- the bag's row of bytes of the law's own ('in'), and all else: behind the switch -/
def Mid (w0 : World) (ia : Option Addr) (n ic m : Nat) (s3 s4 s8 : Value) (wx : World) : Prop :=
  ∃ pb pr L F G bs, s3 = .pointer (some ⟨pb, 0, none⟩) ∧ s4 = .pointer (some ⟨pr, 0, none⟩) ∧ s8 = .bool true ∧ Play w0 wx pb pr L F G m ∧
    wx.ownsRow w0.heap.size 5 1 (.slice ia n ic) n (u8s bs) ∧ ∀ x ∈ ob ia, x ∉ F ∧ x ∉ G
/-- at the head of a round -/
def PlayRel (w0 : World) (k : Nat) (s3 s4 : Value) (wx : World) : Prop :=
  ∃ pb pr L F G, s3 = .pointer (some ⟨pb, 0, none⟩) ∧ s4 = .pointer (some ⟨pr, 0, none⟩) ∧ Play w0 wx pb pr L F G k

/-- 'in' stays -/
theorem Mid.of {w0 w w3 : World} {ia : Option Addr} {n ic m : Nat} {pb pr : Nat} {L : List Lt} {F G F' G' : List Nat} {bs : List UInt8} (hp : Play w0 w3 pb pr L F' G' m)
    (hi : w.ownsRow w0.heap.size 5 1 (.slice ia n ic) n (u8s bs)) (hd : ∀ x ∈ ob ia, x ∉ F ∧ x ∉ G) (hF : ∀ x ∈ F', x ∈ F ∨ w.heap.size ≤ x) (hG : ∀ x ∈ G', x ∈ G ∨ w.heap.size ≤ x) (hc : Chg (F ++ G) w w3) :
    Mid w0 ia n ic m (.pointer (some ⟨pb, 0, none⟩)) (.pointer (some ⟨pr, 0, none⟩)) (.bool true) w3 := by
  have hlt := owns_lt hi
  refine ⟨pb, pr, L, F', G', bs, rfl, rfl, rfl, hp, owns_chg hi hc fun k hk he => ?_, fun x hx => ⟨fun h => ?_, fun h => ?_⟩⟩
  · rw [List.mem_append] at he
    rcases he with he | he
    · exact (hd k hk).1 he
    · exact (hd k hk).2 he
  · rcases hF x h with h' | h'
    · exact (hd x hx).1 h'
    · have := (hlt x hx).2; omega
  · rcases hG x h with h' | h'
    · exact (hd x hx).2 h'
    · have := (hlt x hx).2; omega

theorem add_u8 (b : UInt8) : IntKind.u8.wrap ((b.toNat : Int) + 1) = ((b + 1).toNat : Int) := by
  have h := b.toNat_lt
  rw [UInt8.toNat_add]
  simp [IntKind.wrap, IntKind.bits, IntKind.signed]
end Go.Proofs.Ytkgbdgnfidpelaa
