/- The page's example of digests, plainly: nine commits one behind the other. No program in sight. | varvelaw37.known: the page's example holds. -/
import Derived.Test.YtaandcblndldmaaGreatDigB
import Derived.Test.YtaandcblndldmaaGreatLwL
import Derived.Test.YtaandcblndldmaaGreatDigC
import Derived.Test.YtaandcblndldmaaGreatGraV
import Derived.Test.YtaandcblndldmaaGreatWitA
/- KnoQ -/
namespace Go.Proofs.YtaandcblndldmaaGreat
open Go.RowKit
set_option linter.unusedVariables false
set_option linter.unusedSimpArgs false

def chD (n : Nat) : Dt := ((0, 1), (n : Int))
def chP (n : Nat) : List Dt := if n = 1 then [] else [chD (n - 1)]
def chC (n : Nat) : Cm := ⟨chD n, chP n, [chD n], (n : Int), lO⟩
def chL (k : Nat) : List Cm := (List.range k).map fun j => chC (j + 1)
theorem chL_succ (k : Nat) : chL (k + 1) = chL k ++ [chC (k + 1)] := by simp [chL, List.range_succ]
theorem chL_len (k : Nat) : (chL k).length = k := by simp [chL]
theorem mem_chL {k : Nat} {c : Cm} : c ∈ chL k ↔ ∃ j, j < k ∧ c = chC (j + 1) := by
  simp only [chL, List.mem_map, List.mem_range]
  exact ⟨fun ⟨j, h1, h2⟩ => ⟨j, h1, h2.symm⟩, fun ⟨j, h1, h2⟩ => ⟨j, h1, h2.symm⟩⟩
theorem chD_may {n : Nat} (h1 : 1 ≤ n) (h9 : n ≤ 9) : may (chD n) = true := by
  rw [may_iff]
  unfold chD
  dsimp only
  exact ⟨by decide, by omega, by omega⟩
theorem getN_one (d : Dt) (x : Ac) : getN [d] x = if may d = true ∧ d.1 = x then max 0 d.2 else 0 := rfl
theorem getN_ch {n : Nat} (h1 : 1 ≤ n) (h9 : n ≤ 9) (x : Ac) : getN [chD n] x = if x = (0, 1) then (n : Int) else 0 := by
  rw [getN_one]
  by_cases e : x = (0, 1)
  · rw [if_pos ⟨chD_may h1 h9, e.symm⟩, if_pos e]
    show max 0 (n : Int) = n
    omega
  · rw [if_neg (fun h => e h.2.symm), if_neg e]
theorem canon_ch : ∀ n : Fin 10, 1 ≤ n.val → canonV [chD n.val] = [chD n.val] := by decide +kernel
theorem has_ch {n m : Nat} (h1 : 1 ≤ m) (hm : m ≤ n) (h9 : n ≤ 9) : hasV [chD n] (chD m) = true := by
  unfold hasV
  rw [chD_may h1 (by omega), show getN [chD n] (chD m).1 = n from by show getN [chD n] (0, 1) = n; rw [getN_ch (by omega) h9, if_pos rfl], Bool.true_and, decide_eq_true_iff]
  show (m : Int) ≤ n
  omega
theorem chC_may {n : Nat} (h1 : 1 ≤ n) (h9 : n ≤ 9) : CmP (chC n) := by
  refine ⟨chD_may h1 h9, by show 1 ≤ (n : Int); omega, by show (n : Int) ≤ 1099511627776; omega, lO_may, canon_ch ⟨n, by omega⟩ h1, ?_, ?_, ⟨?_, fun x hx => ?_⟩, ⟨List.Pairwise.nil, fun x hx => by cases hx⟩⟩
  · show getN [chD n] (0, 1) = n
    rw [getN_ch h1 h9, if_pos rfl]
  · show (chP n).length ≤ 64
    unfold chP; split <;> simp
  · show (chP n).Pairwise ltD
    unfold chP; split <;> simp
  · have hx : x ∈ chP n := hx
    unfold chP at hx
    split at hx
    · cases hx
    · rw [List.mem_singleton] at hx
      subst hx
      refine ⟨fun e => ?_, has_ch (by omega) (by omega) h9⟩
      have : ((n - 1 : Nat) : Int) = (n : Int) := congrArg Prod.snd e
      omega
theorem find_ch {k j : Nat} (hj : 1 ≤ j) (hk : j ≤ k) : findC (chL k) (chD j) = some (chC j) := by
  have hn : ((chL k).map (·.d)).Nodup := by
    unfold chL
    rw [List.map_map]
    refine List.pairwise_map.2 (List.nodup_range.imp fun {a b} h e => ?_)
    have : ((a + 1 : Nat) : Int) = ((b + 1 : Nat) : Int) := congrArg Prod.snd e
    omega
  have := findC_mem hn (c := chC j) (mem_chL.2 ⟨j - 1, by omega, by rw [show j - 1 + 1 = j by omega]⟩)
  exact this
theorem mem_chP {k : Nat} {p : Dt} (h : p ∈ chP (k + 1)) : 1 ≤ k ∧ p = chD k := by
  unfold chP at h
  split at h
  · cases h
  · rw [List.mem_singleton] at h
    exact ⟨by omega, h⟩
theorem ins_ch {k : Nat} (h9 : k < 9) : insE [] (findC (chL k)) k (chC (k + 1)) = 0 := by
  have hf : findC (chL k) (chD (k + 1)) = none := by
    rw [findC_none]
    intro c hc e
    obtain ⟨j, hj, rfl⟩ := mem_chL.1 hc
    have : ((j + 1 : Nat) : Int) = ((k + 1 : Nat) : Int) := congrArg Prod.snd e
    omega
  have h0 : ∀ x, getN [] x = 0 := fun _ => rfl
  have hv : ∀ x, 0 ≤ getN [chD (k + 1)] x := fun x => (getN_bd _ x).1
  refine insE_ok (chC_may (by omega) (by omega)) ?_ ⟨fun p hp => ?_, fun h => ?_, fun x => ?_⟩ ⟨fun x => ?_, ⟨?_, fun p hp y hy => ?_⟩⟩ (by omega)
  · show hasG [] (findC (chL k)) (chD (k + 1)) = false
    unfold hasG hasV
    rw [hf, h0]
    simp [chD]
    intro _
    exact decide_eq_false (by omega)
  · obtain ⟨hk, rfl⟩ := mem_chP hp
    unfold hasG
    rw [find_ch hk (Nat.le_refl _)]
    rfl
  · have hk : 1 ≤ k := by
      have h : (1 : Int) < ((k + 1 : Nat) : Int) := h
      omega
    have e : aheadD (chC (k + 1)).d = chD k := Prod.ext rfl (by show ((k + 1 : Nat) : Int) - 1 = (k : Int); omega)
    rw [e]
    unfold hasG
    rw [find_ch hk (Nat.le_refl _)]
    rfl
  · have h1 := kn_own (F := []) (fd := findC (chL k)) (c := chC (k + 1)) (x := x) (ps := (chC (k + 1)).ps)
    have h2 : getN ((chC (k + 1)).d :: (chC (k + 1)).ps) x = max (getN [chD (k + 1)] x) (getN (chP (k + 1)) x) := getN_append [chD (k + 1)] (chP (k + 1)) x
    show getN [chD (k + 1)] x ≤ _
    omega
  · have h2 : getN ((chC (k + 1)).d :: (chC (k + 1)).ps) x = max (getN [chD (k + 1)] x) (getN (chP (k + 1)) x) := getN_append [chD (k + 1)] (chP (k + 1)) x
    have hv := hv x
    show knN [] (findC (chL k)) (chC (k + 1)) (chP (k + 1)) x ≤ getN [chD (k + 1)] x
    by_cases hk : k = 0
    · subst hk
      show max (min (getN [chD 1] x) (getN [] x)) (getN (chD 1 :: []) x) ≤ getN [chD 1] x
      rw [h0]
      have := hv
      simp only [Nat.zero_add] at this
      omega
    · have e : chP (k + 1) = [chD k] := by unfold chP; rw [if_neg (by omega)]; rfl
      have hle : getN [chD k] x ≤ getN [chD (k + 1)] x := by
        rw [getN_ch (by omega) (by omega), getN_ch (by omega) (by omega)]
        split <;> omega
      rw [e] at h2 ⊢
      rw [show ([chD k] : List Dt) = [] ++ [chD k] from rfl, knN_snoc, find_ch (by omega) (Nat.le_refl _)]
      show max (max (min (getN [chD (k + 1)] x) (getN [] x)) (getN ((chC (k + 1)).d :: (chC (k + 1)).ps) x)) (getN [chD k] x) ≤ _
      rw [h2, h0]
      omega
  · by_cases hk : k = 0
    · left; subst hk; rfl
    · right; right
      refine ⟨chD k, ?_, chC k, find_ch (by omega) (Nat.le_refl _), ?_⟩
      · show chD k ∈ chP (k + 1)
        unfold chP; rw [if_neg (by omega)]; simp
      · have e : aheadD (chC (k + 1)).d = chD k := Prod.ext rfl (by show ((k + 1 : Nat) : Int) - 1 = (k : Int); omega)
        rw [e]
        exact has_ch (by omega) (Nat.le_refl _) (by omega)
  · obtain ⟨hk, rfl⟩ := mem_chP hp
    rw [find_ch hk (Nat.le_refl _)] at hy
    cases hy
    refine ⟨fun q hq hne => ?_, by show (k : Int) < ((k + 1 : Nat) : Int); omega⟩
    obtain ⟨_, rfl⟩ := mem_chP hq
    exact absurd rfl hne
theorem chL_sorted (k : Nat) : (chL k).Pairwise ltK := by
  unfold chL
  rw [List.pairwise_map]
  refine List.pairwise_lt_range.imp fun {a b} h => ?_
  unfold ltK
  rw [ltD_iff]
  exact .inr ⟨rfl, .inr ⟨rfl, by show ((a + 1 : Nat) : Int) < ((b + 1 : Nat) : Int); omega⟩⟩
theorem ch_uniq {S : List Cm} {k : Nat} (hp : S.Perm (chL k)) (hs : S.Pairwise ltK) : S = chL k :=
  rising_ext (lt := ltK) ltK_irrefl (fun h k => ltK_trans h k) hs (chL_sorted k) fun a => hp.mem_iff
theorem digs_few (mo : Int → Cm → Int) : ∀ k : Nat, k < 8 → ∃ s, digs mo (chL (k + 1)) = [⟨(0, 1), 1, ((k + 1 : Nat) : Int), s⟩]
  | 0, _ => ⟨mo 0 (chC 1), rfl⟩
  | k + 1, h => by
    obtain ⟨s, hs⟩ := digs_few mo k (by omega)
    refine ⟨mo s (chC (k + 1 + 1)), ?_⟩
    rw [chL_succ, digs_snoc, hs]
    have hk : keyG ⟨(0, 1), 1, ((k + 1 : Nat) : Int), s⟩ = keyC (chC (k + 1 + 1)) := by
      refine Prod.ext rfl ?_
      show ((1 : Int) - 1) / 8 = (((k + 1 + 1 : Nat) : Int) - 1) / 8
      omega
    have := addDg_old mo (D := []) hk
    exact this
theorem digs_nine (mo : Int → Cm → Int) : ∃ s1 s2, digs mo (chL 9) = [⟨(0, 1), 1, 8, s1⟩, ⟨(0, 1), 9, 9, s2⟩] := by
  obtain ⟨s, hs⟩ := digs_few mo 7 (by omega)
  refine ⟨s, mo 0 (chC 9), ?_⟩
  rw [chL_succ, digs_snoc, hs, addDg_new]
  · rfl
  · intro g hg
    cases hg
    intro e
    have h1 : ((1 : Int) - 1) / 8 = (((8 + 1 : Nat) : Int) - 1) / 8 := congrArg Prod.snd e
    omega
end Go.Proofs.YtaandcblndldmaaGreat

/- Kno37 -/
namespace Go.Proofs.YtaandcblndldmaaGreat
open Go.RowKit
set_option linter.unusedVariables false
set_option linter.unusedSimpArgs false

/-- the graph of the first k commits, and the parents of the next one -/
structure Ch37 (w wr : World) (pg mb : Nat) (w0 : World) (b : Bw) (L : List Cw) (va : Option Addr) (vc : Nat) (vv : List Dt) (k : Nat) (pa : Option Addr) (pc qa : Nat) : Prop where
  gr : GrAt wr pg mb w0 0 b L va vc vv
  l : cms L = chL (k - 1)
  ps : Vec wr pa pc (chP k)
  act : wr.heap[qa]? = some (.cells #[.int .u8 0, .int .u32 1] 24 (0, 0))
  ne : qa ≠ pg ∧ qa ≠ mb
  lo : w.heap.size ≤ w0.heap.size
  bel : Below w.heap.size w wr
theorem Ch37.below {w wr w' : World} {pg mb : Nat} {w0 : World} {b : Bw} {L : List Cw} {va : Option Addr} {vc : Nat} {vv : List Dt} {k : Nat} {pa : Option Addr} {pc qa : Nat} (h : Ch37 w wr pg mb w0 b L va vc vv k pa pc qa) (hb : Below wr.heap.size wr w') : Ch37 w w' pg mb w0 b L va vc vv k pa pc qa :=
  ⟨h.gr.below hb, h.l, h.ps.below hb, (hb.block _ (heap_lt h.act)).trans h.act, h.ne, h.lo, below2 h.bel hb h.bel.size⟩
theorem chC_ok {n : Nat} (h1 : 1 ≤ n) (h9 : n ≤ 9) : okC (chC n) := by
  have hd : ∀ m : Nat, m ≤ 9 → okD (chD m) := fun m hm => ⟨⟨⟨Int.le_refl _, by show (0 : Int) ≤ 255; decide⟩, by show (0 : Int) ≤ 1; decide, by show (1 : Int) ≤ 4294967295; decide⟩, by show 0 ≤ (m : Int); omega, by show (m : Int) ≤ 18446744073709551615; omega⟩
  refine ⟨hd n h9, fun d hd' => ?_, fun d hd' => ?_, ⟨by show 0 ≤ (n : Int); omega, by show (n : Int) ≤ 18446744073709551615; omega⟩, fun d hd' => by cases hd'⟩
  · have hd' : d ∈ chP n := hd'
    unfold chP at hd'
    split at hd'
    · cases hd'
    · rw [List.mem_singleton] at hd'; subst hd'; exact hd _ (by omega)
  · have hd' : d ∈ [chD n] := hd'
    rw [List.mem_singleton] at hd'; subst hd'; exact hd _ h9
set_option maxRecDepth 100000 in
set_option maxHeartbeats 8000000 in
theorem known37_any (w : World) : Calls Tryz.prog 19 #[] w fun e w' => e = .returned (.bool true) ∧ Below w.heap.size w w' := by
  go_enter Tryz.func19, Tryz.ntmps19
  go_wp2_with fail
  refine (newE_any w).mono ?_
  intro e w1 hto
  obtain ⟨pg, mb, w0, b, va, vc, rfl, hbb, hG, hB, hz⟩ := hto
  have hpg := heap_lt hG.blk
  have hmb := hG.map.lt
  have hAl := (Below.refl w1.heap.size w1).alloc (Nat.le_refl _) (.cells #[.int .u8 0, .int .u32 1] 24)
  have E0 : Hid (Ch37 w (w1.alloc (.cells #[.int .u8 0, .int .u32 1] 24)) pg mb w0 b [] va vc [] 1 none 0 w1.heap.size) := Lib.hid ⟨hG.below hAl, rfl, Sl.nil _ _, heap_new _ _, ⟨by omega, by omega⟩, hz, below2 hB hAl hB.size⟩
  have Hbb := Lib.hid hbb
  clear hG hB hbb hAl hz
  go_upto_region 5 with (fail)
  generalize (w1.alloc (.cells #[.int .u8 0, .int .u32 1] 24)) = wa at E0 ⊢
  generalize w1.heap.size = qa at E0 hpg hmb ⊢
  clear hpg hmb
  go_wp2_with fail
  go_loopw [4, 5] (fun p n wr => ∃ (k : Nat) (L : List Cw) (va : Option Addr) (vc : Nat) (vv : List Dt) (pa : Option Addr) (pc : Nat), 1 ≤ k ∧ k ≤ 10 ∧ n = .int .u64 (k : Int) ∧ p = .slice pa (chP k).length pc ∧ Hid (Ch37 w wr pg mb w0 b L va vc vv k pa pc qa)) (fun _ n _ => 10 - (intOf n).toNat)
  case atStart => exact ⟨1, [], va, vc, [], none, 0, by omega, by omega, rfl, rfl, E0⟩
  case round =>
    obtain ⟨k, L, va', vc', vv, pa, pc, hk1, hk, rfl, rfl, E⟩ := hrel
    clear E0
    by_cases hk9 : k < 10
    · have x0 : decide ((k : Int) < 10) = true := decide_eq_true (by omega)
      have a0 := cells_at E.out.act
      have az := heap_lt E.out.act
      go_upto_region 10 with (fail)
      clear a0 az
      have hA0 := (Below.refl wr.heap.size wr).alloc (Nat.le_refl _) (.cells #[.int .u8 0, .int .u32 1, .int .u64 (k : Int)] 49)
      have E1 := Lib.hid (E.out.below hA0)
      have D1 := Lib.hid (heap_new wr (.cells #[.int .u8 0, .int .u32 1, .int .u64 (k : Int)] 49 (0, 0)))
      clear hA0
      generalize (wr.alloc (.cells #[.int .u8 0, .int .u32 1, .int .u64 (k : Int)] 49)) = wd at E1 D1 ⊢
      have hp := heap_lt E.out.gr.blk
      have hm := E.out.gr.map.lt
      have hq := heap_lt E.out.act
      generalize wr.heap.size = db at D1 hp hm hq ⊢
      have d0 := cells_at D1.out
      have dz := heap_lt D1.out
      have hA1 : Below wd.heap.size wd ((wd.alloc (.cells #[.int .u8 0, .int .u32 1, .int .u64 (k : Int)] 49)).alloc (.cells #[.string ⟨#[97]⟩] 9)) := ((Below.refl _ _).alloc (Nat.le_refl _) _).alloc (by simp) _
      have E2 := Lib.hid (E1.out.below hA1)
      have D2 := Lib.hid ((hA1.block _ dz).trans D1.out)
      have hvv : Vec ((wd.alloc (.cells #[.int .u8 0, .int .u32 1, .int .u64 (k : Int)] 49)).alloc (.cells #[.string ⟨#[97]⟩] 9)) (some ⟨wd.heap.size, 0, none⟩) 1 [chD k] := Sl.blk (n := 1) (size := 3) (C := #[.int .u8 0, .int .u32 1, .int .u64 (k : Int)]) ((heap_old _ _ (by simp)).trans (heap_new _ _)) rfl (by decide)
      have hpt : Strs ((wd.alloc (.cells #[.int .u8 0, .int .u32 1, .int .u64 (k : Int)] 49)).alloc (.cells #[.string ⟨#[97]⟩] 9)) (some ⟨wd.heap.size + 1, 0, none⟩) 1 [⟨#[97]⟩] := Sl.blk (n := 1) (size := 1) (C := #[.string ⟨#[97]⟩]) (heap_new2 _ _ _) rfl (by decide)
      have HC : Hid (CwAt ((wd.alloc (.cells #[.int .u8 0, .int .u32 1, .int .u64 (k : Int)] 49)).alloc (.cells #[.string ⟨#[97]⟩] 9)) ⟨chC k, pa, pc, some ⟨wd.heap.size, 0, none⟩, 1, some ⟨wd.heap.size + 1, 0, none⟩, 1, none, 0⟩) := Lib.hid ⟨E2.out.ps, hvv, hpt, Sl.nil _ _, chC_ok hk1 (by omega)⟩
      clear hvv hpt hA1 E1 D1
      clear E
      have hz : insE b.b.f (findC (cms L)) L.length (chC k) = 0 := by
        have h1 := congrArg List.length E2.out.l
        rw [chL_len] at h1
        simp [cms] at h1
        rw [Hbb.out, E2.out.l, h1]
        have h2 := ins_ch (k := k - 1) (by omega)
        rwa [show k - 1 + 1 = k by omega] at h2
      have Hz := Lib.hid hz
      clear hz
      go_wp2_with fail
      refine (insert_G pg mb w0 0 b L va' vc' vv ⟨chC k, pa, pc, some ⟨wd.heap.size, 0, none⟩, 1, some ⟨wd.heap.size + 1, 0, none⟩, 1, none, 0⟩ _ E2.out.gr HC.out (by show [chD k].length ≤ 1100000; simp)).mono ?_
      intro e w5 hto
      have hd5 := hto.keep D2.out (by omega) (by omega)
      have ha5 := hto.keep E2.out.act E2.out.ne.1 E2.out.ne.2
      obtain ⟨rfl, hi⟩ := hto
      rcases hi with ⟨h0, _⟩ | ⟨_, u, va2, vc2, hu, hG, hC⟩
      · exact absurd Hz.out h0
      rw [Hz.out]
      have hB5 : Below w.heap.size w w5 := E2.out.bel.trans (hC.below E2.out.bel.size (fun x hx => by have h1 := E2.out.lo; have h2 := E2.out.gr.old; simp at hx; rcases hx with rfl | rfl <;> omega))
      have hl5 : cms (L ++ [u]) = chL (k + 1 - 1) := by
        rw [show k + 1 - 1 = (k - 1) + 1 by omega, chL_succ, ← E2.out.l, show k - 1 + 1 = k by omega]
        simp [cms, hu]
      have hA6 := (Below.refl w5.heap.size w5).alloc (Nat.le_refl _) (.cells #[.int .u8 0, .int .u32 1, .int .u64 (k : Int)] 49)
      have hps : Vec (w5.alloc (.cells #[.int .u8 0, .int .u32 1, .int .u64 (k : Int)] 49)) (some ⟨w5.heap.size, 0, none⟩) 1 (chP (k + 1)) := by
        have e : chP (k + 1) = [chD k] := by unfold chP; rw [if_neg (by omega)]; rfl
        rw [e]
        exact Sl.blk (n := 1) (size := 3) (C := #[.int .u8 0, .int .u32 1, .int .u64 (k : Int)]) (heap_new _ _) rfl (by decide)
      have hpl : (chP (k + 1)).length = 1 := by unfold chP; rw [if_neg (by omega)]; rfl
      have E6 : Hid (Ch37 w (w5.alloc (.cells #[.int .u8 0, .int .u32 1, .int .u64 (k : Int)] 49)) pg mb w0 b (L ++ [u]) va2 vc2 (joinV vv (chC k).vv) (k + 1) (some ⟨w5.heap.size, 0, none⟩) 1 qa) := Lib.hid ⟨hG.below hA6, hl5, hps, (hA6.block _ (heap_lt ha5)).trans ha5, E2.out.ne, E2.out.lo, below2 hB5 hA6 hB5.size⟩
      have Hpl := Lib.hid hpl
      clear hG hC hB5 hl5 hA6 hps hpl ha5 E2 D2 HC Hz d0 dz
      have d0 := cells_at hd5
      have dz := heap_lt hd5
      clear hd5
      go_wp2_with fail
      go_roundw
      case rel => exact ⟨k + 1, L ++ [u], va2, vc2, _, some ⟨w5.heap.size, 0, none⟩, 1, by omega, by omega, by go_num, by rw [Hpl.out], E6⟩
      case measure => simp [intOf]; omega
    · obtain rfl : k = 10 := by omega
      have x0 : decide (((10 : Nat) : Int) < 10) = false := by decide
      go_wp2_with fail
      refine (of37_G _ (cms L) wr (Coms.of E.out.gr)).mono ?_
      rintro e w5 ⟨a, c, S, D, rfl, hp, hs, hD, _, ho, hb⟩
      rw [E.out.l] at hp
      obtain rfl := ch_uniq hp hs
      obtain ⟨s1, s2, h9⟩ := digs_nine moC
      rw [show 10 - 1 = 9 from rfl, h9] at hD
      subst hD
      obtain ⟨gb, rfl⟩ := ho.ptr (by simp)
      have c2 : w5.cell? ⟨gb, 2, none⟩ = some (.int .u64 1) := (World.ownsRow.cellAt (g := gb) ho 2 (by simp)).trans rfl
      have c3 : w5.cell? ⟨gb, 3, none⟩ = some (.int .u64 8) := (World.ownsRow.cellAt (g := gb) ho 3 (by simp)).trans rfl
      have c7 : w5.cell? ⟨gb, 7, none⟩ = some (.int .u64 9) := (World.ownsRow.cellAt (g := gb) ho 7 (by simp)).trans rfl
      have c8 : w5.cell? ⟨gb, 8, none⟩ = some (.int .u64 9) := (World.ownsRow.cellAt (g := gb) ho 8 (by simp)).trans rfl
      have gz := (owns_lt ho gb (by simp [ob])).2
      have B5 := Lib.hid (below2 E.out.bel hb E.out.bel.size)
      clear hp hs ho hb h9 E
      go_wp2_with fail
      go_ret
      exact ⟨rfl, B5.out⟩
end Go.Proofs.YtaandcblndldmaaGreat
