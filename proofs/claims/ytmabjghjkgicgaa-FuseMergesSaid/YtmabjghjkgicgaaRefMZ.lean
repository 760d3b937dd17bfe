/- varveref06.Merge: contract. -/
import Derived.Test.YtmabjghjkgicgaaRefMC
import Derived.Test.YtmabjghjkgicgaaRefMD
import Derived.Test.YtmabjghjkgicgaaRefMG
import Derived.Test.YtmabjghjkgicgaaRefMH
import Derived.Test.YtmabjghjkgicgaaRefME
import Derived.Test.YtmabjghjkgicgaaRefMF
namespace Go.Proofs.Ytmabjghjkgicgaa
open Go.RowKit
set_option linter.unusedVariables false
set_option linter.unusedSimpArgs false

theorem rmerge_any (l a b : Lf) (la lt ia ta ja ua : Option Addr) (lc ld ic tc jc uc : Nat) (w : World) (hl : LfAt w l la lc lt ld) (ha : LfAt w a ia ic ta tc) (hb : LfAt w b ja jc ua uc) (hol : okL l) (hoa : okL a) (hob : okL b)
    (hla : a.items.length ≤ 400000) (hlb : b.items.length ≤ 400000) (hta : a.tombs.length ≤ 400000) (htb : b.tombs.length ≤ 400000) :
    Calls Try.prog 18 #[lval l la lc lt ld, lval a ia ic ta tc, lval b ja jc ua uc] w (RMergeTo w l a b) := by
  by_cases h1 : AllMay l a b
  · by_cases h2 : l.k = a.k ∧ l.k = b.k
    · rcases h1.1.kind with hk | hk | hk | hk
      · exact rmerge_counter l a b la lt ia ta ja ua lc ld ic tc jc uc w hl ha hb hol hoa hob h1 hk (h2.1 ▸ hk) (h2.2 ▸ hk) hla hlb hta htb
      · by_cases t0 : b.t = 0
        · by_cases t1 : a.t = 0
          · exact rmerge_reg0 l a b la lt ia ta ja ua lc ld ic tc jc uc w hl ha hb hol hoa hob h1 hk (h2.1 ▸ hk) (h2.2 ▸ hk) hla hlb hta htb t0 t1
          · exact rmerge_reg1 l a b la lt ia ta ja ua lc ld ic tc jc uc w hl ha hb hol hoa hob h1 hk (h2.1 ▸ hk) (h2.2 ▸ hk) hla hlb hta htb t0 t1
        · by_cases t1 : a.t = 0
          · exact rmerge_reg2 l a b la lt ia ta ja ua lc ld ic tc jc uc w hl ha hb hol hoa hob h1 hk (h2.1 ▸ hk) (h2.2 ▸ hk) hla hlb hta htb t0 t1
          · cases hh : aheadT b.t b.d a.t a.d with
            | true => exact rmerge_reg3 l a b la lt ia ta ja ua lc ld ic tc jc uc w hl ha hb hol hoa hob h1 hk (h2.1 ▸ hk) (h2.2 ▸ hk) hla hlb hta htb t0 t1 hh
            | false => exact rmerge_reg4 l a b la lt ia ta ja ua lc ld ic tc jc uc w hl ha hb hol hoa hob h1 hk (h2.1 ▸ hk) (h2.2 ▸ hk) hla hlb hta htb t0 t1 hh
      · exact rmerge_set l a b la lt ia ta ja ua lc ld ic tc jc uc w hl ha hb hol hoa hob h1 hk (h2.1 ▸ hk) (h2.2 ▸ hk) hla hlb hta htb
      · exact rmerge_log l a b la lt ia ta ja ua lc ld ic tc jc uc w hl ha hb hol hoa hob h1 hk (h2.1 ▸ hk) (h2.2 ▸ hk) hla hlb hta htb
    · exact rmerge_bad l a b la lt ia ta ja ua lc ld ic tc jc uc w hl ha hb hol hoa hob (.inr h2)
  · exact rmerge_bad l a b la lt ia ta ja ua lc ld ic tc jc uc w hl ha hb hol hoa hob (.inl h1)
end Go.Proofs.Ytmabjghjkgicgaa
