/- Bytes as a string. -/
import Derived.Test.YtblahapjdgncfaaMemD
namespace Go.Proofs.Ytblahapjdgncfaa
open Go.RowKit
set_option linter.unusedVariables false
set_option linter.unusedSimpArgs false
/-- a string of bytes -/
def strOf (bs : List UInt8) : ByteArray := ⟨bs.toArray⟩
theorem strOf_size (bs : List UInt8) : (strOf bs).size = bs.length := by simp [strOf, ByteArray.size]
theorem strOf_toList (bs : List UInt8) : (strOf bs).toList = bs := ByteArray.toList_mk bs
attribute [go_sem] strOf_toList
theorem conv_str {w : World} {a : Option Addr} {n c : Nat} {bs : List UInt8} (h : Sl w 1 a n c (u8s bs)) : (convert 82 9 (.slice a n c)).run Try.prog w = .ok (.string (strOf bs)) w := by
  rw [run_convert_bytes_string w _ _ 5 a n c Try.underlying82 Try.underlying5 Try.underlying9]
  obtain ⟨h1, h2, h3, ⟨rfl, rfl, rfl⟩ | ⟨b, rfl, hx⟩⟩ := h
  · have : bs = [] := by simpa [u8s] using h1
    subst this
    rfl
  · have hlen : n = bs.length := by rw [u8s_length] at h1; omega
    have hl : (loadCells b n).run Try.prog w = .ok ((bs.map fun x => (x.toNat : Int)).map (Value.int .u8)).toArray w := by
      have := run_firstCells_some (P := Try.prog) w 1 n b n c (u8s bs) h1 hx
      simp only [Builtin.firstCells, Nat.mul_one] at this
      rw [this]; simp [u8s, Function.comp_def]
    rw [run_bytesToString w b n c _ hl, foldl_push_bytes]
    congr 2
    simp [strOf]
    have e : ((fun n : Int => UInt8.ofNat n.toNat) ∘ fun x : UInt8 => (x.toNat : Int)) = id := by funext x; simp
    rw [e]; simp
end Go.Proofs.Ytblahapjdgncfaa
