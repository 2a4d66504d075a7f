/- Lengths and places of rows. Conditions: those that each theorem names, and no others. -/
import Derived.Test.YthooafgfpnedhaaWitn28
namespace Go.Proofs.Ythooafgfpnedhaa.specsWitness
open Go Go.Mini
theorem remq {y n i : Nat} (hn : 0 < n) (h : i = y % n) : (if (Int.ofNat n) = 0 then none else some (AV.int .i64 ((Int.ofNat y).tmod (Int.ofNat n)))) = some (AV.int .i64 (Int.ofNat i)) := by
  rw [if_neg (by simp only [Int.ofNat_eq_natCast]; omega), h]
  rfl
theorem len65 (s : AS) (b n c : Nat) : lenA Try.prog s 65 (.slice b 0 n c) = some (.int .i64 (Int.ofNat n)) := by
  simp only [lenA, show Try.prog.underlying 65 = some (.slice 5) from by kernel_rfl]; rfl
theorem len65n (s : AS) : lenA Try.prog s 65 .nilSlice = some (.int .i64 (Int.ofNat 0)) := by
  simp only [lenA, show Try.prog.underlying 65 = some (.slice 5) from by kernel_rfl]; rfl
theorem idx50 {b n i : Nat} (h : i < n) : (Qst.idx 50 (.osl b 0 n 9) (.int .i64 (Int.ofNat i)) (.ptr b (i * 9))).ok Try.prog := by
  simp only [Qst.ok, indexAddrA, t50, s56]
  simp [h]
theorem s26 : sizeA Try.prog 26 = some 1 := by kernel_rfl
theorem a26 : isAggA Try.prog 26 = some false := by kernel_rfl
end Go.Proofs.Ythooafgfpnedhaa.specsWitness
