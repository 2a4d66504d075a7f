/- The blocks of the law behind its first loop. Conditions: those that each theorem names, and no others. -/
import Derived.Test.YthooafgfpnedhaaWitn35
namespace Go.Proofs.Ythooafgfpnedhaa.specsWitness
open Go Go.Mini
/-- The law's blocks behind its first loop and the witness. -/
def bsT (D : List Nat) (A L : List Call9) (oR o1 o0 : AObj) : List (Nat × AObj) := [(5, .cells false (nc D)), (4, .cells false (rowsOf callC A)), (3, oR), (2, .cells false (rowsOf callC L)), (1, o1), (0, o0)]
theorem idxD {n i : Nat} (h : i < n) : (Qst.idx 57 (.slice 5 0 n n) (.int .i64 (Int.ofNat i)) (.ptr 5 i)).ok Try.prog := by
  have := idx_slice (P := Try.prog) (b := 5) (o := 0) (cap := n) (kk := .i64) t57 z3 h
  rw [Nat.zero_add, Nat.mul_one] at this
  exact this
section
variable {D : List Nat} {A L : List Call9} {oR o1 o0 : AObj} {n N : Nat}
theorem ldD {i d : Nat} (h : D[i]? = some d) (s : AS) (hs : s.get 5 = some (.cells false (nc D))) : (Qst.ld 3 s (.ptr 5 i) (.int .i64 (Int.ofNat d))).ok Try.prog := ld_cell a3 hs (by simp [nc, h])
theorem ldA {e : Nat} {z : Call9} (h : A[e]? = some z) (s : AS) (hs : s.get 4 = some (.cells false (rowsOf callC A))) : (Qst.ld 56 s (.ptr 4 (e * 9)) (.agg (callC z))).ok Try.prog := ld_row (f := callC) (n := 9) (fun _ => rfl) a56 s56 hs h
end
end Go.Proofs.Ythooafgfpnedhaa.specsWitness
