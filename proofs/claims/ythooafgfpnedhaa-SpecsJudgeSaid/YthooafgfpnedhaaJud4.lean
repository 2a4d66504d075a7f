/- What the walk of slices.SortStableFunc leans on. Conditions: those that each theorem names, and no others. -/
import Derived.Test.YthooafgfpnedhaaJud3
import Derived.Test.YthooafgfpnedhaaMini3
namespace Go.Proofs.Ythooafgfpnedhaa.specsJudge
open Go Go.Mini
abbrev uu : AV := .tuple [.nilMap]
def T82 (n a b m : Nat) (cf : AV) (i : Nat) : List AV := .osl 2 0 n 1 :: .int .i64 (Int.ofNat a) :: .int .i64 (Int.ofNat b) :: .int .i64 (Int.ofNat m) :: cf :: uu :: uu :: uu :: uu :: uu :: .int .i64 (Int.ofNat i) :: List.replicate 27 uu
def T75 (n a m b : Nat) (cf : AV) (i j : Nat) : List AV := .osl 2 0 n 1 :: .int .i64 (Int.ofNat a) :: .int .i64 (Int.ofNat m) :: .int .i64 (Int.ofNat b) :: cf :: uu :: uu :: uu :: uu :: uu :: .int .i64 (Int.ofNat i) :: .int .i64 (Int.ofNat j) :: List.replicate 46 uu
def T62 (n a b i : Nat) (j : AV) : List AV := .osl 2 0 n 1 :: .int .i64 (Int.ofNat a) :: .int .i64 (Int.ofNat b) :: .func (.func 37) [] [.ptr 1 0] :: uu :: uu :: uu :: uu :: .int .i64 (Int.ofNat i) :: j :: List.replicate 43 uu
def T63 (n a m b : Nat) (t10 t11 t13 t14 t15 t17 t18 t19 t20 t21 t22 : AV) : List AV := .osl 2 0 n 1 :: .int .i64 (Int.ofNat a) :: .int .i64 (Int.ofNat m) :: .int .i64 (Int.ofNat b) :: .func (.func 37) [] [.ptr 1 0] :: uu :: uu :: uu :: uu :: uu :: t10 :: t11 :: uu :: t13 :: t14 :: t15 :: uu :: t17 :: t18 :: t19 :: t20 :: t21 :: t22 :: List.replicate 197 uu
def T56 (n : Nat) (cf w a b : AV) : List AV := .osl 2 0 n 1 :: .int .i64 (Int.ofNat n) :: cf :: uu :: uu :: uu :: w :: a :: b :: List.replicate 54 uu
end Go.Proofs.Ythooafgfpnedhaa.specsJudge
