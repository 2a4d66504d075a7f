/- The words of the program, taken apart and put together; phases. Conditions: those that each theorem names, and no others. -/
import Derived.Test.YtcnfblibfndepaaGreatDoorMini3
import Derived.Test.YtcnfblibfndepaaGreatDoorChecked
namespace Go.Proofs.YtcnfblibfndepaaGreatDoor.ctlsCover
open Go Go.Mini
theorem mixed : Tryz.prog.follows .mixedOrders = true := by kernel_rfl
def none_ : Go.Mini.Task → Option Res := fun _ => none
theorem none_sound : ∀ t r, none_ t = some r → Sound Tryz.prog t r := fun _ _ h => by cases h

theorem u64_wrap {x : Int} (h0 : 0 ≤ x) (h1 : x < 18446744073709551616) : IntKind.u64.wrap x = x := by
  simp [IntKind.wrap, IntKind.bits, IntKind.signed]; omega
theorem i64_wrap {x : Int} (h0 : -9223372036854775808 ≤ x) (h1 : x < 9223372036854775808) : IntKind.i64.wrap x = x := by
  simp [IntKind.wrap, IntKind.bits, IntKind.signed]; omega

/-! ### ref01.bit -/
structure SB (i : Nat) where
  w : Nat
  k : Nat
  a : AV
  hw : w < 18446744073709551616
  hk : k ≤ i
/-! ### ref01.Field -/
def fld (w fr n : Nat) : Nat := w / 2 ^ fr % 2 ^ n
structure SF (w fr to : Nat) where
  j : Nat
  out : Nat
  a : AV
  hf : fr ≤ j
  hj : j ≤ to + 1
  ho : out = fld w j (to + 1 - j)
theorem pow_le64 {n : Nat} (h : n ≤ 63) : 2 ^ n ≤ 9223372036854775808 := Nat.pow_le_pow_right (n := 2) (by omega) h
theorem bits64 : IntKind.u64.bits = 64 := rfl
theorem nat64 : ((2 : Int) ^ IntKind.u64.bits).natAbs = 18446744073709551616 := by decide
theorem nat8 : ((2 : Int) ^ IntKind.u8.bits).natAbs = 256 := by decide
theorem mask_and (x k : Nat) (hx : x < 18446744073709551616) (hk : k ≤ 64) : (BitVec.ofInt 64 (Int.ofNat x) &&& BitVec.ofInt 64 (Int.ofNat (2 ^ k - 1))).toNat = x % 2 ^ k := by
  have hp : 2 ^ k ≤ 2 ^ 64 := Nat.pow_le_pow_right (by omega) hk
  have h1 : (BitVec.ofInt 64 (Int.ofNat x)).toNat = x := by
    simp only [Int.ofNat_eq_natCast, BitVec.ofInt_natCast, BitVec.toNat_ofNat]
    exact Nat.mod_eq_of_lt hx
  have h2 : (BitVec.ofInt 64 (Int.ofNat (2 ^ k - 1))).toNat = 2 ^ k - 1 := by
    simp only [Int.ofNat_eq_natCast, BitVec.ofInt_natCast, BitVec.toNat_ofNat]
    refine Nat.mod_eq_of_lt ?_
    have : 0 < 2 ^ k := Nat.pow_pos (by omega)
    omega
  rw [BitVec.toNat_and, h1, h2]
  exact Nat.and_two_pow_sub_one_eq_mod x k
theorem shr_mask (w a k : Nat) (hw : w < 18446744073709551616) (ha : a ≤ 64) (hk : k < 64) :
    (BitVec.ofInt IntKind.u64.bits ((Int.ofNat w).fdiv (2 ^ min (Int.toNat (Int.ofNat a)) IntKind.u64.bits)) &&& BitVec.ofInt IntKind.u64.bits (IntKind.u64.wrap (IntKind.u64.wrap (1 * 2 ^ min (Int.toNat (Int.ofNat k)) IntKind.u64.bits) - 1))).toNat = w / 2 ^ a % 2 ^ k := by
  have e1 : (Int.ofNat w).fdiv (2 ^ min (Int.toNat (Int.ofNat a)) IntKind.u64.bits) = Int.ofNat (w / 2 ^ a) := by
    rw [bits64, show min (Int.toNat (Int.ofNat a)) 64 = a from by simp only [Int.ofNat_eq_natCast, Int.toNat_natCast]; omega, Int.fdiv_eq_ediv_of_nonneg _ (Int.pow_nonneg (by omega))]
    simp
  have hp : 2 ^ k < 2 ^ 64 := Nat.pow_lt_pow_right (by omega) hk
  have hp0 : 0 < 2 ^ k := Nat.pow_pos (by omega)
  have e2 : IntKind.u64.wrap (IntKind.u64.wrap (1 * 2 ^ min (Int.toNat (Int.ofNat k)) IntKind.u64.bits) - 1) = Int.ofNat (2 ^ k - 1) := by
    rw [bits64, show min (Int.toNat (Int.ofNat k)) 64 = k from by simp only [Int.ofNat_eq_natCast, Int.toNat_natCast]; omega]
    have h3 : (1 : Int) * 2 ^ k = Int.ofNat (2 ^ k) := by simp
    rw [h3, u64_wrap (x := Int.ofNat (2 ^ k)) (by simp only [Int.ofNat_eq_natCast]; omega) (by simp only [Int.ofNat_eq_natCast]; omega),
      u64_wrap (x := Int.ofNat (2 ^ k) - 1) (by simp only [Int.ofNat_eq_natCast]; omega) (by simp only [Int.ofNat_eq_natCast]; omega)]
    simp only [Int.ofNat_eq_natCast]
    omega
  have hd : w / 2 ^ a < 18446744073709551616 := Nat.lt_of_le_of_lt (Nat.div_le_self _ _) hw
  rw [e1, e2]
  exact mask_and _ k hd (by omega)

theorem or_nat (x y : Nat) (hx : x < 18446744073709551616) (hy : y < 18446744073709551616) : (BitVec.ofInt 64 (Int.ofNat x) ||| BitVec.ofInt 64 (Int.ofNat y)).toNat = x ||| y := by
  have h1 : ∀ z : Nat, z < 18446744073709551616 → (BitVec.ofInt 64 (Int.ofNat z)).toNat = z := by
    intro z hz
    simp only [Int.ofNat_eq_natCast, BitVec.ofInt_natCast, BitVec.toNat_ofNat]
    exact Nat.mod_eq_of_lt hz
  rw [BitVec.toNat_or, h1 x hx, h1 y hy]
theorem maskK (k : Nat) (hk : k < 64) : IntKind.u64.wrap (IntKind.u64.wrap (1 * 2 ^ min (Int.toNat (Int.ofNat k)) IntKind.u64.bits) - 1) = Int.ofNat (2 ^ k - 1) := by
  have hp : 2 ^ k < 2 ^ 64 := Nat.pow_lt_pow_right (by omega) hk
  have hp0 : 0 < 2 ^ k := Nat.pow_pos (by omega)
  rw [bits64, show min (Int.toNat (Int.ofNat k)) 64 = k from by simp only [Int.ofNat_eq_natCast, Int.toNat_natCast]; omega]
  have h3 : (1 : Int) * 2 ^ k = Int.ofNat (2 ^ k) := by simp
  rw [h3, u64_wrap (x := Int.ofNat (2 ^ k)) (by simp only [Int.ofNat_eq_natCast]; omega) (by simp only [Int.ofNat_eq_natCast]; omega),
    u64_wrap (x := Int.ofNat (2 ^ k) - 1) (by simp only [Int.ofNat_eq_natCast]; omega) (by simp only [Int.ofNat_eq_natCast]; omega)]
  simp only [Int.ofNat_eq_natCast]
  omega
theorem and_maskK (x k : Nat) (hx : x < 18446744073709551616) (hk : k < 64) :
    (BitVec.ofInt IntKind.u64.bits (Int.ofNat x) &&& BitVec.ofInt IntKind.u64.bits (IntKind.u64.wrap (IntKind.u64.wrap (1 * 2 ^ min (Int.toNat (Int.ofNat k)) IntKind.u64.bits) - 1))).toNat = x % 2 ^ k := by
  rw [maskK k hk]
  exact mask_and x k hx (by omega)
end Go.Proofs.YtcnfblibfndepaaGreatDoor.ctlsCover
namespace Go.Proofs.YtcnfblibfndepaaGreatDoor.ctlsCover
open Go Go.Mini
/-! ### ref01.Put -/
/-! ### AsPhase, Phase -/
def wfW : List AV := [0,16,16,32,16,48,0,3,3,32,0,3,3,3,6,3,16,48,0,32,32,1].map (AV.int .u64)
def wfB : List AV := [0,1,2,6].map (AV.int .i64)
def wfP : List AV := [.int .u8 1, .bool false, .int .u8 0, .int .u8 3, .bool true, .int .u8 2, .int .u8 3, .bool false, .int .u8 3, .int .u8 2, .bool true, .int .u8 0]
def GW : List (Nat × List AV) := [(0, wfW)]
theorem wph_y (a : Nat) : runX Tryz.prog none_ 50 36 (.call 36 [.int .u8 (Int.ofNat a)] (startS Tryz.prog [])) [.val 36 1 1 (.bool true)] = some ({ e := AExit.ret, ts := [AV.int IntKind.u8 (Int.ofNat 0)], s := { h := { bs := [], len := 0, esc := none, wr := [] }, nx := 3 } }, [], [Qst.val (some (AV.bool (decide (Int.ofNat a > 3)))) (AV.bool true)]) := by kernel_rfl
theorem wph_n (a : Nat) : runX Tryz.prog none_ 50 36 (.call 36 [.int .u8 (Int.ofNat a)] (startS Tryz.prog [])) [.val 36 1 1 (.bool false)] = some ({ e := AExit.ret, ts := [AV.int IntKind.u8 (Int.ofNat a)], s := { h := { bs := [], len := 0, esc := none, wr := [] }, nx := 3 } }, [], [Qst.val (some (AV.bool (decide (Int.ofNat a > 3)))) (AV.bool false)]) := by kernel_rfl
theorem asph_run (w a z b c n : Nat) : runX Tryz.prog none_ 50 27 (.call 27 [.int .u64 (Int.ofNat w)] (startS Tryz.prog GW)) [.val 51 1 9 (.int .u8 (Int.ofNat a)), .call 27 1 2 (.int .u8 (Int.ofNat z)) id, .val 52 1 9 (.int .u8 (Int.ofNat b)), .val 52 1 9 (.int .u8 (Int.ofNat c)), .val 53 1 8 (.int .u64 (Int.ofNat n))] = some ({ e := AExit.ret, ts := [AV.agg [AV.int IntKind.u8 (Int.ofNat z), AV.int IntKind.u8 (Int.ofNat b), AV.int IntKind.u8 (Int.ofNat c), AV.int IntKind.u64 (Int.ofNat n)]], s := { h := { bs := [(0, AObj.cells true wfW)], len := 1, esc := none, wr := [] }, nx := 4 } }, [], [Qst.val (some (AV.int IntKind.u8 (Int.ofNat ((match BinOp.and with | BinOp.and => BitVec.ofInt IntKind.u64.bits ((Int.ofNat w).fdiv (2 ^ min (Int.toNat 0) IntKind.u64.bits)) &&& BitVec.ofInt IntKind.u64.bits (IntKind.u64.wrap (IntKind.u64.wrap (1 * 2 ^ min (Int.toNat 3) IntKind.u64.bits) - 1)) | BinOp.or => BitVec.ofInt IntKind.u64.bits ((Int.ofNat w).fdiv (2 ^ min (Int.toNat 0) IntKind.u64.bits)) ||| BitVec.ofInt IntKind.u64.bits (IntKind.u64.wrap (IntKind.u64.wrap (1 * 2 ^ min (Int.toNat 3) IntKind.u64.bits) - 1)) | BinOp.xor => BitVec.ofInt IntKind.u64.bits ((Int.ofNat w).fdiv (2 ^ min (Int.toNat 0) IntKind.u64.bits)) ^^^ BitVec.ofInt IntKind.u64.bits (IntKind.u64.wrap (IntKind.u64.wrap (1 * 2 ^ min (Int.toNat 3) IntKind.u64.bits) - 1)) | _ => BitVec.ofInt IntKind.u64.bits ((Int.ofNat w).fdiv (2 ^ min (Int.toNat 0) IntKind.u64.bits)) &&& ~~~BitVec.ofInt IntKind.u64.bits (IntKind.u64.wrap (IntKind.u64.wrap (1 * 2 ^ min (Int.toNat 3) IntKind.u64.bits) - 1))).toNat % ((2 : Int) ^ IntKind.u64.bits).natAbs % ((2 : Int) ^ IntKind.u8.bits).natAbs)))) (AV.int IntKind.u8 (Int.ofNat a)), Qst.snd (Task.call 36 [AV.int IntKind.u8 (Int.ofNat a)] { h := { bs := [(3, AObj.cells false [AV.int IntKind.u8 (Int.ofNat 0), AV.int IntKind.u8 (Int.ofNat 0), AV.int IntKind.u8 (Int.ofNat 0), AV.int IntKind.u64 (Int.ofNat 0)]), (0, AObj.cells true wfW)], len := 2, esc := none, wr := [] }, nx := 4 }) { e := AExit.ret, ts := [AV.int IntKind.u8 (Int.ofNat z)], s := { h := { bs := [(3, AObj.cells false [AV.int IntKind.u8 (Int.ofNat 0), AV.int IntKind.u8 (Int.ofNat 0), AV.int IntKind.u8 (Int.ofNat 0), AV.int IntKind.u64 (Int.ofNat 0)]), (0, AObj.cells true wfW)], len := 2, esc := none, wr := [] }, nx := 4 } }, Qst.val (some (AV.int IntKind.u8 (Int.ofNat ((match BinOp.and with | BinOp.and => BitVec.ofInt IntKind.u64.bits ((Int.ofNat w).fdiv (2 ^ min (Int.toNat 3) IntKind.u64.bits)) &&& BitVec.ofInt IntKind.u64.bits (IntKind.u64.wrap (IntKind.u64.wrap (1 * 2 ^ min (Int.toNat 3) IntKind.u64.bits) - 1)) | BinOp.or => BitVec.ofInt IntKind.u64.bits ((Int.ofNat w).fdiv (2 ^ min (Int.toNat 3) IntKind.u64.bits)) ||| BitVec.ofInt IntKind.u64.bits (IntKind.u64.wrap (IntKind.u64.wrap (1 * 2 ^ min (Int.toNat 3) IntKind.u64.bits) - 1)) | BinOp.xor => BitVec.ofInt IntKind.u64.bits ((Int.ofNat w).fdiv (2 ^ min (Int.toNat 3) IntKind.u64.bits)) ^^^ BitVec.ofInt IntKind.u64.bits (IntKind.u64.wrap (IntKind.u64.wrap (1 * 2 ^ min (Int.toNat 3) IntKind.u64.bits) - 1)) | _ => BitVec.ofInt IntKind.u64.bits ((Int.ofNat w).fdiv (2 ^ min (Int.toNat 3) IntKind.u64.bits)) &&& ~~~BitVec.ofInt IntKind.u64.bits (IntKind.u64.wrap (IntKind.u64.wrap (1 * 2 ^ min (Int.toNat 3) IntKind.u64.bits) - 1))).toNat % ((2 : Int) ^ IntKind.u64.bits).natAbs % ((2 : Int) ^ IntKind.u8.bits).natAbs)))) (AV.int IntKind.u8 (Int.ofNat b)), Qst.val (some (AV.int IntKind.u8 (Int.ofNat ((match BinOp.and with | BinOp.and => BitVec.ofInt IntKind.u64.bits ((Int.ofNat w).fdiv (2 ^ min (Int.toNat 6) IntKind.u64.bits)) &&& BitVec.ofInt IntKind.u64.bits (IntKind.u64.wrap (IntKind.u64.wrap (1 * 2 ^ min (Int.toNat 3) IntKind.u64.bits) - 1)) | BinOp.or => BitVec.ofInt IntKind.u64.bits ((Int.ofNat w).fdiv (2 ^ min (Int.toNat 6) IntKind.u64.bits)) ||| BitVec.ofInt IntKind.u64.bits (IntKind.u64.wrap (IntKind.u64.wrap (1 * 2 ^ min (Int.toNat 3) IntKind.u64.bits) - 1)) | BinOp.xor => BitVec.ofInt IntKind.u64.bits ((Int.ofNat w).fdiv (2 ^ min (Int.toNat 6) IntKind.u64.bits)) ^^^ BitVec.ofInt IntKind.u64.bits (IntKind.u64.wrap (IntKind.u64.wrap (1 * 2 ^ min (Int.toNat 3) IntKind.u64.bits) - 1)) | _ => BitVec.ofInt IntKind.u64.bits ((Int.ofNat w).fdiv (2 ^ min (Int.toNat 6) IntKind.u64.bits)) &&& ~~~BitVec.ofInt IntKind.u64.bits (IntKind.u64.wrap (IntKind.u64.wrap (1 * 2 ^ min (Int.toNat 3) IntKind.u64.bits) - 1))).toNat % ((2 : Int) ^ IntKind.u64.bits).natAbs % ((2 : Int) ^ IntKind.u8.bits).natAbs)))) (AV.int IntKind.u8 (Int.ofNat c)), Qst.val (some (AV.int IntKind.u64 (Int.ofNat ((match BinOp.and with | BinOp.and => BitVec.ofInt IntKind.u64.bits ((Int.ofNat w).fdiv (2 ^ min (Int.toNat 16) IntKind.u64.bits)) &&& BitVec.ofInt IntKind.u64.bits (IntKind.u64.wrap (IntKind.u64.wrap (1 * 2 ^ min (Int.toNat 48) IntKind.u64.bits) - 1)) | BinOp.or => BitVec.ofInt IntKind.u64.bits ((Int.ofNat w).fdiv (2 ^ min (Int.toNat 16) IntKind.u64.bits)) ||| BitVec.ofInt IntKind.u64.bits (IntKind.u64.wrap (IntKind.u64.wrap (1 * 2 ^ min (Int.toNat 48) IntKind.u64.bits) - 1)) | BinOp.xor => BitVec.ofInt IntKind.u64.bits ((Int.ofNat w).fdiv (2 ^ min (Int.toNat 16) IntKind.u64.bits)) ^^^ BitVec.ofInt IntKind.u64.bits (IntKind.u64.wrap (IntKind.u64.wrap (1 * 2 ^ min (Int.toNat 48) IntKind.u64.bits) - 1)) | _ => BitVec.ofInt IntKind.u64.bits ((Int.ofNat w).fdiv (2 ^ min (Int.toNat 16) IntKind.u64.bits)) &&& ~~~BitVec.ofInt IntKind.u64.bits (IntKind.u64.wrap (IntKind.u64.wrap (1 * 2 ^ min (Int.toNat 48) IntKind.u64.bits) - 1))).toNat % ((2 : Int) ^ IntKind.u64.bits).natAbs)))) (AV.int IntKind.u64 (Int.ofNat n))]) := by kernel_rfl
def phC (a b c n : Nat) : List AV := [.int .u8 (Int.ofNat a), .int .u8 (Int.ofNat b), .int .u8 (Int.ofNat c), .int .u64 (Int.ofNat n)]
theorem phase_run (a b c n z b' c' n' b2 c2 n2 w1 w2 w3 : Nat) : runX Tryz.prog none_ 50 18 (.call 18 [.agg (phC a b c n)] (startS Tryz.prog GW)) [.call 18 1 2 (.int .u8 (Int.ofNat z)) id, .val 35 1 2 (.int .u64 (Int.ofNat z)), .val 35 1 5 (.int .u64 (Int.ofNat z)), .val 35 1 10 (.int .u64 (Int.ofNat z)), .val 35 1 11 (.int .u64 (Int.ofNat z)),
  .val 38 1 2 (.int .u64 (Int.ofNat b)), .val 38 1 5 (.int .u64 (Int.ofNat b')), .val 38 1 10 (.int .u64 (Int.ofNat b2)), .val 38 1 11 (.int .u64 (Int.ofNat w1)),
  .val 38 1 2 (.int .u64 (Int.ofNat c)), .val 38 1 5 (.int .u64 (Int.ofNat c')), .val 38 1 10 (.int .u64 (Int.ofNat c2)), .val 38 1 11 (.int .u64 (Int.ofNat w2)),
  .val 37 1 4 (.int .u64 (Int.ofNat n')), .val 37 1 9 (.int .u64 (Int.ofNat n2)), .val 37 1 10 (.int .u64 (Int.ofNat w3))] = some ({ e := AExit.ret, ts := [AV.int IntKind.u64 (Int.ofNat w3)], s := { h := { bs := [(0, AObj.cells true wfW)], len := 1, esc := none, wr := [] }, nx := 4 } }, [], [Qst.snd (Task.call 36 [AV.int IntKind.u8 (Int.ofNat a)] { h := { bs := [(3, AObj.cells false [AV.int IntKind.u8 (Int.ofNat a), AV.int IntKind.u8 (Int.ofNat b), AV.int IntKind.u8 (Int.ofNat c), AV.int IntKind.u64 (Int.ofNat n)]), (0, AObj.cells true wfW)], len := 2, esc := none, wr := [] }, nx := 4 }) { e := AExit.ret, ts := [AV.int IntKind.u8 (Int.ofNat z)], s := { h := { bs := [(3, AObj.cells false [AV.int IntKind.u8 (Int.ofNat a), AV.int IntKind.u8 (Int.ofNat b), AV.int IntKind.u8 (Int.ofNat c), AV.int IntKind.u64 (Int.ofNat n)]), (0, AObj.cells true wfW)], len := 2, esc := none, wr := [] }, nx := 4 } }, Qst.val (some (AV.int IntKind.u64 (Int.ofNat (z % ((2 : Int) ^ IntKind.u64.bits).natAbs)))) (AV.int IntKind.u64 (Int.ofNat z)), Qst.val (some (AV.int IntKind.u64 (Int.ofNat ((match BinOp.and with | BinOp.and => BitVec.ofInt IntKind.u64.bits (Int.ofNat z) &&& BitVec.ofInt IntKind.u64.bits (IntKind.u64.wrap (IntKind.u64.wrap (1 * 2 ^ min (Int.toNat 3) IntKind.u64.bits) - 1)) | BinOp.or => BitVec.ofInt IntKind.u64.bits (Int.ofNat z) ||| BitVec.ofInt IntKind.u64.bits (IntKind.u64.wrap (IntKind.u64.wrap (1 * 2 ^ min (Int.toNat 3) IntKind.u64.bits) - 1)) | BinOp.xor => BitVec.ofInt IntKind.u64.bits (Int.ofNat z) ^^^ BitVec.ofInt IntKind.u64.bits (IntKind.u64.wrap (IntKind.u64.wrap (1 * 2 ^ min (Int.toNat 3) IntKind.u64.bits) - 1)) | _ => BitVec.ofInt IntKind.u64.bits (Int.ofNat z) &&& ~~~BitVec.ofInt IntKind.u64.bits (IntKind.u64.wrap (IntKind.u64.wrap (1 * 2 ^ min (Int.toNat 3) IntKind.u64.bits) - 1))).toNat % ((2 : Int) ^ IntKind.u64.bits).natAbs)))) (AV.int IntKind.u64 (Int.ofNat z)), Qst.val (some (AV.int IntKind.u64 (Int.ofNat (z * 2 ^ min (Int.toNat 0) IntKind.u64.bits % ((2 : Int) ^ IntKind.u64.bits).natAbs)))) (AV.int IntKind.u64 (Int.ofNat z)), Qst.val (some (AV.int IntKind.u64 (Int.ofNat ((match BinOp.or with | BinOp.and => BitVec.ofInt IntKind.u64.bits 0 &&& BitVec.ofInt IntKind.u64.bits (Int.ofNat z) | BinOp.or => BitVec.ofInt IntKind.u64.bits 0 ||| BitVec.ofInt IntKind.u64.bits (Int.ofNat z) | BinOp.xor => BitVec.ofInt IntKind.u64.bits 0 ^^^ BitVec.ofInt IntKind.u64.bits (Int.ofNat z) | _ => BitVec.ofInt IntKind.u64.bits 0 &&& ~~~BitVec.ofInt IntKind.u64.bits (Int.ofNat z)).toNat % ((2 : Int) ^ IntKind.u64.bits).natAbs)))) (AV.int IntKind.u64 (Int.ofNat z)), Qst.val (some (AV.int IntKind.u64 (Int.ofNat (b % ((2 : Int) ^ IntKind.u64.bits).natAbs)))) (AV.int IntKind.u64 (Int.ofNat b)), Qst.val (some (AV.int IntKind.u64 (Int.ofNat ((match BinOp.and with | BinOp.and => BitVec.ofInt IntKind.u64.bits (Int.ofNat b) &&& BitVec.ofInt IntKind.u64.bits (IntKind.u64.wrap (IntKind.u64.wrap (1 * 2 ^ min (Int.toNat 3) IntKind.u64.bits) - 1)) | BinOp.or => BitVec.ofInt IntKind.u64.bits (Int.ofNat b) ||| BitVec.ofInt IntKind.u64.bits (IntKind.u64.wrap (IntKind.u64.wrap (1 * 2 ^ min (Int.toNat 3) IntKind.u64.bits) - 1)) | BinOp.xor => BitVec.ofInt IntKind.u64.bits (Int.ofNat b) ^^^ BitVec.ofInt IntKind.u64.bits (IntKind.u64.wrap (IntKind.u64.wrap (1 * 2 ^ min (Int.toNat 3) IntKind.u64.bits) - 1)) | _ => BitVec.ofInt IntKind.u64.bits (Int.ofNat b) &&& ~~~BitVec.ofInt IntKind.u64.bits (IntKind.u64.wrap (IntKind.u64.wrap (1 * 2 ^ min (Int.toNat 3) IntKind.u64.bits) - 1))).toNat % ((2 : Int) ^ IntKind.u64.bits).natAbs)))) (AV.int IntKind.u64 (Int.ofNat b')), Qst.val (some (AV.int IntKind.u64 (Int.ofNat (b' * 2 ^ min (Int.toNat 3) IntKind.u64.bits % ((2 : Int) ^ IntKind.u64.bits).natAbs)))) (AV.int IntKind.u64 (Int.ofNat b2)), Qst.val (some (AV.int IntKind.u64 (Int.ofNat ((match BinOp.or with | BinOp.and => BitVec.ofInt IntKind.u64.bits (Int.ofNat z) &&& BitVec.ofInt IntKind.u64.bits (Int.ofNat b2) | BinOp.or => BitVec.ofInt IntKind.u64.bits (Int.ofNat z) ||| BitVec.ofInt IntKind.u64.bits (Int.ofNat b2) | BinOp.xor => BitVec.ofInt IntKind.u64.bits (Int.ofNat z) ^^^ BitVec.ofInt IntKind.u64.bits (Int.ofNat b2) | _ => BitVec.ofInt IntKind.u64.bits (Int.ofNat z) &&& ~~~BitVec.ofInt IntKind.u64.bits (Int.ofNat b2)).toNat % ((2 : Int) ^ IntKind.u64.bits).natAbs)))) (AV.int IntKind.u64 (Int.ofNat w1)), Qst.val (some (AV.int IntKind.u64 (Int.ofNat (c % ((2 : Int) ^ IntKind.u64.bits).natAbs)))) (AV.int IntKind.u64 (Int.ofNat c)), Qst.val (some (AV.int IntKind.u64 (Int.ofNat ((match BinOp.and with | BinOp.and => BitVec.ofInt IntKind.u64.bits (Int.ofNat c) &&& BitVec.ofInt IntKind.u64.bits (IntKind.u64.wrap (IntKind.u64.wrap (1 * 2 ^ min (Int.toNat 3) IntKind.u64.bits) - 1)) | BinOp.or => BitVec.ofInt IntKind.u64.bits (Int.ofNat c) ||| BitVec.ofInt IntKind.u64.bits (IntKind.u64.wrap (IntKind.u64.wrap (1 * 2 ^ min (Int.toNat 3) IntKind.u64.bits) - 1)) | BinOp.xor => BitVec.ofInt IntKind.u64.bits (Int.ofNat c) ^^^ BitVec.ofInt IntKind.u64.bits (IntKind.u64.wrap (IntKind.u64.wrap (1 * 2 ^ min (Int.toNat 3) IntKind.u64.bits) - 1)) | _ => BitVec.ofInt IntKind.u64.bits (Int.ofNat c) &&& ~~~BitVec.ofInt IntKind.u64.bits (IntKind.u64.wrap (IntKind.u64.wrap (1 * 2 ^ min (Int.toNat 3) IntKind.u64.bits) - 1))).toNat % ((2 : Int) ^ IntKind.u64.bits).natAbs)))) (AV.int IntKind.u64 (Int.ofNat c')), Qst.val (some (AV.int IntKind.u64 (Int.ofNat (c' * 2 ^ min (Int.toNat 6) IntKind.u64.bits % ((2 : Int) ^ IntKind.u64.bits).natAbs)))) (AV.int IntKind.u64 (Int.ofNat c2)), Qst.val (some (AV.int IntKind.u64 (Int.ofNat ((match BinOp.or with | BinOp.and => BitVec.ofInt IntKind.u64.bits (Int.ofNat w1) &&& BitVec.ofInt IntKind.u64.bits (Int.ofNat c2) | BinOp.or => BitVec.ofInt IntKind.u64.bits (Int.ofNat w1) ||| BitVec.ofInt IntKind.u64.bits (Int.ofNat c2) | BinOp.xor => BitVec.ofInt IntKind.u64.bits (Int.ofNat w1) ^^^ BitVec.ofInt IntKind.u64.bits (Int.ofNat c2) | _ => BitVec.ofInt IntKind.u64.bits (Int.ofNat w1) &&& ~~~BitVec.ofInt IntKind.u64.bits (Int.ofNat c2)).toNat % ((2 : Int) ^ IntKind.u64.bits).natAbs)))) (AV.int IntKind.u64 (Int.ofNat w2)), Qst.val (some (AV.int IntKind.u64 (Int.ofNat ((match BinOp.and with | BinOp.and => BitVec.ofInt IntKind.u64.bits (Int.ofNat n) &&& BitVec.ofInt IntKind.u64.bits (IntKind.u64.wrap (IntKind.u64.wrap (1 * 2 ^ min (Int.toNat 48) IntKind.u64.bits) - 1)) | BinOp.or => BitVec.ofInt IntKind.u64.bits (Int.ofNat n) ||| BitVec.ofInt IntKind.u64.bits (IntKind.u64.wrap (IntKind.u64.wrap (1 * 2 ^ min (Int.toNat 48) IntKind.u64.bits) - 1)) | BinOp.xor => BitVec.ofInt IntKind.u64.bits (Int.ofNat n) ^^^ BitVec.ofInt IntKind.u64.bits (IntKind.u64.wrap (IntKind.u64.wrap (1 * 2 ^ min (Int.toNat 48) IntKind.u64.bits) - 1)) | _ => BitVec.ofInt IntKind.u64.bits (Int.ofNat n) &&& ~~~BitVec.ofInt IntKind.u64.bits (IntKind.u64.wrap (IntKind.u64.wrap (1 * 2 ^ min (Int.toNat 48) IntKind.u64.bits) - 1))).toNat % ((2 : Int) ^ IntKind.u64.bits).natAbs)))) (AV.int IntKind.u64 (Int.ofNat n')), Qst.val (some (AV.int IntKind.u64 (Int.ofNat (n' * 2 ^ min (Int.toNat 16) IntKind.u64.bits % ((2 : Int) ^ IntKind.u64.bits).natAbs)))) (AV.int IntKind.u64 (Int.ofNat n2)), Qst.val (some (AV.int IntKind.u64 (Int.ofNat ((match BinOp.or with | BinOp.and => BitVec.ofInt IntKind.u64.bits (Int.ofNat w2) &&& BitVec.ofInt IntKind.u64.bits (Int.ofNat n2) | BinOp.or => BitVec.ofInt IntKind.u64.bits (Int.ofNat w2) ||| BitVec.ofInt IntKind.u64.bits (Int.ofNat n2) | BinOp.xor => BitVec.ofInt IntKind.u64.bits (Int.ofNat w2) ^^^ BitVec.ofInt IntKind.u64.bits (Int.ofNat n2) | _ => BitVec.ofInt IntKind.u64.bits (Int.ofNat w2) &&& ~~~BitVec.ofInt IntKind.u64.bits (Int.ofNat n2)).toNat % ((2 : Int) ^ IntKind.u64.bits).natAbs)))) (AV.int IntKind.u64 (Int.ofNat w3))]) := by kernel_rfl
end Go.Proofs.YtcnfblibfndepaaGreatDoor.ctlsCover
namespace Go.Proofs.YtcnfblibfndepaaGreatDoor.ctlsCover
open Go Go.Mini
/-! ### numbers -/
theorem w_and (x k : Nat) (hx : x < 18446744073709551616) (hk : k < 64) : some (AV.int IntKind.u64 (Int.ofNat ((BitVec.ofInt IntKind.u64.bits (Int.ofNat x) &&& BitVec.ofInt IntKind.u64.bits (IntKind.u64.wrap (IntKind.u64.wrap (1 * 2 ^ min (Int.toNat (Int.ofNat k)) IntKind.u64.bits) - 1))).toNat % ((2 : Int) ^ IntKind.u64.bits).natAbs))) = some (AV.int .u64 (Int.ofNat (x % 2 ^ k))) := by
  rw [and_maskK x k hx hk, nat64, Nat.mod_eq_of_lt (Nat.lt_of_le_of_lt (Nat.mod_le _ _) hx)]
theorem w_shl (x k : Nat) (hk : k ≤ 64) (hx : x * 2 ^ k < 18446744073709551616) : some (AV.int IntKind.u64 (Int.ofNat (x * 2 ^ min (Int.toNat (Int.ofNat k)) IntKind.u64.bits % ((2 : Int) ^ IntKind.u64.bits).natAbs))) = some (AV.int .u64 (Int.ofNat (x * 2 ^ k))) := by
  rw [nat64, bits64, show min (Int.toNat (Int.ofNat k)) 64 = k from by simp only [Int.ofNat_eq_natCast, Int.toNat_natCast]; omega, Nat.mod_eq_of_lt hx]
theorem w_or (x y k : Nat) (hx : x < 2 ^ k) (hk : k ≤ 63) (hy : y * 2 ^ k < 18446744073709551616) : some (AV.int IntKind.u64 (Int.ofNat ((BitVec.ofInt IntKind.u64.bits (Int.ofNat x) ||| BitVec.ofInt IntKind.u64.bits (Int.ofNat (y * 2 ^ k))).toNat % ((2 : Int) ^ IntKind.u64.bits).natAbs))) = some (AV.int .u64 (Int.ofNat (x + 2 ^ k * y))) := by
  have h1 := pow_le64 hk
  have e : x ||| y * 2 ^ k = x + 2 ^ k * y := by
    rw [Nat.or_comm, Nat.mul_comm y, ← Nat.two_pow_add_eq_or_of_lt hx y, Nat.add_comm]
  have hlt : x + 2 ^ k * y < 18446744073709551616 := by
    rw [← e]
    have := Nat.or_lt_two_pow (n := 64) (x := x) (y := y * 2 ^ k) (by omega) hy
    exact this
  rw [nat64, bits64, or_nat x (y * 2 ^ k) (by omega) hy, e, Nat.mod_eq_of_lt hlt]
theorem w_conv (k : IntKind) (x m : Nat) (hm : ((2 : Int) ^ k.bits).natAbs = m) (hx : x < m) : some (AV.int k (Int.ofNat (x % ((2 : Int) ^ k.bits).natAbs))) = some (AV.int k (Int.ofNat x)) := by
  rw [hm, Nat.mod_eq_of_lt hx]
theorem w_take (w a k : Nat) (hw : w < 18446744073709551616) (ha : a ≤ 64) (hk : k < 64) (kd : IntKind) (m : Nat) (hm : ((2 : Int) ^ kd.bits).natAbs = m) (hx : 2 ^ k ≤ m) : some (AV.int kd (Int.ofNat ((BitVec.ofInt IntKind.u64.bits ((Int.ofNat w).fdiv (2 ^ min (Int.toNat (Int.ofNat a)) IntKind.u64.bits)) &&& BitVec.ofInt IntKind.u64.bits (IntKind.u64.wrap (IntKind.u64.wrap (1 * 2 ^ min (Int.toNat (Int.ofNat k)) IntKind.u64.bits) - 1))).toNat % ((2 : Int) ^ IntKind.u64.bits).natAbs % ((2 : Int) ^ kd.bits).natAbs))) = some (AV.int kd (Int.ofNat (w / 2 ^ a % 2 ^ k))) := by
  have h0 : 0 < 2 ^ k := Nat.pow_pos (by omega)
  have h1 := Nat.mod_lt (w / 2 ^ a) h0
  have h2 := pow_le64 (n := k) (by omega)
  rw [shr_mask w a k hw ha hk, nat64, hm, Nat.mod_eq_of_lt (by omega), Nat.mod_eq_of_lt (by omega)]
theorem w_take64 (w a k : Nat) (hw : w < 18446744073709551616) (ha : a ≤ 64) (hk : k < 64) : some (AV.int .u64 (Int.ofNat ((BitVec.ofInt IntKind.u64.bits ((Int.ofNat w).fdiv (2 ^ min (Int.toNat (Int.ofNat a)) IntKind.u64.bits)) &&& BitVec.ofInt IntKind.u64.bits (IntKind.u64.wrap (IntKind.u64.wrap (1 * 2 ^ min (Int.toNat (Int.ofNat k)) IntKind.u64.bits) - 1))).toNat % ((2 : Int) ^ IntKind.u64.bits).natAbs))) = some (AV.int .u64 (Int.ofNat (w / 2 ^ a % 2 ^ k))) := by
  have h0 : 0 < 2 ^ k := Nat.pow_pos (by omega)
  have h1 := Nat.mod_lt (w / 2 ^ a) h0
  have h2 := pow_le64 (n := k) (by omega)
  rw [shr_mask w a k hw ha hk, nat64, Nat.mod_eq_of_lt (by omega)]
/-! ### Put -/
theorem i64_of {n : Nat} (h : n < 9223372036854775808) : some (AV.int .i64 (IntKind.i64.wrap (Int.ofNat n))) = some (AV.int .i64 (Int.ofNat n)) := by
  rw [i64_wrap (by simp only [Int.ofNat_eq_natCast]; omega) (by simp only [Int.ofNat_eq_natCast]; omega)]
/-! ### AsPhase, Phase -/
def cz (a : Nat) : Nat := if 3 < a then 0 else a
theorem wph_call (a : Nat) (s : AS) : Sound Tryz.prog (.call 36 [.int .u8 (Int.ofNat a)] s) ⟨.ret, [.int .u8 (Int.ofNat (cz a))], s⟩ := by
  unfold cz
  by_cases h : 3 < a
  · rw [if_pos h]
    exact Sound.pure (G := []) (runX_sound mixed none_sound (wph_y a) ⟨by simp [Qst.ok]; omega, trivial⟩) rfl rfl rfl rfl
  · rw [if_neg h]
    exact Sound.pure (G := []) (runX_sound mixed none_sound (wph_n a) ⟨by simp [Qst.ok]; omega, trivial⟩) rfl rfl rfl rfl
def asp (w : Nat) : AV := .agg (phC (cz (w % 8)) (w / 8 % 8) (w / 64 % 8) (w / 65536 % 281474976710656))
def ofp (a b c n : Nat) : Nat := cz a + 8 * (b % 8) + 64 * (c % 8) + 65536 * (n % 281474976710656)
theorem asp_call (w : Nat) (hw : w < 18446744073709551616) (s : AS) (hG : hasG s GW = true) : Sound Tryz.prog (.call 27 [.int .u64 (Int.ofNat w)] s) ⟨.ret, [asp w], s⟩ := by
  have h1 := w_take w 0 3 hw (by omega) (by omega) .u8 256 nat8 (by omega)
  have h2 := w_take w 3 3 hw (by omega) (by omega) .u8 256 nat8 (by omega)
  have h3 := w_take w 6 3 hw (by omega) (by omega) .u8 256 nat8 (by omega)
  have h4 := w_take64 w 16 48 hw (by omega) (by omega)
  rw [show w / 2 ^ 0 % 2 ^ 3 = w % 8 from by simp] at h1
  exact Sound.pure (G := GW) (runX_sound mixed none_sound (asph_run w (w % 8) (cz (w % 8)) (w / 8 % 8) (w / 64 % 8) (w / 65536 % 281474976710656)) ⟨h1, wph_call _ _, h2, h3, h4, trivial⟩) (by kernel_rfl) rfl rfl hG
theorem cz_lt (a : Nat) : cz a ≤ 3 := by unfold cz; split <;> omega
theorem ph_call (a b c n : Nat) (hb : b < 256) (hc : c < 256) (hn : n < 18446744073709551616) (s : AS) (hG : hasG s GW = true) : Sound Tryz.prog (.call 18 [.agg (phC a b c n)] s) ⟨.ret, [.int .u64 (Int.ofNat (ofp a b c n))], s⟩ := by
  have hz := cz_lt a
  have e0 : some (AV.int .u64 (Int.ofNat (cz a % 2 ^ 3))) = some (AV.int .u64 (Int.ofNat (cz a))) := by rw [show cz a % 2 ^ 3 = cz a from by omega]
  have e1 : some (AV.int .u64 (Int.ofNat (cz a * 2 ^ 0))) = some (AV.int .u64 (Int.ofNat (cz a))) := by rw [Nat.pow_zero, Nat.mul_one]
  have e2 : some (AV.int .u64 (Int.ofNat (0 + 2 ^ 0 * cz a))) = some (AV.int .u64 (Int.ofNat (cz a))) := by rw [Nat.pow_zero, Nat.one_mul, Nat.zero_add]
  have q2 := w_or 0 (cz a) 0 (by omega) (by omega) (by omega)
  rw [Nat.pow_zero, Nat.mul_one, Nat.one_mul, Nat.zero_add] at q2
  refine Sound.pure (G := GW) (runX_sound mixed none_sound (phase_run a b c n (cz a) (b % 2 ^ 3) (c % 2 ^ 3) (n % 2 ^ 48) (b % 2 ^ 3 * 2 ^ 3) (c % 2 ^ 3 * 2 ^ 6) (n % 2 ^ 48 * 2 ^ 16) (cz a + 2 ^ 3 * (b % 2 ^ 3)) (cz a + 2 ^ 3 * (b % 2 ^ 3) + 2 ^ 6 * (c % 2 ^ 3)) (ofp a b c n)) ⟨wph_call _ _, w_conv .u64 _ _ nat64 (by omega), (w_and _ 3 (by omega) (by omega)).trans e0, (w_shl _ 0 (by omega) (by omega)).trans e1, q2,
    w_conv .u64 _ _ nat64 (by omega), w_and _ 3 (by omega) (by omega), w_shl _ 3 (by omega) (by omega), w_or _ _ 3 (by omega) (by omega) (by omega),
    w_conv .u64 _ _ nat64 (by omega), w_and _ 3 (by omega) (by omega), w_shl _ 6 (by omega) (by omega), w_or _ _ 6 (by omega) (by omega) (by omega),
    w_and _ 48 hn (by omega), w_shl _ 16 (by omega) (by omega), ?_, trivial⟩) (by kernel_rfl) rfl rfl hG
  refine (w_or _ _ 16 (by omega) (by omega) (by omega)).trans ?_
  unfold ofp
  rw [show cz a + 2 ^ 3 * (b % 2 ^ 3) + 2 ^ 6 * (c % 2 ^ 3) + 2 ^ 16 * (n % 2 ^ 48) = cz a + 8 * (b % 8) + 64 * (c % 8) + 65536 * (n % 281474976710656) from by omega]
end Go.Proofs.YtcnfblibfndepaaGreatDoor.ctlsCover
namespace Go.Proofs.YtcnfblibfndepaaGreatDoor.ctlsCover
open Go Go.Mini
/-! ### phases, of both -/
def sg (s : Nat) : Bool := decide (s = 1) || decide (s = 2) || decide (s = 4)
def mayP (a b c : Nat) : Bool := sg b && (if a = 0 then decide (c = 0) else sg c && decide (c ≠ b))
def mo (n : Nat) : Nat := (n + 1) % 281474976710656
def nextP (a b c n : Nat) : List AV := if mayP a b c = true ∧ a ≠ 0 then (if a = 1 then phC 2 b c (mo n) else if a = 2 then phC 3 b c (mo n) else phC 0 c 0 (mo n)) else phC 0 0 0 0
def begP (a b c n t : Nat) : List AV × Nat := if (mayP a b c && sg t) = false then (phC 0 0 0 0, 1) else if a ≠ 0 then (phC 0 0 0 0, 7) else if t = b then (phC 0 0 0 0, 8) else (phC 1 b t (mo n), 0)
def GP : List (Nat × List AV) := [(2, wfP)]
theorem sgl_0  : runX Tryz.prog none_ 60 32 (.call 32 [.int .u8 (Int.ofNat 0)] (startS Tryz.prog [])) [] = some ({ e := AExit.ret, ts := [AV.bool false], s := { h := { bs := [], len := 0, esc := none, wr := [] }, nx := 3 } }, [], []) := by kernel_rfl
theorem sgl_1  : runX Tryz.prog none_ 60 32 (.call 32 [.int .u8 (Int.ofNat 1)] (startS Tryz.prog [])) [] = some ({ e := AExit.ret, ts := [AV.bool true], s := { h := { bs := [], len := 0, esc := none, wr := [] }, nx := 3 } }, [], []) := by kernel_rfl
theorem sgl_2  : runX Tryz.prog none_ 60 32 (.call 32 [.int .u8 (Int.ofNat 2)] (startS Tryz.prog [])) [] = some ({ e := AExit.ret, ts := [AV.bool true], s := { h := { bs := [], len := 0, esc := none, wr := [] }, nx := 3 } }, [], []) := by kernel_rfl
theorem sgl_3  : runX Tryz.prog none_ 60 32 (.call 32 [.int .u8 (Int.ofNat 3)] (startS Tryz.prog [])) [] = some ({ e := AExit.ret, ts := [AV.bool false], s := { h := { bs := [], len := 0, esc := none, wr := [] }, nx := 3 } }, [], []) := by kernel_rfl
theorem sgl_4  : runX Tryz.prog none_ 60 32 (.call 32 [.int .u8 (Int.ofNat 4)] (startS Tryz.prog [])) [] = some ({ e := AExit.ret, ts := [AV.bool true], s := { h := { bs := [], len := 0, esc := none, wr := [] }, nx := 3 } }, [], []) := by kernel_rfl
theorem sgl_n (s : Nat) : runX Tryz.prog none_ 60 32 (.call 32 [.int .u8 (Int.ofNat s)] (startS Tryz.prog [])) [.val 32 1 1 (.bool false)] = some ({ e := AExit.ret, ts := [AV.bool false], s := { h := { bs := [], len := 0, esc := none, wr := [] }, nx := 3 } }, [], [Qst.val (some (AV.bool (decide (Int.ofNat s ≤ 4)))) (AV.bool false)]) := by kernel_rfl
theorem may0_o (b c n : Nat) : runX Tryz.prog none_ 60 15 (.call 15 [.agg (phC 0 b c n)] (startS Tryz.prog [])) [.pure 15 1 2 [] (.bool false)] = some ({ e := AExit.ret, ts := [AV.bool false], s := { h := { bs := [], len := 0, esc := none, wr := [] }, nx := 4 } }, [], [Qst.pure [] 32 [AV.int IntKind.u8 (Int.ofNat b)] (AV.bool false)]) := by kernel_rfl
theorem may0_0 (b c n : Nat) : runX Tryz.prog none_ 60 15 (.call 15 [.agg (phC 0 b c n)] (startS Tryz.prog [])) [.pure 15 1 2 [] (.bool true), .val 15 4 2 (.bool false)] = some ({ e := AExit.ret, ts := [AV.bool false], s := { h := { bs := [], len := 0, esc := none, wr := [] }, nx := 4 } }, [], [Qst.pure [] 32 [AV.int IntKind.u8 (Int.ofNat b)] (AV.bool true), Qst.val (some (AV.bool (Int.ofNat c == Int.ofNat 0))) (AV.bool false)]) := by kernel_rfl
theorem may0_1 (b c n : Nat) : runX Tryz.prog none_ 60 15 (.call 15 [.agg (phC 0 b c n)] (startS Tryz.prog [])) [.pure 15 1 2 [] (.bool true), .val 15 4 2 (.bool true)] = some ({ e := AExit.ret, ts := [AV.bool true], s := { h := { bs := [], len := 0, esc := none, wr := [] }, nx := 4 } }, [], [Qst.pure [] 32 [AV.int IntKind.u8 (Int.ofNat b)] (AV.bool true), Qst.val (some (AV.bool (Int.ofNat c == Int.ofNat 0))) (AV.bool true)]) := by kernel_rfl
theorem nx0_n (b c n : Nat) : runX Tryz.prog none_ 60 82 (.call 82 [.agg (phC 0 b c n)] (startS Tryz.prog GP)) [.pure 82 1 1 [] (.bool false)] = some ({ e := AExit.ret, ts := [AV.tuple [AV.agg [AV.int IntKind.u8 (Int.ofNat 0), AV.int IntKind.u8 (Int.ofNat 0), AV.int IntKind.u8 (Int.ofNat 0), AV.int IntKind.u64 (Int.ofNat 0)], AV.bool false]], s := { h := { bs := [(2, AObj.cells true wfP)], len := 1, esc := none, wr := [] }, nx := 5 } }, [], [Qst.pure [] 15 [AV.agg [AV.int IntKind.u8 (Int.ofNat 0), AV.int IntKind.u8 (Int.ofNat b), AV.int IntKind.u8 (Int.ofNat c), AV.int IntKind.u64 (Int.ofNat n)]] (AV.bool false)]) := by kernel_rfl
theorem nx0_y (b c n : Nat) : runX Tryz.prog none_ 60 82 (.call 82 [.agg (phC 0 b c n)] (startS Tryz.prog GP)) [.pure 82 1 1 [] (.bool true)] = some ({ e := AExit.ret, ts := [AV.tuple [AV.agg [AV.int IntKind.u8 (Int.ofNat 0), AV.int IntKind.u8 (Int.ofNat 0), AV.int IntKind.u8 (Int.ofNat 0), AV.int IntKind.u64 (Int.ofNat 0)], AV.bool false]], s := { h := { bs := [(2, AObj.cells true wfP)], len := 1, esc := none, wr := [] }, nx := 5 } }, [], [Qst.pure [] 15 [AV.agg [AV.int IntKind.u8 (Int.ofNat 0), AV.int IntKind.u8 (Int.ofNat b), AV.int IntKind.u8 (Int.ofNat c), AV.int IntKind.u64 (Int.ofNat n)]] (AV.bool true)]) := by kernel_rfl
theorem may1_o (b c n : Nat) : runX Tryz.prog none_ 60 15 (.call 15 [.agg (phC 1 b c n)] (startS Tryz.prog [])) [.pure 15 1 2 [] (.bool false)] = some ({ e := AExit.ret, ts := [AV.bool false], s := { h := { bs := [], len := 0, esc := none, wr := [] }, nx := 4 } }, [], [Qst.pure [] 32 [AV.int IntKind.u8 (Int.ofNat b)] (AV.bool false)]) := by kernel_rfl
theorem may1_c (b c n : Nat) : runX Tryz.prog none_ 60 15 (.call 15 [.agg (phC 1 b c n)] (startS Tryz.prog [])) [.pure 15 1 2 [] (.bool true), .pure 15 5 2 [] (.bool false)] = some ({ e := AExit.ret, ts := [AV.bool false], s := { h := { bs := [], len := 0, esc := none, wr := [] }, nx := 4 } }, [], [Qst.pure [] 32 [AV.int IntKind.u8 (Int.ofNat b)] (AV.bool true), Qst.pure [] 32 [AV.int IntKind.u8 (Int.ofNat c)] (AV.bool false)]) := by kernel_rfl
theorem may1_0 (b c n : Nat) : runX Tryz.prog none_ 60 15 (.call 15 [.agg (phC 1 b c n)] (startS Tryz.prog [])) [.pure 15 1 2 [] (.bool true), .pure 15 5 2 [] (.bool true), .val 15 5 8 (.bool false)] = some ({ e := AExit.ret, ts := [AV.bool false], s := { h := { bs := [], len := 0, esc := none, wr := [] }, nx := 4 } }, [], [Qst.pure [] 32 [AV.int IntKind.u8 (Int.ofNat b)] (AV.bool true), Qst.pure [] 32 [AV.int IntKind.u8 (Int.ofNat c)] (AV.bool true), Qst.val (some (AV.bool (Int.ofNat c != Int.ofNat b))) (AV.bool false)]) := by kernel_rfl
theorem may1_1 (b c n : Nat) : runX Tryz.prog none_ 60 15 (.call 15 [.agg (phC 1 b c n)] (startS Tryz.prog [])) [.pure 15 1 2 [] (.bool true), .pure 15 5 2 [] (.bool true), .val 15 5 8 (.bool true)] = some ({ e := AExit.ret, ts := [AV.bool true], s := { h := { bs := [], len := 0, esc := none, wr := [] }, nx := 4 } }, [], [Qst.pure [] 32 [AV.int IntKind.u8 (Int.ofNat b)] (AV.bool true), Qst.pure [] 32 [AV.int IntKind.u8 (Int.ofNat c)] (AV.bool true), Qst.val (some (AV.bool (Int.ofNat c != Int.ofNat b))) (AV.bool true)]) := by kernel_rfl
theorem nx1_n (b c n : Nat) : runX Tryz.prog none_ 60 82 (.call 82 [.agg (phC 1 b c n)] (startS Tryz.prog GP)) [.pure 82 1 1 [] (.bool false)] = some ({ e := AExit.ret, ts := [AV.tuple [AV.agg [AV.int IntKind.u8 (Int.ofNat 0), AV.int IntKind.u8 (Int.ofNat 0), AV.int IntKind.u8 (Int.ofNat 0), AV.int IntKind.u64 (Int.ofNat 0)], AV.bool false]], s := { h := { bs := [(2, AObj.cells true wfP)], len := 1, esc := none, wr := [] }, nx := 5 } }, [], [Qst.pure [] 15 [AV.agg [AV.int IntKind.u8 (Int.ofNat 1), AV.int IntKind.u8 (Int.ofNat b), AV.int IntKind.u8 (Int.ofNat c), AV.int IntKind.u64 (Int.ofNat n)]] (AV.bool false)]) := by kernel_rfl
theorem nx1_y (b c n : Nat) : runX Tryz.prog none_ 60 82 (.call 82 [.agg (phC 1 b c n)] (startS Tryz.prog GP)) [.pure 82 1 1 [] (.bool true), .val 82 6 2 (.int .u64 (Int.ofNat (n + 1))), .val 82 6 3 (.int .u64 (Int.ofNat (mo n)))] = some ({ e := AExit.ret, ts := [AV.tuple [AV.agg [AV.int IntKind.u8 (Int.ofNat 2), AV.int IntKind.u8 (Int.ofNat b), AV.int IntKind.u8 (Int.ofNat c), AV.int IntKind.u64 (Int.ofNat (mo n))], AV.bool true]], s := { h := { bs := [(2, AObj.cells true wfP)], len := 1, esc := none, wr := [] }, nx := 7 } }, [], [Qst.pure [] 15 [AV.agg [AV.int IntKind.u8 (Int.ofNat 1), AV.int IntKind.u8 (Int.ofNat b), AV.int IntKind.u8 (Int.ofNat c), AV.int IntKind.u64 (Int.ofNat n)]] (AV.bool true), Qst.val (some (AV.int IntKind.u64 (Int.ofNat ((n + 1) % ((2 : Int) ^ IntKind.u64.bits).natAbs)))) (AV.int IntKind.u64 (Int.ofNat (n + 1))), Qst.val (some (AV.int IntKind.u64 (Int.ofNat ((n + 1) % 281474976710656)))) (AV.int IntKind.u64 (Int.ofNat (mo n)))]) := by kernel_rfl
theorem may2_o (b c n : Nat) : runX Tryz.prog none_ 60 15 (.call 15 [.agg (phC 2 b c n)] (startS Tryz.prog [])) [.pure 15 1 2 [] (.bool false)] = some ({ e := AExit.ret, ts := [AV.bool false], s := { h := { bs := [], len := 0, esc := none, wr := [] }, nx := 4 } }, [], [Qst.pure [] 32 [AV.int IntKind.u8 (Int.ofNat b)] (AV.bool false)]) := by kernel_rfl
theorem may2_c (b c n : Nat) : runX Tryz.prog none_ 60 15 (.call 15 [.agg (phC 2 b c n)] (startS Tryz.prog [])) [.pure 15 1 2 [] (.bool true), .pure 15 5 2 [] (.bool false)] = some ({ e := AExit.ret, ts := [AV.bool false], s := { h := { bs := [], len := 0, esc := none, wr := [] }, nx := 4 } }, [], [Qst.pure [] 32 [AV.int IntKind.u8 (Int.ofNat b)] (AV.bool true), Qst.pure [] 32 [AV.int IntKind.u8 (Int.ofNat c)] (AV.bool false)]) := by kernel_rfl
theorem may2_0 (b c n : Nat) : runX Tryz.prog none_ 60 15 (.call 15 [.agg (phC 2 b c n)] (startS Tryz.prog [])) [.pure 15 1 2 [] (.bool true), .pure 15 5 2 [] (.bool true), .val 15 5 8 (.bool false)] = some ({ e := AExit.ret, ts := [AV.bool false], s := { h := { bs := [], len := 0, esc := none, wr := [] }, nx := 4 } }, [], [Qst.pure [] 32 [AV.int IntKind.u8 (Int.ofNat b)] (AV.bool true), Qst.pure [] 32 [AV.int IntKind.u8 (Int.ofNat c)] (AV.bool true), Qst.val (some (AV.bool (Int.ofNat c != Int.ofNat b))) (AV.bool false)]) := by kernel_rfl
theorem may2_1 (b c n : Nat) : runX Tryz.prog none_ 60 15 (.call 15 [.agg (phC 2 b c n)] (startS Tryz.prog [])) [.pure 15 1 2 [] (.bool true), .pure 15 5 2 [] (.bool true), .val 15 5 8 (.bool true)] = some ({ e := AExit.ret, ts := [AV.bool true], s := { h := { bs := [], len := 0, esc := none, wr := [] }, nx := 4 } }, [], [Qst.pure [] 32 [AV.int IntKind.u8 (Int.ofNat b)] (AV.bool true), Qst.pure [] 32 [AV.int IntKind.u8 (Int.ofNat c)] (AV.bool true), Qst.val (some (AV.bool (Int.ofNat c != Int.ofNat b))) (AV.bool true)]) := by kernel_rfl
theorem nx2_n (b c n : Nat) : runX Tryz.prog none_ 60 82 (.call 82 [.agg (phC 2 b c n)] (startS Tryz.prog GP)) [.pure 82 1 1 [] (.bool false)] = some ({ e := AExit.ret, ts := [AV.tuple [AV.agg [AV.int IntKind.u8 (Int.ofNat 0), AV.int IntKind.u8 (Int.ofNat 0), AV.int IntKind.u8 (Int.ofNat 0), AV.int IntKind.u64 (Int.ofNat 0)], AV.bool false]], s := { h := { bs := [(2, AObj.cells true wfP)], len := 1, esc := none, wr := [] }, nx := 5 } }, [], [Qst.pure [] 15 [AV.agg [AV.int IntKind.u8 (Int.ofNat 2), AV.int IntKind.u8 (Int.ofNat b), AV.int IntKind.u8 (Int.ofNat c), AV.int IntKind.u64 (Int.ofNat n)]] (AV.bool false)]) := by kernel_rfl
theorem nx2_y (b c n : Nat) : runX Tryz.prog none_ 60 82 (.call 82 [.agg (phC 2 b c n)] (startS Tryz.prog GP)) [.pure 82 1 1 [] (.bool true), .val 82 6 2 (.int .u64 (Int.ofNat (n + 1))), .val 82 6 3 (.int .u64 (Int.ofNat (mo n)))] = some ({ e := AExit.ret, ts := [AV.tuple [AV.agg [AV.int IntKind.u8 (Int.ofNat 3), AV.int IntKind.u8 (Int.ofNat b), AV.int IntKind.u8 (Int.ofNat c), AV.int IntKind.u64 (Int.ofNat (mo n))], AV.bool true]], s := { h := { bs := [(2, AObj.cells true wfP)], len := 1, esc := none, wr := [] }, nx := 7 } }, [], [Qst.pure [] 15 [AV.agg [AV.int IntKind.u8 (Int.ofNat 2), AV.int IntKind.u8 (Int.ofNat b), AV.int IntKind.u8 (Int.ofNat c), AV.int IntKind.u64 (Int.ofNat n)]] (AV.bool true), Qst.val (some (AV.int IntKind.u64 (Int.ofNat ((n + 1) % ((2 : Int) ^ IntKind.u64.bits).natAbs)))) (AV.int IntKind.u64 (Int.ofNat (n + 1))), Qst.val (some (AV.int IntKind.u64 (Int.ofNat ((n + 1) % 281474976710656)))) (AV.int IntKind.u64 (Int.ofNat (mo n)))]) := by kernel_rfl
theorem may3_o (b c n : Nat) : runX Tryz.prog none_ 60 15 (.call 15 [.agg (phC 3 b c n)] (startS Tryz.prog [])) [.pure 15 1 2 [] (.bool false)] = some ({ e := AExit.ret, ts := [AV.bool false], s := { h := { bs := [], len := 0, esc := none, wr := [] }, nx := 4 } }, [], [Qst.pure [] 32 [AV.int IntKind.u8 (Int.ofNat b)] (AV.bool false)]) := by kernel_rfl
theorem may3_c (b c n : Nat) : runX Tryz.prog none_ 60 15 (.call 15 [.agg (phC 3 b c n)] (startS Tryz.prog [])) [.pure 15 1 2 [] (.bool true), .pure 15 5 2 [] (.bool false)] = some ({ e := AExit.ret, ts := [AV.bool false], s := { h := { bs := [], len := 0, esc := none, wr := [] }, nx := 4 } }, [], [Qst.pure [] 32 [AV.int IntKind.u8 (Int.ofNat b)] (AV.bool true), Qst.pure [] 32 [AV.int IntKind.u8 (Int.ofNat c)] (AV.bool false)]) := by kernel_rfl
theorem may3_0 (b c n : Nat) : runX Tryz.prog none_ 60 15 (.call 15 [.agg (phC 3 b c n)] (startS Tryz.prog [])) [.pure 15 1 2 [] (.bool true), .pure 15 5 2 [] (.bool true), .val 15 5 8 (.bool false)] = some ({ e := AExit.ret, ts := [AV.bool false], s := { h := { bs := [], len := 0, esc := none, wr := [] }, nx := 4 } }, [], [Qst.pure [] 32 [AV.int IntKind.u8 (Int.ofNat b)] (AV.bool true), Qst.pure [] 32 [AV.int IntKind.u8 (Int.ofNat c)] (AV.bool true), Qst.val (some (AV.bool (Int.ofNat c != Int.ofNat b))) (AV.bool false)]) := by kernel_rfl
theorem may3_1 (b c n : Nat) : runX Tryz.prog none_ 60 15 (.call 15 [.agg (phC 3 b c n)] (startS Tryz.prog [])) [.pure 15 1 2 [] (.bool true), .pure 15 5 2 [] (.bool true), .val 15 5 8 (.bool true)] = some ({ e := AExit.ret, ts := [AV.bool true], s := { h := { bs := [], len := 0, esc := none, wr := [] }, nx := 4 } }, [], [Qst.pure [] 32 [AV.int IntKind.u8 (Int.ofNat b)] (AV.bool true), Qst.pure [] 32 [AV.int IntKind.u8 (Int.ofNat c)] (AV.bool true), Qst.val (some (AV.bool (Int.ofNat c != Int.ofNat b))) (AV.bool true)]) := by kernel_rfl
theorem nx3_n (b c n : Nat) : runX Tryz.prog none_ 60 82 (.call 82 [.agg (phC 3 b c n)] (startS Tryz.prog GP)) [.pure 82 1 1 [] (.bool false)] = some ({ e := AExit.ret, ts := [AV.tuple [AV.agg [AV.int IntKind.u8 (Int.ofNat 0), AV.int IntKind.u8 (Int.ofNat 0), AV.int IntKind.u8 (Int.ofNat 0), AV.int IntKind.u64 (Int.ofNat 0)], AV.bool false]], s := { h := { bs := [(2, AObj.cells true wfP)], len := 1, esc := none, wr := [] }, nx := 5 } }, [], [Qst.pure [] 15 [AV.agg [AV.int IntKind.u8 (Int.ofNat 3), AV.int IntKind.u8 (Int.ofNat b), AV.int IntKind.u8 (Int.ofNat c), AV.int IntKind.u64 (Int.ofNat n)]] (AV.bool false)]) := by kernel_rfl
theorem nx3_y (b c n : Nat) : runX Tryz.prog none_ 60 82 (.call 82 [.agg (phC 3 b c n)] (startS Tryz.prog GP)) [.pure 82 1 1 [] (.bool true), .val 82 6 2 (.int .u64 (Int.ofNat (n + 1))), .val 82 6 3 (.int .u64 (Int.ofNat (mo n)))] = some ({ e := AExit.ret, ts := [AV.tuple [AV.agg [AV.int IntKind.u8 (Int.ofNat 0), AV.int IntKind.u8 (Int.ofNat c), AV.int IntKind.u8 (Int.ofNat 0), AV.int IntKind.u64 (Int.ofNat (mo n))], AV.bool true]], s := { h := { bs := [(2, AObj.cells true wfP)], len := 1, esc := none, wr := [] }, nx := 7 } }, [], [Qst.pure [] 15 [AV.agg [AV.int IntKind.u8 (Int.ofNat 3), AV.int IntKind.u8 (Int.ofNat b), AV.int IntKind.u8 (Int.ofNat c), AV.int IntKind.u64 (Int.ofNat n)]] (AV.bool true), Qst.val (some (AV.int IntKind.u64 (Int.ofNat ((n + 1) % ((2 : Int) ^ IntKind.u64.bits).natAbs)))) (AV.int IntKind.u64 (Int.ofNat (n + 1))), Qst.val (some (AV.int IntKind.u64 (Int.ofNat ((n + 1) % 281474976710656)))) (AV.int IntKind.u64 (Int.ofNat (mo n)))]) := by kernel_rfl
theorem bg_m (a b c n t : Nat) : runX Tryz.prog none_ 60 58 (.call 58 [.agg (phC a b c n), .int .u8 (Int.ofNat t)] (startS Tryz.prog [])) [.pure 58 1 1 [] (.bool false)] = some ({ e := AExit.ret, ts := [AV.tuple [AV.agg [AV.int IntKind.u8 (Int.ofNat 0), AV.int IntKind.u8 (Int.ofNat 0), AV.int IntKind.u8 (Int.ofNat 0), AV.int IntKind.u64 (Int.ofNat 0)], AV.int IntKind.i64 (Int.ofNat 1)]], s := { h := { bs := [], len := 0, esc := none, wr := [] }, nx := 5 } }, [], [Qst.pure [] 15 [AV.agg [AV.int IntKind.u8 (Int.ofNat a), AV.int IntKind.u8 (Int.ofNat b), AV.int IntKind.u8 (Int.ofNat c), AV.int IntKind.u64 (Int.ofNat n)]] (AV.bool false)]) := by kernel_rfl
theorem bg_s (a b c n t : Nat) : runX Tryz.prog none_ 60 58 (.call 58 [.agg (phC a b c n), .int .u8 (Int.ofNat t)] (startS Tryz.prog [])) [.pure 58 1 1 [] (.bool true), .pure 58 1 5 [] (.bool false)] = some ({ e := AExit.ret, ts := [AV.tuple [AV.agg [AV.int IntKind.u8 (Int.ofNat 0), AV.int IntKind.u8 (Int.ofNat 0), AV.int IntKind.u8 (Int.ofNat 0), AV.int IntKind.u64 (Int.ofNat 0)], AV.int IntKind.i64 (Int.ofNat 1)]], s := { h := { bs := [], len := 0, esc := none, wr := [] }, nx := 5 } }, [], [Qst.pure [] 15 [AV.agg [AV.int IntKind.u8 (Int.ofNat a), AV.int IntKind.u8 (Int.ofNat b), AV.int IntKind.u8 (Int.ofNat c), AV.int IntKind.u64 (Int.ofNat n)]] (AV.bool true), Qst.pure [] 32 [AV.int IntKind.u8 (Int.ofNat t)] (AV.bool false)]) := by kernel_rfl
theorem bg_b (a b c n t : Nat) : runX Tryz.prog none_ 60 58 (.call 58 [.agg (phC a b c n), .int .u8 (Int.ofNat t)] (startS Tryz.prog [])) [.pure 58 1 1 [] (.bool true), .pure 58 1 5 [] (.bool true), .val 58 3 2 (.bool true)] = some ({ e := AExit.ret, ts := [AV.tuple [AV.agg [AV.int IntKind.u8 (Int.ofNat 0), AV.int IntKind.u8 (Int.ofNat 0), AV.int IntKind.u8 (Int.ofNat 0), AV.int IntKind.u64 (Int.ofNat 0)], AV.int IntKind.i64 (Int.ofNat 7)]], s := { h := { bs := [], len := 0, esc := none, wr := [] }, nx := 5 } }, [], [Qst.pure [] 15 [AV.agg [AV.int IntKind.u8 (Int.ofNat a), AV.int IntKind.u8 (Int.ofNat b), AV.int IntKind.u8 (Int.ofNat c), AV.int IntKind.u64 (Int.ofNat n)]] (AV.bool true), Qst.pure [] 32 [AV.int IntKind.u8 (Int.ofNat t)] (AV.bool true), Qst.val (some (AV.bool (Int.ofNat a != Int.ofNat 0))) (AV.bool true)]) := by kernel_rfl
theorem bg_e (a b c n t : Nat) : runX Tryz.prog none_ 60 58 (.call 58 [.agg (phC a b c n), .int .u8 (Int.ofNat t)] (startS Tryz.prog [])) [.pure 58 1 1 [] (.bool true), .pure 58 1 5 [] (.bool true), .val 58 3 2 (.bool false), .val 58 5 3 (.bool true)] = some ({ e := AExit.ret, ts := [AV.tuple [AV.agg [AV.int IntKind.u8 (Int.ofNat 0), AV.int IntKind.u8 (Int.ofNat 0), AV.int IntKind.u8 (Int.ofNat 0), AV.int IntKind.u64 (Int.ofNat 0)], AV.int IntKind.i64 (Int.ofNat 8)]], s := { h := { bs := [], len := 0, esc := none, wr := [] }, nx := 5 } }, [], [Qst.pure [] 15 [AV.agg [AV.int IntKind.u8 (Int.ofNat a), AV.int IntKind.u8 (Int.ofNat b), AV.int IntKind.u8 (Int.ofNat c), AV.int IntKind.u64 (Int.ofNat n)]] (AV.bool true), Qst.pure [] 32 [AV.int IntKind.u8 (Int.ofNat t)] (AV.bool true), Qst.val (some (AV.bool (Int.ofNat a != Int.ofNat 0))) (AV.bool false), Qst.val (some (AV.bool (Int.ofNat t == Int.ofNat b))) (AV.bool true)]) := by kernel_rfl
theorem bg_y (a b c n t : Nat) : runX Tryz.prog none_ 60 58 (.call 58 [.agg (phC a b c n), .int .u8 (Int.ofNat t)] (startS Tryz.prog [])) [.pure 58 1 1 [] (.bool true), .pure 58 1 5 [] (.bool true), .val 58 3 2 (.bool false), .val 58 5 3 (.bool false), .val 58 7 5 (.int .u64 (Int.ofNat (n + 1))), .val 58 7 6 (.int .u64 (Int.ofNat (mo n)))] = some ({ e := AExit.ret, ts := [AV.tuple [AV.agg [AV.int IntKind.u8 (Int.ofNat 1), AV.int IntKind.u8 (Int.ofNat b), AV.int IntKind.u8 (Int.ofNat t), AV.int IntKind.u64 (Int.ofNat (mo n))], AV.int IntKind.i64 (Int.ofNat 0)]], s := { h := { bs := [], len := 0, esc := none, wr := [] }, nx := 5 } }, [], [Qst.pure [] 15 [AV.agg [AV.int IntKind.u8 (Int.ofNat a), AV.int IntKind.u8 (Int.ofNat b), AV.int IntKind.u8 (Int.ofNat c), AV.int IntKind.u64 (Int.ofNat n)]] (AV.bool true), Qst.pure [] 32 [AV.int IntKind.u8 (Int.ofNat t)] (AV.bool true), Qst.val (some (AV.bool (Int.ofNat a != Int.ofNat 0))) (AV.bool false), Qst.val (some (AV.bool (Int.ofNat t == Int.ofNat b))) (AV.bool false), Qst.val (some (AV.int IntKind.u64 (Int.ofNat ((n + 1) % ((2 : Int) ^ IntKind.u64.bits).natAbs)))) (AV.int IntKind.u64 (Int.ofNat (n + 1))), Qst.val (some (AV.int IntKind.u64 (Int.ofNat ((n + 1) % 281474976710656)))) (AV.int IntKind.u64 (Int.ofNat (mo n)))]) := by kernel_rfl
end Go.Proofs.YtcnfblibfndepaaGreatDoor.ctlsCover
namespace Go.Proofs.YtcnfblibfndepaaGreatDoor.ctlsCover
open Go Go.Mini
theorem sgl_call (s : Nat) (st : AS) : Sound Tryz.prog (.call 32 [.int .u8 (Int.ofNat s)] st) ⟨.ret, [.bool (sg s)], st⟩ := by
  match s with
  | 0 => exact Sound.pure (G := []) (runX_sound mixed none_sound sgl_0 trivial) rfl rfl rfl rfl
  | 1 => exact Sound.pure (G := []) (runX_sound mixed none_sound sgl_1 trivial) rfl rfl rfl rfl
  | 2 => exact Sound.pure (G := []) (runX_sound mixed none_sound sgl_2 trivial) rfl rfl rfl rfl
  | 3 => exact Sound.pure (G := []) (runX_sound mixed none_sound sgl_3 trivial) rfl rfl rfl rfl
  | 4 => exact Sound.pure (G := []) (runX_sound mixed none_sound sgl_4 trivial) rfl rfl rfl rfl
  | s + 5 =>
    rw [show sg (s + 5) = false from by simp [sg]]
    exact Sound.pure (G := []) (runX_sound mixed none_sound (sgl_n (s + 5)) ⟨by simp [Qst.ok]; omega, trivial⟩) rfl rfl rfl rfl
theorem qeq (x y : Nat) (v : Bool) (h : v = decide (x = y)) : some (AV.bool (Int.ofNat x == Int.ofNat y)) = some (AV.bool v) := by
  subst h
  by_cases h : x = y
  · simp [h]
  · simp [h]
    omega
theorem qne (x y : Nat) (v : Bool) (h : v = decide (x ≠ y)) : some (AV.bool (Int.ofNat x != Int.ofNat y)) = some (AV.bool v) := by
  subst h
  by_cases h : x = y
  · simp [h]
  · simp [h]
    omega
theorem sgP (x : Nat) (v : Bool) (h : sg x = v) : Qst.ok Tryz.prog (.pure [] 32 [.int .u8 (Int.ofNat x)] (.bool v)) := fun s _ => h ▸ sgl_call x s
theorem may_call (a b c n : Nat) (ha : a ≤ 3) (st : AS) : Sound Tryz.prog (.call 15 [.agg (phC a b c n)] st) ⟨.ret, [.bool (mayP a b c)], st⟩ := by
  match a, ha with
  | 0, _ =>
    by_cases hb : sg b = true
    · by_cases hc : c = 0
      · rw [show mayP 0 b c = true from by simp [mayP, hb, hc]]
        exact Sound.pure (G := []) (runX_sound mixed none_sound (may0_1 b c n) ⟨sgP b _ hb, qeq c 0 true (by simp [hc]), trivial⟩) rfl rfl rfl rfl
      · rw [show mayP 0 b c = false from by simp [mayP, hb, hc]]
        exact Sound.pure (G := []) (runX_sound mixed none_sound (may0_0 b c n) ⟨sgP b _ hb, qeq c 0 false (by simp [hc]), trivial⟩) rfl rfl rfl rfl
    · rw [show mayP 0 b c = false from by simp [mayP, hb]]
      exact Sound.pure (G := []) (runX_sound mixed none_sound (may0_o b c n) ⟨sgP b _ (by simpa using hb), trivial⟩) rfl rfl rfl rfl
  | 1, _ =>
    by_cases hb : sg b = true
    · by_cases hc : sg c = true
      · by_cases hn : c = b
        · rw [show mayP 1 b c = false from by simp [mayP, hb, hn]]
          exact Sound.pure (G := []) (runX_sound mixed none_sound (may1_0 b c n) ⟨sgP b _ hb, sgP c _ hc, qne c b false (by simp [hn]), trivial⟩) rfl rfl rfl rfl
        · rw [show mayP 1 b c = true from by simp [mayP, hb, hc, hn]]
          exact Sound.pure (G := []) (runX_sound mixed none_sound (may1_1 b c n) ⟨sgP b _ hb, sgP c _ hc, qne c b true (by simp [hn]), trivial⟩) rfl rfl rfl rfl
      · rw [show mayP 1 b c = false from by simp [mayP, hb, hc]]
        exact Sound.pure (G := []) (runX_sound mixed none_sound (may1_c b c n) ⟨sgP b _ hb, sgP c _ (by simpa using hc), trivial⟩) rfl rfl rfl rfl
    · rw [show mayP 1 b c = false from by simp [mayP, hb]]
      exact Sound.pure (G := []) (runX_sound mixed none_sound (may1_o b c n) ⟨sgP b _ (by simpa using hb), trivial⟩) rfl rfl rfl rfl
  | 2, _ =>
    by_cases hb : sg b = true
    · by_cases hc : sg c = true
      · by_cases hn : c = b
        · rw [show mayP 2 b c = false from by simp [mayP, hb, hn]]
          exact Sound.pure (G := []) (runX_sound mixed none_sound (may2_0 b c n) ⟨sgP b _ hb, sgP c _ hc, qne c b false (by simp [hn]), trivial⟩) rfl rfl rfl rfl
        · rw [show mayP 2 b c = true from by simp [mayP, hb, hc, hn]]
          exact Sound.pure (G := []) (runX_sound mixed none_sound (may2_1 b c n) ⟨sgP b _ hb, sgP c _ hc, qne c b true (by simp [hn]), trivial⟩) rfl rfl rfl rfl
      · rw [show mayP 2 b c = false from by simp [mayP, hb, hc]]
        exact Sound.pure (G := []) (runX_sound mixed none_sound (may2_c b c n) ⟨sgP b _ hb, sgP c _ (by simpa using hc), trivial⟩) rfl rfl rfl rfl
    · rw [show mayP 2 b c = false from by simp [mayP, hb]]
      exact Sound.pure (G := []) (runX_sound mixed none_sound (may2_o b c n) ⟨sgP b _ (by simpa using hb), trivial⟩) rfl rfl rfl rfl
  | 3, _ =>
    by_cases hb : sg b = true
    · by_cases hc : sg c = true
      · by_cases hn : c = b
        · rw [show mayP 3 b c = false from by simp [mayP, hb, hn]]
          exact Sound.pure (G := []) (runX_sound mixed none_sound (may3_0 b c n) ⟨sgP b _ hb, sgP c _ hc, qne c b false (by simp [hn]), trivial⟩) rfl rfl rfl rfl
        · rw [show mayP 3 b c = true from by simp [mayP, hb, hc, hn]]
          exact Sound.pure (G := []) (runX_sound mixed none_sound (may3_1 b c n) ⟨sgP b _ hb, sgP c _ hc, qne c b true (by simp [hn]), trivial⟩) rfl rfl rfl rfl
      · rw [show mayP 3 b c = false from by simp [mayP, hb, hc]]
        exact Sound.pure (G := []) (runX_sound mixed none_sound (may3_c b c n) ⟨sgP b _ hb, sgP c _ (by simpa using hc), trivial⟩) rfl rfl rfl rfl
    · rw [show mayP 3 b c = false from by simp [mayP, hb]]
      exact Sound.pure (G := []) (runX_sound mixed none_sound (may3_o b c n) ⟨sgP b _ (by simpa using hb), trivial⟩) rfl rfl rfl rfl
theorem mayPq (a b c n : Nat) (v : Bool) (ha : a ≤ 3) (h : mayP a b c = v) : Qst.ok Tryz.prog (.pure [] 15 [.agg (phC a b c n)] (.bool v)) := fun s _ => h ▸ may_call a b c n ha s
theorem q_inc (n : Nat) (hn : n < 281474976710656) : some (AV.int .u64 (Int.ofNat ((n + 1) % ((2 : Int) ^ IntKind.u64.bits).natAbs))) = some (AV.int .u64 (Int.ofNat (n + 1))) := w_conv .u64 (n + 1) _ nat64 (by omega)
theorem q_rem (n : Nat) : some (AV.int .u64 ((Int.ofNat (n + 1)).tmod 281474976710656)) = some (AV.int .u64 (Int.ofNat (mo n))) := rfl
theorem next_call (a b c n : Nat) (ha : a ≤ 3) (hn : n < 281474976710656) (st : AS) (hG : hasG st GP = true) : Sound Tryz.prog (.call 82 [.agg (phC a b c n)] st) ⟨.ret, [.tuple [.agg (nextP a b c n), .bool (mayP a b c && decide (a ≠ 0))]], st⟩ := by
  match a, ha with
  | 0, _ =>
    by_cases hm : mayP 0 b c = true
    · have e : nextP 0 b c n = phC 0 0 0 0 := by simp [nextP]
      rw [e, hm]
      exact Sound.pure (G := GP) (runX_sound mixed none_sound (nx0_y b c n) ⟨mayPq 0 b c n _ (by omega) hm, trivial⟩) (by kernel_rfl) rfl rfl hG
    · have hm : mayP 0 b c = false := by simpa using hm
      have e : nextP 0 b c n = phC 0 0 0 0 := by simp [nextP, hm]
      rw [e, hm]
      exact Sound.pure (G := GP) (runX_sound mixed none_sound (nx0_n b c n) ⟨mayPq 0 b c n _ (by omega) hm, trivial⟩) (by kernel_rfl) rfl rfl hG
  | 1, _ =>
    by_cases hm : mayP 1 b c = true
    · have e : nextP 1 b c n = phC 2 b c (mo n) := by simp [nextP, hm]
      rw [e, hm]
      exact Sound.pure (G := GP) (runX_sound mixed none_sound (nx1_y b c n) ⟨mayPq 1 b c n _ (by omega) hm, q_inc n hn, q_rem n, trivial⟩) (by kernel_rfl) rfl rfl hG
    · have hm : mayP 1 b c = false := by simpa using hm
      have e : nextP 1 b c n = phC 0 0 0 0 := by simp [nextP, hm]
      rw [e, hm]
      exact Sound.pure (G := GP) (runX_sound mixed none_sound (nx1_n b c n) ⟨mayPq 1 b c n _ (by omega) hm, trivial⟩) (by kernel_rfl) rfl rfl hG
  | 2, _ =>
    by_cases hm : mayP 2 b c = true
    · have e : nextP 2 b c n = phC 3 b c (mo n) := by simp [nextP, hm]
      rw [e, hm]
      exact Sound.pure (G := GP) (runX_sound mixed none_sound (nx2_y b c n) ⟨mayPq 2 b c n _ (by omega) hm, q_inc n hn, q_rem n, trivial⟩) (by kernel_rfl) rfl rfl hG
    · have hm : mayP 2 b c = false := by simpa using hm
      have e : nextP 2 b c n = phC 0 0 0 0 := by simp [nextP, hm]
      rw [e, hm]
      exact Sound.pure (G := GP) (runX_sound mixed none_sound (nx2_n b c n) ⟨mayPq 2 b c n _ (by omega) hm, trivial⟩) (by kernel_rfl) rfl rfl hG
  | 3, _ =>
    by_cases hm : mayP 3 b c = true
    · have e : nextP 3 b c n = phC 0 c 0 (mo n) := by simp [nextP, hm]
      rw [e, hm]
      exact Sound.pure (G := GP) (runX_sound mixed none_sound (nx3_y b c n) ⟨mayPq 3 b c n _ (by omega) hm, q_inc n hn, q_rem n, trivial⟩) (by kernel_rfl) rfl rfl hG
    · have hm : mayP 3 b c = false := by simpa using hm
      have e : nextP 3 b c n = phC 0 0 0 0 := by simp [nextP, hm]
      rw [e, hm]
      exact Sound.pure (G := GP) (runX_sound mixed none_sound (nx3_n b c n) ⟨mayPq 3 b c n _ (by omega) hm, trivial⟩) (by kernel_rfl) rfl rfl hG
theorem begin_call (a b c n t : Nat) (ha : a ≤ 3) (hn : n < 281474976710656) (st : AS) : Sound Tryz.prog (.call 58 [.agg (phC a b c n), .int .u8 (Int.ofNat t)] st) ⟨.ret, [.tuple [.agg (begP a b c n t).1, .int .i64 (Int.ofNat (begP a b c n t).2)]], st⟩ := by
  by_cases hm : mayP a b c = true
  · by_cases hs : sg t = true
    · by_cases h0 : a = 0
      · by_cases he : t = b
        · rw [show begP a b c n t = (phC 0 0 0 0, 8) from by simp [begP, h0, he] <;> simp_all]
          exact Sound.pure (G := []) (runX_sound mixed none_sound (bg_e a b c n t) ⟨mayPq a b c n _ ha hm, sgP t _ hs, qne a 0 false (by simp [h0]), qeq t b true (by simp [he]), trivial⟩) rfl rfl rfl rfl
        · rw [show begP a b c n t = (phC 1 b t (mo n), 0) from by simp [begP, hs, h0, he] <;> simp_all]
          exact Sound.pure (G := []) (runX_sound mixed none_sound (bg_y a b c n t) ⟨mayPq a b c n _ ha hm, sgP t _ hs, qne a 0 false (by simp [h0]), qeq t b false (by simp [he]), q_inc n hn, q_rem n, trivial⟩) rfl rfl rfl rfl
      · rw [show begP a b c n t = (phC 0 0 0 0, 7) from by simp [begP, hm, hs, h0]]
        exact Sound.pure (G := []) (runX_sound mixed none_sound (bg_b a b c n t) ⟨mayPq a b c n _ ha hm, sgP t _ hs, qne a 0 true (by simp [h0]), trivial⟩) rfl rfl rfl rfl
    · rw [show begP a b c n t = (phC 0 0 0 0, 1) from by simp [begP, hs]]
      exact Sound.pure (G := []) (runX_sound mixed none_sound (bg_s a b c n t) ⟨mayPq a b c n _ ha hm, sgP t _ (by simpa using hs), trivial⟩) rfl rfl rfl rfl
  · rw [show begP a b c n t = (phC 0 0 0 0, 1) from by simp [begP, hm]]
    exact Sound.pure (G := []) (runX_sound mixed none_sound (bg_m a b c n t) ⟨mayPq a b c n _ ha (by simpa using hm), trivial⟩) rfl rfl rfl rfl
end Go.Proofs.YtcnfblibfndepaaGreatDoor.ctlsCover
