/- The words of the program, taken apart and put together. Conditions: those that each theorem names, and no others. -/
import Derived.Test.YtofbdgmknfbkfaaGreatDoorMini3
import Derived.Test.YtofbdgmknfbkfaaGreatDoorChecked
namespace Go.Proofs.YtofbdgmknfbkfaaGreatDoor.nodesLife
open Go Go.Mini
theorem mixed : Tryz.prog.follows .mixedOrders = true := by kernel_rfl
def none_ : Go.Mini.Task → Option Res := fun _ => none
theorem none_sound : ∀ t r, none_ t = some r → Sound Tryz.prog t r := fun _ _ h => by cases h

theorem u64_wrap {x : Int} (h0 : 0 ≤ x) (h1 : x < 18446744073709551616) : IntKind.u64.wrap x = x := by
  simp [IntKind.wrap, IntKind.bits, IntKind.signed]; omega
theorem i64_wrap {x : Int} (h0 : -9223372036854775808 ≤ x) (h1 : x < 9223372036854775808) : IntKind.i64.wrap x = x := by
  simp [IntKind.wrap, IntKind.bits, IntKind.signed]; omega

/-! ### numbers -/
theorem pow_le64 {n : Nat} (h : n ≤ 63) : 2 ^ n ≤ 9223372036854775808 := Nat.pow_le_pow_right (n := 2) (by omega) h
theorem bits64 : IntKind.u64.bits = 64 := rfl
theorem nat64 : ((2 : Int) ^ IntKind.u64.bits).natAbs = 18446744073709551616 := by decide
theorem nat32 : ((2 : Int) ^ IntKind.u32.bits).natAbs = 4294967296 := by decide
theorem nat8 : ((2 : Int) ^ IntKind.u8.bits).natAbs = 256 := by decide
theorem mask_and (x k : Nat) (hx : x < 18446744073709551616) (hk : k ≤ 64) : (BitVec.ofInt 64 (Int.ofNat x) &&& BitVec.ofInt 64 (Int.ofNat (2 ^ k - 1))).toNat = x % 2 ^ k := by
  have hp : 2 ^ k ≤ 2 ^ 64 := Nat.pow_le_pow_right (by omega) hk
  have h1 : (BitVec.ofInt 64 (Int.ofNat x)).toNat = x := by
    simp only [Int.ofNat_eq_natCast, BitVec.ofInt_natCast, BitVec.toNat_ofNat]
    exact Nat.mod_eq_of_lt hx
  have h2 : (BitVec.ofInt 64 (Int.ofNat (2 ^ k - 1))).toNat = 2 ^ k - 1 := by
    simp only [Int.ofNat_eq_natCast, BitVec.ofInt_natCast, BitVec.toNat_ofNat]
    refine Nat.mod_eq_of_lt ?_
    have : 0 < 2 ^ k := Nat.pow_pos (by omega)
    omega
  rw [BitVec.toNat_and, h1, h2]
  exact Nat.and_two_pow_sub_one_eq_mod x k
theorem shr_mask (w a k : Nat) (hw : w < 18446744073709551616) (ha : a ≤ 64) (hk : k < 64) :
    (BitVec.ofInt IntKind.u64.bits ((Int.ofNat w).fdiv (2 ^ min (Int.toNat (Int.ofNat a)) IntKind.u64.bits)) &&& BitVec.ofInt IntKind.u64.bits (IntKind.u64.wrap (IntKind.u64.wrap (1 * 2 ^ min (Int.toNat (Int.ofNat k)) IntKind.u64.bits) - 1))).toNat = w / 2 ^ a % 2 ^ k := by
  have e1 : (Int.ofNat w).fdiv (2 ^ min (Int.toNat (Int.ofNat a)) IntKind.u64.bits) = Int.ofNat (w / 2 ^ a) := by
    rw [bits64, show min (Int.toNat (Int.ofNat a)) 64 = a from by simp only [Int.ofNat_eq_natCast, Int.toNat_natCast]; omega, Int.fdiv_eq_ediv_of_nonneg _ (Int.pow_nonneg (by omega))]
    simp
  have hp : 2 ^ k < 2 ^ 64 := Nat.pow_lt_pow_right (by omega) hk
  have hp0 : 0 < 2 ^ k := Nat.pow_pos (by omega)
  have e2 : IntKind.u64.wrap (IntKind.u64.wrap (1 * 2 ^ min (Int.toNat (Int.ofNat k)) IntKind.u64.bits) - 1) = Int.ofNat (2 ^ k - 1) := by
    rw [bits64, show min (Int.toNat (Int.ofNat k)) 64 = k from by simp only [Int.ofNat_eq_natCast, Int.toNat_natCast]; omega]
    have h3 : (1 : Int) * 2 ^ k = Int.ofNat (2 ^ k) := by simp
    rw [h3, u64_wrap (x := Int.ofNat (2 ^ k)) (by simp only [Int.ofNat_eq_natCast]; omega) (by simp only [Int.ofNat_eq_natCast]; omega),
      u64_wrap (x := Int.ofNat (2 ^ k) - 1) (by simp only [Int.ofNat_eq_natCast]; omega) (by simp only [Int.ofNat_eq_natCast]; omega)]
    simp only [Int.ofNat_eq_natCast]
    omega
  have hd : w / 2 ^ a < 18446744073709551616 := Nat.lt_of_le_of_lt (Nat.div_le_self _ _) hw
  rw [e1, e2]
  exact mask_and _ k hd (by omega)

theorem or_nat (x y : Nat) (hx : x < 18446744073709551616) (hy : y < 18446744073709551616) : (BitVec.ofInt 64 (Int.ofNat x) ||| BitVec.ofInt 64 (Int.ofNat y)).toNat = x ||| y := by
  have h1 : ∀ z : Nat, z < 18446744073709551616 → (BitVec.ofInt 64 (Int.ofNat z)).toNat = z := by
    intro z hz
    simp only [Int.ofNat_eq_natCast, BitVec.ofInt_natCast, BitVec.toNat_ofNat]
    exact Nat.mod_eq_of_lt hz
  rw [BitVec.toNat_or, h1 x hx, h1 y hy]
theorem maskK (k : Nat) (hk : k < 64) : IntKind.u64.wrap (IntKind.u64.wrap (1 * 2 ^ min (Int.toNat (Int.ofNat k)) IntKind.u64.bits) - 1) = Int.ofNat (2 ^ k - 1) := by
  have hp : 2 ^ k < 2 ^ 64 := Nat.pow_lt_pow_right (by omega) hk
  have hp0 : 0 < 2 ^ k := Nat.pow_pos (by omega)
  rw [bits64, show min (Int.toNat (Int.ofNat k)) 64 = k from by simp only [Int.ofNat_eq_natCast, Int.toNat_natCast]; omega]
  have h3 : (1 : Int) * 2 ^ k = Int.ofNat (2 ^ k) := by simp
  rw [h3, u64_wrap (x := Int.ofNat (2 ^ k)) (by simp only [Int.ofNat_eq_natCast]; omega) (by simp only [Int.ofNat_eq_natCast]; omega),
    u64_wrap (x := Int.ofNat (2 ^ k) - 1) (by simp only [Int.ofNat_eq_natCast]; omega) (by simp only [Int.ofNat_eq_natCast]; omega)]
  simp only [Int.ofNat_eq_natCast]
  omega
theorem and_maskK (x k : Nat) (hx : x < 18446744073709551616) (hk : k < 64) :
    (BitVec.ofInt IntKind.u64.bits (Int.ofNat x) &&& BitVec.ofInt IntKind.u64.bits (IntKind.u64.wrap (IntKind.u64.wrap (1 * 2 ^ min (Int.toNat (Int.ofNat k)) IntKind.u64.bits) - 1))).toNat = x % 2 ^ k := by
  rw [maskK k hk]
  exact mask_and x k hx (by omega)
theorem w_and (x k : Nat) (hx : x < 18446744073709551616) (hk : k < 64) : some (AV.int IntKind.u64 (Int.ofNat ((BitVec.ofInt IntKind.u64.bits (Int.ofNat x) &&& BitVec.ofInt IntKind.u64.bits (IntKind.u64.wrap (IntKind.u64.wrap (1 * 2 ^ min (Int.toNat (Int.ofNat k)) IntKind.u64.bits) - 1))).toNat % ((2 : Int) ^ IntKind.u64.bits).natAbs))) = some (AV.int .u64 (Int.ofNat (x % 2 ^ k))) := by
  rw [and_maskK x k hx hk, nat64, Nat.mod_eq_of_lt (Nat.lt_of_le_of_lt (Nat.mod_le _ _) hx)]
theorem w_shl (x k : Nat) (hk : k ≤ 64) (hx : x * 2 ^ k < 18446744073709551616) : some (AV.int IntKind.u64 (Int.ofNat (x * 2 ^ min (Int.toNat (Int.ofNat k)) IntKind.u64.bits % ((2 : Int) ^ IntKind.u64.bits).natAbs))) = some (AV.int .u64 (Int.ofNat (x * 2 ^ k))) := by
  rw [nat64, bits64, show min (Int.toNat (Int.ofNat k)) 64 = k from by simp only [Int.ofNat_eq_natCast, Int.toNat_natCast]; omega, Nat.mod_eq_of_lt hx]
theorem w_or (x y k : Nat) (hx : x < 2 ^ k) (hk : k ≤ 63) (hy : y * 2 ^ k < 18446744073709551616) : some (AV.int IntKind.u64 (Int.ofNat ((BitVec.ofInt IntKind.u64.bits (Int.ofNat x) ||| BitVec.ofInt IntKind.u64.bits (Int.ofNat (y * 2 ^ k))).toNat % ((2 : Int) ^ IntKind.u64.bits).natAbs))) = some (AV.int .u64 (Int.ofNat (x + 2 ^ k * y))) := by
  have h1 := pow_le64 hk
  have e : x ||| y * 2 ^ k = x + 2 ^ k * y := by
    rw [Nat.or_comm, Nat.mul_comm y, ← Nat.two_pow_add_eq_or_of_lt hx y, Nat.add_comm]
  have hlt : x + 2 ^ k * y < 18446744073709551616 := by
    rw [← e]
    have := Nat.or_lt_two_pow (n := 64) (x := x) (y := y * 2 ^ k) (by omega) hy
    exact this
  rw [nat64, bits64, or_nat x (y * 2 ^ k) (by omega) hy, e, Nat.mod_eq_of_lt hlt]
theorem w_conv (k : IntKind) (x m : Nat) (hm : ((2 : Int) ^ k.bits).natAbs = m) (hx : x < m) : some (AV.int k (Int.ofNat (x % ((2 : Int) ^ k.bits).natAbs))) = some (AV.int k (Int.ofNat x)) := by
  rw [hm, Nat.mod_eq_of_lt hx]
theorem w_take (w a k : Nat) (hw : w < 18446744073709551616) (ha : a ≤ 64) (hk : k < 64) (kd : IntKind) (m : Nat) (hm : ((2 : Int) ^ kd.bits).natAbs = m) (hx : 2 ^ k ≤ m) : some (AV.int kd (Int.ofNat ((BitVec.ofInt IntKind.u64.bits ((Int.ofNat w).fdiv (2 ^ min (Int.toNat (Int.ofNat a)) IntKind.u64.bits)) &&& BitVec.ofInt IntKind.u64.bits (IntKind.u64.wrap (IntKind.u64.wrap (1 * 2 ^ min (Int.toNat (Int.ofNat k)) IntKind.u64.bits) - 1))).toNat % ((2 : Int) ^ IntKind.u64.bits).natAbs % ((2 : Int) ^ kd.bits).natAbs))) = some (AV.int kd (Int.ofNat (w / 2 ^ a % 2 ^ k))) := by
  have h0 : 0 < 2 ^ k := Nat.pow_pos (by omega)
  have h1 := Nat.mod_lt (w / 2 ^ a) h0
  have h2 := pow_le64 (n := k) (by omega)
  rw [shr_mask w a k hw ha hk, nat64, hm, Nat.mod_eq_of_lt (by omega), Nat.mod_eq_of_lt (by omega)]
theorem w_take64 (w a k : Nat) (hw : w < 18446744073709551616) (ha : a ≤ 64) (hk : k < 64) : some (AV.int .u64 (Int.ofNat ((BitVec.ofInt IntKind.u64.bits ((Int.ofNat w).fdiv (2 ^ min (Int.toNat (Int.ofNat a)) IntKind.u64.bits)) &&& BitVec.ofInt IntKind.u64.bits (IntKind.u64.wrap (IntKind.u64.wrap (1 * 2 ^ min (Int.toNat (Int.ofNat k)) IntKind.u64.bits) - 1))).toNat % ((2 : Int) ^ IntKind.u64.bits).natAbs))) = some (AV.int .u64 (Int.ofNat (w / 2 ^ a % 2 ^ k))) := by
  have h0 : 0 < 2 ^ k := Nat.pow_pos (by omega)
  have h1 := Nat.mod_lt (w / 2 ^ a) h0
  have h2 := pow_le64 (n := k) (by omega)
  rw [shr_mask w a k hw ha hk, nat64, Nat.mod_eq_of_lt (by omega)]
theorem i64_of {n : Nat} (h : n < 9223372036854775808) : some (AV.int .i64 (IntKind.i64.wrap (Int.ofNat n))) = some (AV.int .i64 (Int.ofNat n)) := by
  rw [i64_wrap (by simp only [Int.ofNat_eq_natCast]; omega) (by simp only [Int.ofNat_eq_natCast]; omega)]
/-! ### words.AsHeader -/
def hs (w : Nat) : Nat := if 4 < w % 8 then 4 else w % 8
def hg (w : Nat) : Nat := w / 8 % 4294967296
def headT (w : Nat) : AV := .tuple [.int .u8 (Int.ofNat (hs w)), .int .u32 (Int.ofNat (hg w))]
def wf : List AV := [0,16,16,32,16,48,0,3,3,32,0,3,3,3,6,3,16,48,0,32,32,1].map (AV.int .u64)
def G : List (Nat × List AV) := [(1, wf)]
theorem phead_run (w x y z : Nat) : runX Tryz.prog none_ 50 44 (.call 44 [.int .u64 (Int.ofNat w)] (startS Tryz.prog G)) [.val 85 1 9 (.int .u8 (Int.ofNat x)), .val 44 1 2 (.int .u8 (Int.ofNat z)), .val 86 1 9 (.int .u32 (Int.ofNat y))] = some ({ e := .ret, ts := [.tuple [.int .u8 (Int.ofNat z), .int .u32 (Int.ofNat y)]], s := { h := { bs := [(1, .cells true wf)], len := 1, esc := none, wr := [] }, nx := 2 } }, [], [.val (some (.int .u8 (Int.ofNat ((match BinOp.and with | BinOp.and => BitVec.ofInt IntKind.u64.bits ((Int.ofNat w).fdiv (2 ^ min (Int.toNat 0) IntKind.u64.bits)) &&& BitVec.ofInt IntKind.u64.bits (IntKind.u64.wrap (IntKind.u64.wrap (1 * 2 ^ min (Int.toNat 3) IntKind.u64.bits) - 1)) | BinOp.or => BitVec.ofInt IntKind.u64.bits ((Int.ofNat w).fdiv (2 ^ min (Int.toNat 0) IntKind.u64.bits)) ||| BitVec.ofInt IntKind.u64.bits (IntKind.u64.wrap (IntKind.u64.wrap (1 * 2 ^ min (Int.toNat 3) IntKind.u64.bits) - 1)) | BinOp.xor => BitVec.ofInt IntKind.u64.bits ((Int.ofNat w).fdiv (2 ^ min (Int.toNat 0) IntKind.u64.bits)) ^^^ BitVec.ofInt IntKind.u64.bits (IntKind.u64.wrap (IntKind.u64.wrap (1 * 2 ^ min (Int.toNat 3) IntKind.u64.bits) - 1)) | _ => BitVec.ofInt IntKind.u64.bits ((Int.ofNat w).fdiv (2 ^ min (Int.toNat 0) IntKind.u64.bits)) &&& ~~~BitVec.ofInt IntKind.u64.bits (IntKind.u64.wrap (IntKind.u64.wrap (1 * 2 ^ min (Int.toNat 3) IntKind.u64.bits) - 1))).toNat % ((2 : Int) ^ IntKind.u64.bits).natAbs % ((2 : Int) ^ IntKind.u8.bits).natAbs)))) (.int .u8 (Int.ofNat x)), .val (some (.int .u8 (if 4 < Int.ofNat x then Int.ofNat 4 else Int.ofNat x))) (.int .u8 (Int.ofNat z)), .val (some (.int .u32 (Int.ofNat ((match BinOp.and with | BinOp.and => BitVec.ofInt IntKind.u64.bits ((Int.ofNat w).fdiv (2 ^ min (Int.toNat 3) IntKind.u64.bits)) &&& BitVec.ofInt IntKind.u64.bits (IntKind.u64.wrap (IntKind.u64.wrap (1 * 2 ^ min (Int.toNat 32) IntKind.u64.bits) - 1)) | BinOp.or => BitVec.ofInt IntKind.u64.bits ((Int.ofNat w).fdiv (2 ^ min (Int.toNat 3) IntKind.u64.bits)) ||| BitVec.ofInt IntKind.u64.bits (IntKind.u64.wrap (IntKind.u64.wrap (1 * 2 ^ min (Int.toNat 32) IntKind.u64.bits) - 1)) | BinOp.xor => BitVec.ofInt IntKind.u64.bits ((Int.ofNat w).fdiv (2 ^ min (Int.toNat 3) IntKind.u64.bits)) ^^^ BitVec.ofInt IntKind.u64.bits (IntKind.u64.wrap (IntKind.u64.wrap (1 * 2 ^ min (Int.toNat 32) IntKind.u64.bits) - 1)) | _ => BitVec.ofInt IntKind.u64.bits ((Int.ofNat w).fdiv (2 ^ min (Int.toNat 3) IntKind.u64.bits)) &&& ~~~BitVec.ofInt IntKind.u64.bits (IntKind.u64.wrap (IntKind.u64.wrap (1 * 2 ^ min (Int.toNat 32) IntKind.u64.bits) - 1))).toNat % ((2 : Int) ^ IntKind.u64.bits).natAbs % ((2 : Int) ^ IntKind.u32.bits).natAbs)))) (.int .u32 (Int.ofNat y))]) := by kernel_rfl

theorem phead (w : Nat) (hw : w < 18446744073709551616) (s : AS) (hG : hasG s G = true) : Sound Tryz.prog (.call 44 [.int .u64 (Int.ofNat w)] s) ⟨.ret, [headT w], s⟩ := by
  have h := phead_run w (w % 8) (hg w) (hs w)
  refine Sound.pure (G := G) (runX_sound mixed none_sound h ⟨?_, ?_, ?_, trivial⟩) (by kernel_rfl) rfl rfl hG
  · refine Eq.trans (congrArg (fun n : Nat => some (AV.int IntKind.u8 (Int.ofNat (n % ((2 : Int) ^ IntKind.u64.bits).natAbs % ((2 : Int) ^ IntKind.u8.bits).natAbs)))) (shr_mask w 0 3 hw (by omega) (by omega))) ?_
    rw [nat64, nat8]
    have : w / 2 ^ 0 % 2 ^ 3 = w % 8 := by simp
    rw [this]
    have : w % 8 % 18446744073709551616 % 256 = w % 8 := by omega
    rw [this]
  · show some _ = some _
    unfold hs
    by_cases h4 : 4 < w % 8
    · rw [if_pos h4, if_pos (show (4 : Int) < Int.ofNat (w % 8) by simp only [Int.ofNat_eq_natCast]; omega)]
    · rw [if_neg h4, if_neg (show ¬ (4 : Int) < Int.ofNat (w % 8) by simp only [Int.ofNat_eq_natCast]; omega)]
  · refine Eq.trans (congrArg (fun n : Nat => some (AV.int IntKind.u32 (Int.ofNat (n % ((2 : Int) ^ IntKind.u64.bits).natAbs % ((2 : Int) ^ IntKind.u32.bits).natAbs)))) (shr_mask w 3 32 hw (by omega) (by omega))) ?_
    rw [nat64, nat32]
    unfold hg
    have : w / 2 ^ 3 % 2 ^ 32 % 18446744073709551616 % 4294967296 = w / 8 % 4294967296 := by
      rw [show (2 : Nat) ^ 3 = 8 from rfl, show (2 : Nat) ^ 32 = 4294967296 from rfl]
      omega
    rw [this]
end Go.Proofs.YtofbdgmknfbkfaaGreatDoor.nodesLife
namespace Go.Proofs.YtofbdgmknfbkfaaGreatDoor.nodesLife
open Go Go.Mini
def hd (s g : Nat) : AV := .agg [.int .u8 (Int.ofNat s), .int .u32 (Int.ofNat g)]
def mkw (s g : Nat) : Nat := s + 8 * g
theorem hs_mkw {s g : Nat} (h : s ≤ 4) : hs (mkw s g) = s := by unfold hs mkw; split <;> omega
theorem hg_mkw {s g : Nat} (h : s ≤ 4) (hg' : g < 4294967296) : hg (mkw s g) = g := by unfold hg mkw; omega
theorem header_run (s g : Nat) : runX Tryz.prog none_ 50 17 (.call 17 [.int .u8 (Int.ofNat s), .int .u32 (Int.ofNat g)] (startS Tryz.prog G)) [.val 17 1 1 (.int .u8 (Int.ofNat s)), .val 46 1 2 (.int .u64 (Int.ofNat s)), .val 46 1 5 (.int .u64 (Int.ofNat s)), .val 46 1 10 (.int .u64 (Int.ofNat s)), .val 46 1 11 (.int .u64 (Int.ofNat s)), .val 45 1 2 (.int .u64 (Int.ofNat g)), .val 45 1 5 (.int .u64 (Int.ofNat g)), .val 45 1 10 (.int .u64 (Int.ofNat (8 * g))), .val 45 1 11 (.int .u64 (Int.ofNat (mkw s g)))] = some ({ e := .ret, ts := [.int .u64 (Int.ofNat (mkw s g))], s := { h := { bs := [(1, .cells true wf)], len := 1, esc := none, wr := [] }, nx := 2 } }, [], [.val (some (.int .u8 (if 4 < Int.ofNat s then Int.ofNat 4 else Int.ofNat s))) (.int .u8 (Int.ofNat s)), .val (some (.int .u64 (Int.ofNat (s % ((2 : Int) ^ IntKind.u64.bits).natAbs)))) (.int .u64 (Int.ofNat s)), .val (some (.int .u64 (Int.ofNat ((match BinOp.and with | BinOp.and => BitVec.ofInt IntKind.u64.bits (Int.ofNat s) &&& BitVec.ofInt IntKind.u64.bits (IntKind.u64.wrap (IntKind.u64.wrap (1 * 2 ^ min (Int.toNat 3) IntKind.u64.bits) - 1)) | BinOp.or => BitVec.ofInt IntKind.u64.bits (Int.ofNat s) ||| BitVec.ofInt IntKind.u64.bits (IntKind.u64.wrap (IntKind.u64.wrap (1 * 2 ^ min (Int.toNat 3) IntKind.u64.bits) - 1)) | BinOp.xor => BitVec.ofInt IntKind.u64.bits (Int.ofNat s) ^^^ BitVec.ofInt IntKind.u64.bits (IntKind.u64.wrap (IntKind.u64.wrap (1 * 2 ^ min (Int.toNat 3) IntKind.u64.bits) - 1)) | _ => BitVec.ofInt IntKind.u64.bits (Int.ofNat s) &&& ~~~BitVec.ofInt IntKind.u64.bits (IntKind.u64.wrap (IntKind.u64.wrap (1 * 2 ^ min (Int.toNat 3) IntKind.u64.bits) - 1))).toNat % ((2 : Int) ^ IntKind.u64.bits).natAbs)))) (.int .u64 (Int.ofNat s)), .val (some (.int .u64 (Int.ofNat (s * 2 ^ min (Int.toNat 0) IntKind.u64.bits % ((2 : Int) ^ IntKind.u64.bits).natAbs)))) (.int .u64 (Int.ofNat s)), .val (some (.int .u64 (Int.ofNat ((match BinOp.or with | BinOp.and => BitVec.ofInt IntKind.u64.bits 0 &&& BitVec.ofInt IntKind.u64.bits (Int.ofNat s) | BinOp.or => BitVec.ofInt IntKind.u64.bits 0 ||| BitVec.ofInt IntKind.u64.bits (Int.ofNat s) | BinOp.xor => BitVec.ofInt IntKind.u64.bits 0 ^^^ BitVec.ofInt IntKind.u64.bits (Int.ofNat s) | _ => BitVec.ofInt IntKind.u64.bits 0 &&& ~~~BitVec.ofInt IntKind.u64.bits (Int.ofNat s)).toNat % ((2 : Int) ^ IntKind.u64.bits).natAbs)))) (.int .u64 (Int.ofNat s)), .val (some (.int .u64 (Int.ofNat (g % ((2 : Int) ^ IntKind.u64.bits).natAbs)))) (.int .u64 (Int.ofNat g)), .val (some (.int .u64 (Int.ofNat ((match BinOp.and with | BinOp.and => BitVec.ofInt IntKind.u64.bits (Int.ofNat g) &&& BitVec.ofInt IntKind.u64.bits (IntKind.u64.wrap (IntKind.u64.wrap (1 * 2 ^ min (Int.toNat 32) IntKind.u64.bits) - 1)) | BinOp.or => BitVec.ofInt IntKind.u64.bits (Int.ofNat g) ||| BitVec.ofInt IntKind.u64.bits (IntKind.u64.wrap (IntKind.u64.wrap (1 * 2 ^ min (Int.toNat 32) IntKind.u64.bits) - 1)) | BinOp.xor => BitVec.ofInt IntKind.u64.bits (Int.ofNat g) ^^^ BitVec.ofInt IntKind.u64.bits (IntKind.u64.wrap (IntKind.u64.wrap (1 * 2 ^ min (Int.toNat 32) IntKind.u64.bits) - 1)) | _ => BitVec.ofInt IntKind.u64.bits (Int.ofNat g) &&& ~~~BitVec.ofInt IntKind.u64.bits (IntKind.u64.wrap (IntKind.u64.wrap (1 * 2 ^ min (Int.toNat 32) IntKind.u64.bits) - 1))).toNat % ((2 : Int) ^ IntKind.u64.bits).natAbs)))) (.int .u64 (Int.ofNat g)), .val (some (.int .u64 (Int.ofNat (g * 2 ^ min (Int.toNat 3) IntKind.u64.bits % ((2 : Int) ^ IntKind.u64.bits).natAbs)))) (.int .u64 (Int.ofNat (8 * g))), .val (some (.int .u64 (Int.ofNat ((match BinOp.or with | BinOp.and => BitVec.ofInt IntKind.u64.bits (Int.ofNat s) &&& BitVec.ofInt IntKind.u64.bits (Int.ofNat (8 * g)) | BinOp.or => BitVec.ofInt IntKind.u64.bits (Int.ofNat s) ||| BitVec.ofInt IntKind.u64.bits (Int.ofNat (8 * g)) | BinOp.xor => BitVec.ofInt IntKind.u64.bits (Int.ofNat s) ^^^ BitVec.ofInt IntKind.u64.bits (Int.ofNat (8 * g)) | _ => BitVec.ofInt IntKind.u64.bits (Int.ofNat s) &&& ~~~BitVec.ofInt IntKind.u64.bits (Int.ofNat (8 * g))).toNat % ((2 : Int) ^ IntKind.u64.bits).natAbs)))) (.int .u64 (Int.ofNat (mkw s g)))]) := by kernel_rfl
theorem read_run (w s g : Nat) : runX Tryz.prog none_ 50 84 (.call 84 [.int .u64 (Int.ofNat w)] (startS Tryz.prog G)) [.call 84 1 1 (.tuple [.int .u8 (Int.ofNat s), .int .u32 (Int.ofNat g)]) id] = some ({ e := .ret, ts := [.agg [.int .u8 (Int.ofNat s), .int .u32 (Int.ofNat g)]], s := { h := { bs := [(1, .cells true wf)], len := 1, esc := none, wr := [] }, nx := 3 } }, [], [.snd (.call 44 [.int .u64 (Int.ofNat w)] { h := { bs := [(2, .cells false [.int .u8 (Int.ofNat 0), .int .u32 (Int.ofNat 0)]), (1, .cells true wf)], len := 2, esc := none, wr := [] }, nx := 3 }) { e := .ret, ts := [.tuple [.int .u8 (Int.ofNat s), .int .u32 (Int.ofNat g)]], s := { h := { bs := [(2, .cells false [.int .u8 (Int.ofNat 0), .int .u32 (Int.ofNat 0)]), (1, .cells true wf)], len := 2, esc := none, wr := [] }, nx := 3 } }]) := by kernel_rfl
def ln (c f t a : Nat) : AV := .agg [.int .u8 (Int.ofNat c), .int .u8 (Int.ofNat f), .int .u8 (Int.ofNat t), .int .i64 (Int.ofNat a)]
theorem beh_no (c f t a s g most : Nat) : runX Tryz.prog none_ 50 83 (.call 83 [ln c f t a, hd s g, .int .u32 (Int.ofNat most)] (startS Tryz.prog G)) [.val 83 1 4 (.bool true)] = some ({ e := .ret, ts := [.tuple [.agg [.int .u8 (Int.ofNat 0), .int .u32 (Int.ofNat 0)], .bool false]], s := { h := { bs := [(1, .cells true wf)], len := 1, esc := none, wr := [] }, nx := 5 } }, [], [.val (some (.bool (Int.ofNat s != Int.ofNat f))) (.bool true)]) := by kernel_rfl
theorem beh_any (c f t s g most : Nat) : runX Tryz.prog none_ 50 83 (.call 83 [ln c f t 0, hd s g, .int .u32 (Int.ofNat most)] (startS Tryz.prog G)) [.val 83 1 4 (.bool false)] = some ({ e := .ret, ts := [.tuple [.agg [.int .u8 (Int.ofNat t), .int .u32 (Int.ofNat g)], .bool true]], s := { h := { bs := [(1, .cells true wf)], len := 1, esc := none, wr := [] }, nx := 5 } }, [], [.val (some (.bool (Int.ofNat s != Int.ofNat f))) (.bool false)]) := by kernel_rfl
theorem beh_young (c f t s g most : Nat) : runX Tryz.prog none_ 50 83 (.call 83 [ln c f t 1, hd s g, .int .u32 (Int.ofNat most)] (startS Tryz.prog G)) [.val 83 1 4 (.bool false), .val 83 1 13 (.bool false), .val 83 4 2 (.int .u32 (Int.ofNat (g + 1)))] = some ({ e := .ret, ts := [.tuple [.agg [.int .u8 (Int.ofNat t), .int .u32 (Int.ofNat (g + 1))], .bool true]], s := { h := { bs := [(1, .cells true wf)], len := 1, esc := none, wr := [] }, nx := 5 } }, [], [.val (some (.bool (Int.ofNat s != Int.ofNat f))) (.bool false), .val (some (.bool (decide (Int.ofNat g ≥ Int.ofNat most)))) (.bool false), .val (some (.int .u32 (Int.ofNat ((g + 1) % ((2 : Int) ^ IntKind.u32.bits).natAbs)))) (.int .u32 (Int.ofNat (g + 1)))]) := by kernel_rfl
theorem beh_last (c f t s g most : Nat) : runX Tryz.prog none_ 50 83 (.call 83 [ln c f t 2, hd s g, .int .u32 (Int.ofNat most)] (startS Tryz.prog G)) [.val 83 1 4 (.bool false), .val 83 1 24 (.bool true)] = some ({ e := .ret, ts := [.tuple [.agg [.int .u8 (Int.ofNat 0), .int .u32 (Int.ofNat 0)], .bool false]], s := { h := { bs := [(1, .cells true wf)], len := 1, esc := none, wr := [] }, nx := 5 } }, [], [.val (some (.bool (Int.ofNat s != Int.ofNat f))) (.bool false), .val (some (.bool (Int.ofNat g != Int.ofNat most))) (.bool true)]) := by kernel_rfl
theorem header_call (s g : Nat) (h4 : s ≤ 4) (hg' : g < 4294967296) (st : AS) (hG : hasG st G = true) : Sound Tryz.prog (.call 17 [.int .u8 (Int.ofNat s), .int .u32 (Int.ofNat g)] st) ⟨.ret, [.int .u64 (Int.ofNat (mkw s g))], st⟩ := by
  refine Sound.pure (G := G) (runX_sound mixed none_sound (header_run s g) ⟨?_, ?_, ?_, ?_, ?_, ?_, ?_, ?_, ?_, trivial⟩) (by kernel_rfl) rfl rfl hG
  · show some _ = some _
    rw [if_neg (by simp only [Int.ofNat_eq_natCast]; omega)]
  · show some _ = some _
    rw [nat64, Nat.mod_eq_of_lt (by omega)]
  · refine Eq.trans (congrArg (fun n : Nat => some (AV.int IntKind.u64 (Int.ofNat (n % ((2 : Int) ^ IntKind.u64.bits).natAbs)))) (and_maskK s 3 (by omega) (by omega))) ?_
    rw [nat64, show s % 2 ^ 3 % 18446744073709551616 = s from by omega]
  · refine Eq.trans (b := some (AV.int .u64 (Int.ofNat (s * 2 ^ 0 % ((2 : Int) ^ IntKind.u64.bits).natAbs)))) rfl ?_
    rw [nat64, Nat.pow_zero, Nat.mul_one, Nat.mod_eq_of_lt (by omega)]
  · refine Eq.trans (congrArg (fun n : Nat => some (AV.int IntKind.u64 (Int.ofNat (n % ((2 : Int) ^ IntKind.u64.bits).natAbs)))) (or_nat 0 s (by omega) (by omega))) ?_
    rw [nat64, Nat.zero_or, Nat.mod_eq_of_lt (by omega)]
  · show some _ = some _
    rw [nat64, Nat.mod_eq_of_lt (by omega)]
  · refine Eq.trans (congrArg (fun n : Nat => some (AV.int IntKind.u64 (Int.ofNat (n % ((2 : Int) ^ IntKind.u64.bits).natAbs)))) (and_maskK g 32 (by omega) (by omega))) ?_
    rw [nat64, show g % 2 ^ 32 % 18446744073709551616 = g from by omega]
  · refine Eq.trans (b := some (AV.int .u64 (Int.ofNat (g * 2 ^ 3 % ((2 : Int) ^ IntKind.u64.bits).natAbs)))) rfl ?_
    rw [nat64, show g * 2 ^ 3 % 18446744073709551616 = 8 * g from by omega]
  · refine Eq.trans (congrArg (fun n : Nat => some (AV.int IntKind.u64 (Int.ofNat (n % ((2 : Int) ^ IntKind.u64.bits).natAbs)))) (or_nat s (8 * g) (by omega) (by omega))) ?_
    have : s ||| 8 * g = mkw s g := by
      have := Nat.two_pow_add_eq_or_of_lt (i := 3) (b := s) (by omega) g
      rw [Nat.or_comm, show 8 * g = 2 ^ 3 * g from rfl, ← this]
      unfold mkw
      omega
    rw [nat64, this, Nat.mod_eq_of_lt (by unfold mkw; omega)]
theorem mkw_lt {s g : Nat} (h4 : s ≤ 4) (hg' : g < 4294967296) : mkw s g < 18446744073709551616 := by unfold mkw; omega
theorem beh_no_call (c f t a s g most : Nat) (h : s ≠ f) (st : AS) (hG : hasG st G = true) : Sound Tryz.prog (.call 83 [ln c f t a, hd s g, .int .u32 (Int.ofNat most)] st) ⟨.ret, [.tuple [hd 0 0, .bool false]], st⟩ :=
  Sound.pure (G := G) (runX_sound mixed none_sound (beh_no c f t a s g most) ⟨by simp [Qst.ok]; omega, trivial⟩) (by kernel_rfl) rfl rfl hG
theorem beh_any_call (c t s g most : Nat) (st : AS) (hG : hasG st G = true) : Sound Tryz.prog (.call 83 [ln c s t 0, hd s g, .int .u32 (Int.ofNat most)] st) ⟨.ret, [.tuple [hd t g, .bool true]], st⟩ :=
  Sound.pure (G := G) (runX_sound mixed none_sound (beh_any c s t s g most) ⟨by simp [Qst.ok], trivial⟩) (by kernel_rfl) rfl rfl hG
theorem beh_young_call (c t s g most : Nat) (h : g < most) (hm : most < 4294967296) (st : AS) (hG : hasG st G = true) : Sound Tryz.prog (.call 83 [ln c s t 1, hd s g, .int .u32 (Int.ofNat most)] st) ⟨.ret, [.tuple [hd t (g + 1), .bool true]], st⟩ :=
  Sound.pure (G := G) (runX_sound mixed none_sound (beh_young c s t s g most) ⟨by simp [Qst.ok], by simp [Qst.ok]; omega, by simp only [Qst.ok]; rw [nat32, Nat.mod_eq_of_lt (by omega)], trivial⟩) (by kernel_rfl) rfl rfl hG
theorem beh_last_call (c t s g most : Nat) (h : g < most) (st : AS) (hG : hasG st G = true) : Sound Tryz.prog (.call 83 [ln c s t 2, hd s g, .int .u32 (Int.ofNat most)] st) ⟨.ret, [.tuple [hd 0 0, .bool false]], st⟩ :=
  Sound.pure (G := G) (runX_sound mixed none_sound (beh_last c s t s g most) ⟨by simp [Qst.ok], by simp [Qst.ok]; omega, trivial⟩) (by kernel_rfl) rfl rfl hG
def lf : List AV := [ln 1 0 1 0, ln 2 1 2 0, ln 3 2 0 1, ln 4 1 0 1, ln 5 1 4 2, ln 5 2 4 2, ln 6 0 3 0, ln 7 3 0 0].flatMap AV.cells
def G2 : List (Nat × List AV) := [(0, lf), (1, wf)]
end Go.Proofs.YtofbdgmknfbkfaaGreatDoor.nodesLife
