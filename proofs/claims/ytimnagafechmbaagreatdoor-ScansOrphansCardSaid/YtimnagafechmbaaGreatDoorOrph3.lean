/- Heads of lists; a call, where a small heap lies; runs that jump. Conditions: those that each theorem names, and no others. -/
import Derived.Test.YtimnagafechmbaaGreatDoorOrph1
import Derived.Test.YtimnagafechmbaaGreatDoorMini3
import Derived.Test.YtimnagafechmbaaGreatDoorFast2
namespace Go.Proofs.YtimnagafechmbaaGreatDoor.scansOrphans
open Go Go.Mini
/-! ### words.AsHead, words.Head -/
theorem slot_a (w x : Nat) (z : Int) : runX Tryz.prog none_ 50 139 (.call 139 [.int .u64 (Int.ofNat w)] (startS Tryz.prog G)) [.val 166 1 9 (.int .u16 (Int.ofNat x)), .val 139 1 2 (.int .i64 (Int.ofNat x)), .val 139 1 3 (.int .i64 z), .val 119 1 1 (.bool false)] = some ({ e := AExit.ret, ts := [AV.int IntKind.i64 (Int.negSucc 0)], s := { h := { bs := [(0, AObj.cells true wf)], len := 1, esc := none, wr := [] }, nx := 2 } }, [], [Qst.val (some (AV.int IntKind.u16 (Int.ofNat ((match BinOp.and with | BinOp.and => BitVec.ofInt IntKind.u64.bits ((Int.ofNat w).fdiv (2 ^ min (Int.toNat 0) IntKind.u64.bits)) &&& BitVec.ofInt IntKind.u64.bits (IntKind.u64.wrap (IntKind.u64.wrap (1 * 2 ^ min (Int.toNat 16) IntKind.u64.bits) - 1)) | BinOp.or => BitVec.ofInt IntKind.u64.bits ((Int.ofNat w).fdiv (2 ^ min (Int.toNat 0) IntKind.u64.bits)) ||| BitVec.ofInt IntKind.u64.bits (IntKind.u64.wrap (IntKind.u64.wrap (1 * 2 ^ min (Int.toNat 16) IntKind.u64.bits) - 1)) | BinOp.xor => BitVec.ofInt IntKind.u64.bits ((Int.ofNat w).fdiv (2 ^ min (Int.toNat 0) IntKind.u64.bits)) ^^^ BitVec.ofInt IntKind.u64.bits (IntKind.u64.wrap (IntKind.u64.wrap (1 * 2 ^ min (Int.toNat 16) IntKind.u64.bits) - 1)) | _ => BitVec.ofInt IntKind.u64.bits ((Int.ofNat w).fdiv (2 ^ min (Int.toNat 0) IntKind.u64.bits)) &&& ~~~BitVec.ofInt IntKind.u64.bits (IntKind.u64.wrap (IntKind.u64.wrap (1 * 2 ^ min (Int.toNat 16) IntKind.u64.bits) - 1))).toNat % ((2 : Int) ^ IntKind.u64.bits).natAbs % ((2 : Int) ^ IntKind.u16.bits).natAbs)))) (AV.int IntKind.u16 (Int.ofNat x)), Qst.val (some (AV.int IntKind.i64 (IntKind.i64.wrap (Int.ofNat x)))) (AV.int IntKind.i64 (Int.ofNat x)), Qst.val (some (AV.int IntKind.i64 (IntKind.i64.wrap (Int.ofNat x - Int.ofNat 1)))) (AV.int IntKind.i64 z), Qst.val (some (AV.bool (decide (z ≥ 0)))) (AV.bool false)]) := by kernel_rfl
theorem slot_b (w x : Nat) (z : Int) : runX Tryz.prog none_ 50 139 (.call 139 [.int .u64 (Int.ofNat w)] (startS Tryz.prog G)) [.val 166 1 9 (.int .u16 (Int.ofNat x)), .val 139 1 2 (.int .i64 (Int.ofNat x)), .val 139 1 3 (.int .i64 z), .val 119 1 1 (.bool true), .val 119 1 4 (.bool false)] = some ({ e := AExit.ret, ts := [AV.int IntKind.i64 (Int.negSucc 0)], s := { h := { bs := [(0, AObj.cells true wf)], len := 1, esc := none, wr := [] }, nx := 2 } }, [], [Qst.val (some (AV.int IntKind.u16 (Int.ofNat ((match BinOp.and with | BinOp.and => BitVec.ofInt IntKind.u64.bits ((Int.ofNat w).fdiv (2 ^ min (Int.toNat 0) IntKind.u64.bits)) &&& BitVec.ofInt IntKind.u64.bits (IntKind.u64.wrap (IntKind.u64.wrap (1 * 2 ^ min (Int.toNat 16) IntKind.u64.bits) - 1)) | BinOp.or => BitVec.ofInt IntKind.u64.bits ((Int.ofNat w).fdiv (2 ^ min (Int.toNat 0) IntKind.u64.bits)) ||| BitVec.ofInt IntKind.u64.bits (IntKind.u64.wrap (IntKind.u64.wrap (1 * 2 ^ min (Int.toNat 16) IntKind.u64.bits) - 1)) | BinOp.xor => BitVec.ofInt IntKind.u64.bits ((Int.ofNat w).fdiv (2 ^ min (Int.toNat 0) IntKind.u64.bits)) ^^^ BitVec.ofInt IntKind.u64.bits (IntKind.u64.wrap (IntKind.u64.wrap (1 * 2 ^ min (Int.toNat 16) IntKind.u64.bits) - 1)) | _ => BitVec.ofInt IntKind.u64.bits ((Int.ofNat w).fdiv (2 ^ min (Int.toNat 0) IntKind.u64.bits)) &&& ~~~BitVec.ofInt IntKind.u64.bits (IntKind.u64.wrap (IntKind.u64.wrap (1 * 2 ^ min (Int.toNat 16) IntKind.u64.bits) - 1))).toNat % ((2 : Int) ^ IntKind.u64.bits).natAbs % ((2 : Int) ^ IntKind.u16.bits).natAbs)))) (AV.int IntKind.u16 (Int.ofNat x)), Qst.val (some (AV.int IntKind.i64 (IntKind.i64.wrap (Int.ofNat x)))) (AV.int IntKind.i64 (Int.ofNat x)), Qst.val (some (AV.int IntKind.i64 (IntKind.i64.wrap (Int.ofNat x - Int.ofNat 1)))) (AV.int IntKind.i64 z), Qst.val (some (AV.bool (decide (z ≥ 0)))) (AV.bool true), Qst.val (some (AV.bool (decide (z < 256)))) (AV.bool false)]) := by kernel_rfl
theorem slot_c (w x : Nat) (z : Int) : runX Tryz.prog none_ 50 139 (.call 139 [.int .u64 (Int.ofNat w)] (startS Tryz.prog G)) [.val 166 1 9 (.int .u16 (Int.ofNat x)), .val 139 1 2 (.int .i64 (Int.ofNat x)), .val 139 1 3 (.int .i64 z), .val 119 1 1 (.bool true), .val 119 1 4 (.bool true)] = some ({ e := AExit.ret, ts := [AV.int IntKind.i64 z], s := { h := { bs := [(0, AObj.cells true wf)], len := 1, esc := none, wr := [] }, nx := 2 } }, [], [Qst.val (some (AV.int IntKind.u16 (Int.ofNat ((match BinOp.and with | BinOp.and => BitVec.ofInt IntKind.u64.bits ((Int.ofNat w).fdiv (2 ^ min (Int.toNat 0) IntKind.u64.bits)) &&& BitVec.ofInt IntKind.u64.bits (IntKind.u64.wrap (IntKind.u64.wrap (1 * 2 ^ min (Int.toNat 16) IntKind.u64.bits) - 1)) | BinOp.or => BitVec.ofInt IntKind.u64.bits ((Int.ofNat w).fdiv (2 ^ min (Int.toNat 0) IntKind.u64.bits)) ||| BitVec.ofInt IntKind.u64.bits (IntKind.u64.wrap (IntKind.u64.wrap (1 * 2 ^ min (Int.toNat 16) IntKind.u64.bits) - 1)) | BinOp.xor => BitVec.ofInt IntKind.u64.bits ((Int.ofNat w).fdiv (2 ^ min (Int.toNat 0) IntKind.u64.bits)) ^^^ BitVec.ofInt IntKind.u64.bits (IntKind.u64.wrap (IntKind.u64.wrap (1 * 2 ^ min (Int.toNat 16) IntKind.u64.bits) - 1)) | _ => BitVec.ofInt IntKind.u64.bits ((Int.ofNat w).fdiv (2 ^ min (Int.toNat 0) IntKind.u64.bits)) &&& ~~~BitVec.ofInt IntKind.u64.bits (IntKind.u64.wrap (IntKind.u64.wrap (1 * 2 ^ min (Int.toNat 16) IntKind.u64.bits) - 1))).toNat % ((2 : Int) ^ IntKind.u64.bits).natAbs % ((2 : Int) ^ IntKind.u16.bits).natAbs)))) (AV.int IntKind.u16 (Int.ofNat x)), Qst.val (some (AV.int IntKind.i64 (IntKind.i64.wrap (Int.ofNat x)))) (AV.int IntKind.i64 (Int.ofNat x)), Qst.val (some (AV.int IntKind.i64 (IntKind.i64.wrap (Int.ofNat x - Int.ofNat 1)))) (AV.int IntKind.i64 z), Qst.val (some (AV.bool (decide (z ≥ 0)))) (AV.bool true), Qst.val (some (AV.bool (decide (z < 256)))) (AV.bool true)]) := by kernel_rfl
theorem ashead_run (w t : Nat) (z : Int) : runX Tryz.prog none_ 50 129 (.call 129 [.int .u64 (Int.ofNat w)] (startS Tryz.prog G)) [.pure 129 1 1 G (.int .i64 z), .val 156 1 8 (.int .u64 (Int.ofNat t))] = some ({ e := AExit.ret, ts := [AV.tuple [AV.int IntKind.i64 z, AV.int IntKind.u64 (Int.ofNat t)]], s := { h := { bs := [(0, AObj.cells true wf)], len := 1, esc := none, wr := [] }, nx := 2 } }, [], [Qst.pure [(0, wf)] 139 [AV.int IntKind.u64 (Int.ofNat w)] (AV.int IntKind.i64 z), Qst.val (some (AV.int IntKind.u64 (Int.ofNat ((match BinOp.and with | BinOp.and => BitVec.ofInt IntKind.u64.bits ((Int.ofNat w).fdiv (2 ^ min (Int.toNat 16) IntKind.u64.bits)) &&& BitVec.ofInt IntKind.u64.bits (IntKind.u64.wrap (IntKind.u64.wrap (1 * 2 ^ min (Int.toNat 48) IntKind.u64.bits) - 1)) | BinOp.or => BitVec.ofInt IntKind.u64.bits ((Int.ofNat w).fdiv (2 ^ min (Int.toNat 16) IntKind.u64.bits)) ||| BitVec.ofInt IntKind.u64.bits (IntKind.u64.wrap (IntKind.u64.wrap (1 * 2 ^ min (Int.toNat 48) IntKind.u64.bits) - 1)) | BinOp.xor => BitVec.ofInt IntKind.u64.bits ((Int.ofNat w).fdiv (2 ^ min (Int.toNat 16) IntKind.u64.bits)) ^^^ BitVec.ofInt IntKind.u64.bits (IntKind.u64.wrap (IntKind.u64.wrap (1 * 2 ^ min (Int.toNat 48) IntKind.u64.bits) - 1)) | _ => BitVec.ofInt IntKind.u64.bits ((Int.ofNat w).fdiv (2 ^ min (Int.toNat 16) IntKind.u64.bits)) &&& ~~~BitVec.ofInt IntKind.u64.bits (IntKind.u64.wrap (IntKind.u64.wrap (1 * 2 ^ min (Int.toNat 48) IntKind.u64.bits) - 1))).toNat % ((2 : Int) ^ IntKind.u64.bits).natAbs)))) (AV.int IntKind.u64 (Int.ofNat t))]) := by kernel_rfl
theorem sd_a (s : Int) : runX Tryz.prog none_ 50 67 (.call 67 [.int .i64 s] (startS Tryz.prog [])) [.val 119 1 1 (.bool false)] = some ({ e := AExit.ret, ts := [AV.int IntKind.u64 (Int.ofNat 0)], s := { h := { bs := [], len := 0, esc := none, wr := [] }, nx := 2 } }, [], [Qst.val (some (AV.bool (decide (s ≥ 0)))) (AV.bool false)]) := by kernel_rfl
theorem sd_b (s : Int) : runX Tryz.prog none_ 50 67 (.call 67 [.int .i64 s] (startS Tryz.prog [])) [.val 119 1 1 (.bool true), .val 119 1 4 (.bool false)] = some ({ e := AExit.ret, ts := [AV.int IntKind.u64 (Int.ofNat 0)], s := { h := { bs := [], len := 0, esc := none, wr := [] }, nx := 2 } }, [], [Qst.val (some (AV.bool (decide (s ≥ 0)))) (AV.bool true), Qst.val (some (AV.bool (decide (s < 256)))) (AV.bool false)]) := by kernel_rfl
theorem sd_c (s z : Int) (n : Nat) : runX Tryz.prog none_ 50 67 (.call 67 [.int .i64 s] (startS Tryz.prog [])) [.val 119 1 1 (.bool true), .val 119 1 4 (.bool true), .val 67 3 1 (.int .i64 z), .val 67 3 2 (.int .u64 (Int.ofNat n))] = some ({ e := AExit.ret, ts := [AV.int IntKind.u64 (Int.ofNat n)], s := { h := { bs := [], len := 0, esc := none, wr := [] }, nx := 2 } }, [], [Qst.val (some (AV.bool (decide (s ≥ 0)))) (AV.bool true), Qst.val (some (AV.bool (decide (s < 256)))) (AV.bool true), Qst.val (some (AV.int IntKind.i64 (IntKind.i64.wrap (s + Int.ofNat 1)))) (AV.int IntKind.i64 z), Qst.val (some (AV.int IntKind.u64 (IntKind.u64.wrap z))) (AV.int IntKind.u64 (Int.ofNat n))]) := by kernel_rfl
theorem head_run (s : Int) (t d t1 t2 w : Nat) : runX Tryz.prog none_ 50 127 (.call 127 [.int .i64 s, .int .u64 (Int.ofNat t)] (startS Tryz.prog G)) [.pure 127 1 1 [] (.int .u64 (Int.ofNat d)), .val 122 1 4 (.int .u64 (Int.ofNat t1)), .val 122 1 9 (.int .u64 (Int.ofNat t2)), .val 122 1 10 (.int .u64 (Int.ofNat w))] = some ({ e := AExit.ret, ts := [AV.int IntKind.u64 (Int.ofNat w)], s := { h := { bs := [(0, AObj.cells true wf)], len := 1, esc := none, wr := [] }, nx := 2 } }, [], [Qst.pure [] 67 [AV.int IntKind.i64 s] (AV.int IntKind.u64 (Int.ofNat d)), Qst.val (some (AV.int IntKind.u64 (Int.ofNat ((match BinOp.and with | BinOp.and => BitVec.ofInt IntKind.u64.bits (Int.ofNat t) &&& BitVec.ofInt IntKind.u64.bits (IntKind.u64.wrap (IntKind.u64.wrap (1 * 2 ^ min (Int.toNat 48) IntKind.u64.bits) - 1)) | BinOp.or => BitVec.ofInt IntKind.u64.bits (Int.ofNat t) ||| BitVec.ofInt IntKind.u64.bits (IntKind.u64.wrap (IntKind.u64.wrap (1 * 2 ^ min (Int.toNat 48) IntKind.u64.bits) - 1)) | BinOp.xor => BitVec.ofInt IntKind.u64.bits (Int.ofNat t) ^^^ BitVec.ofInt IntKind.u64.bits (IntKind.u64.wrap (IntKind.u64.wrap (1 * 2 ^ min (Int.toNat 48) IntKind.u64.bits) - 1)) | _ => BitVec.ofInt IntKind.u64.bits (Int.ofNat t) &&& ~~~BitVec.ofInt IntKind.u64.bits (IntKind.u64.wrap (IntKind.u64.wrap (1 * 2 ^ min (Int.toNat 48) IntKind.u64.bits) - 1))).toNat % ((2 : Int) ^ IntKind.u64.bits).natAbs)))) (AV.int IntKind.u64 (Int.ofNat t1)), Qst.val (some (AV.int IntKind.u64 (Int.ofNat (t1 * 2 ^ min (Int.toNat 16) IntKind.u64.bits % ((2 : Int) ^ IntKind.u64.bits).natAbs)))) (AV.int IntKind.u64 (Int.ofNat t2)), Qst.val (some (AV.int IntKind.u64 (Int.ofNat ((match BinOp.or with | BinOp.and => BitVec.ofInt IntKind.u64.bits (Int.ofNat d) &&& BitVec.ofInt IntKind.u64.bits (Int.ofNat t2) | BinOp.or => BitVec.ofInt IntKind.u64.bits (Int.ofNat d) ||| BitVec.ofInt IntKind.u64.bits (Int.ofNat t2) | BinOp.xor => BitVec.ofInt IntKind.u64.bits (Int.ofNat d) ^^^ BitVec.ofInt IntKind.u64.bits (Int.ofNat t2) | _ => BitVec.ofInt IntKind.u64.bits (Int.ofNat d) &&& ~~~BitVec.ofInt IntKind.u64.bits (Int.ofNat t2)).toNat % ((2 : Int) ^ IntKind.u64.bits).natAbs)))) (AV.int IntKind.u64 (Int.ofNat w))]) := by kernel_rfl
def slI (w : Nat) : Int := if 1 ≤ w % 65536 ∧ w % 65536 ≤ 256 then Int.ofNat (w % 65536) - 1 else -1
def tgN (w : Nat) : Nat := w / 65536 % 281474976710656
def sdN (s : Int) : Nat := if 0 ≤ s ∧ s < 256 then s.toNat + 1 else 0
def hdN (s : Int) (t : Nat) : Nat := sdN s + 65536 * (t % 281474976710656)
theorem sdN_le (s : Int) : sdN s ≤ 256 := by unfold sdN; split <;> omega
theorem hdN_lt (s : Int) (t : Nat) : hdN s t < 18446744073709551616 := by
  have := sdN_le s
  unfold hdN
  omega
theorem slI_hdN (s : Int) (t : Nat) (h : s = -1 ∨ (0 ≤ s ∧ s < 256)) : slI (hdN s t) = s := by
  have h1 := sdN_le s
  have e : hdN s t % 65536 = sdN s := by unfold hdN; omega
  unfold slI
  rw [e]
  unfold sdN
  rcases h with rfl | h
  · simp
  · rw [if_pos h, if_pos (by omega)]
    simp only [Int.ofNat_eq_natCast]
    omega
theorem slI_or (w : Nat) : slI w = -1 ∨ (0 ≤ slI w ∧ slI w < 256) := by
  unfold slI
  split
  · simp only [Int.ofNat_eq_natCast]
    omega
  · exact .inl rfl
theorem nat16 : ((2 : Int) ^ IntKind.u16.bits).natAbs = 65536 := by decide
theorem slot_call (w : Nat) (hw : w < 18446744073709551616) (s : AS) (hG : hasG s G = true) : Sound Tryz.prog (.call 139 [.int .u64 (Int.ofNat w)] s) ⟨.ret, [.int .i64 (slI w)], s⟩ := by
  have h1 := w_take w 0 16 hw (by omega) (by omega) .u16 65536 nat16 (by omega)
  rw [show w / 2 ^ 0 % 2 ^ 16 = w % 65536 from by simp] at h1
  have hx : w % 65536 < 65536 := Nat.mod_lt _ (by omega)
  generalize hxx : w % 65536 = x at h1 hx
  have h2 : some (AV.int .i64 (IntKind.i64.wrap (Int.ofNat x))) = some (AV.int .i64 (Int.ofNat x)) := i64_of (by omega)
  have h3 : some (AV.int .i64 (IntKind.i64.wrap (Int.ofNat x - Int.ofNat 1))) = some (AV.int .i64 (Int.ofNat x - 1)) := by
    rw [i64_wrap (by simp only [Int.ofNat_eq_natCast]; omega) (by simp only [Int.ofNat_eq_natCast]; omega)]
    rfl
  have sl : slI w = if 1 ≤ x ∧ x ≤ 256 then Int.ofNat x - 1 else -1 := by unfold slI; rw [hxx]
  rw [sl]
  by_cases c1 : 1 ≤ x
  · by_cases c2 : x ≤ 256
    · rw [if_pos ⟨c1, c2⟩]
      exact Sound.pure (G := G) (runX_sound mixed none_sound (slot_c w x (Int.ofNat x - 1)) ⟨h1, h2, h3, by simp [Qst.ok]; omega, by simp [Qst.ok]; omega, trivial⟩) (by kernel_rfl) rfl rfl hG
    · rw [if_neg (by omega)]
      exact Sound.pure (G := G) (runX_sound mixed none_sound (slot_b w x (Int.ofNat x - 1)) ⟨h1, h2, h3, by simp [Qst.ok]; omega, by simp [Qst.ok]; omega, trivial⟩) (by kernel_rfl) rfl rfl hG
  · rw [if_neg (by omega)]
    exact Sound.pure (G := G) (runX_sound mixed none_sound (slot_a w x (Int.ofNat x - 1)) ⟨h1, h2, h3, by simp [Qst.ok]; omega, trivial⟩) (by kernel_rfl) rfl rfl hG
theorem ashead_call (w : Nat) (hw : w < 18446744073709551616) (s : AS) (hG : hasG s G = true) : Sound Tryz.prog (.call 129 [.int .u64 (Int.ofNat w)] s) ⟨.ret, [.tuple [.int .i64 (slI w), .int .u64 (Int.ofNat (tgN w))]], s⟩ := by
  have h4 := w_take64 w 16 48 hw (by omega) (by omega)
  exact Sound.pure (G := G) (runX_sound mixed none_sound (ashead_run w (tgN w) (slI w)) ⟨fun s hs => slot_call w hw s hs, h4, trivial⟩) (by kernel_rfl) rfl rfl hG
theorem slotted_call (x : Int) (h0 : -9223372036854775808 ≤ x) (h1 : x < 9223372036854775808) (s : AS) : Sound Tryz.prog (.call 67 [.int .i64 x] s) ⟨.ret, [.int .u64 (Int.ofNat (sdN x))], s⟩ := by
  unfold sdN
  by_cases c1 : 0 ≤ x
  · by_cases c2 : x < 256
    · rw [if_pos ⟨c1, c2⟩]
      refine Sound.pure (G := []) (runX_sound mixed none_sound (sd_c x (x + 1) (x.toNat + 1)) ⟨by simp [Qst.ok]; omega, by simp [Qst.ok]; omega, ?_, ?_, trivial⟩) rfl rfl rfl rfl
      · show some _ = some _
        rw [i64_wrap (by simp only [Int.ofNat_eq_natCast]; omega) (by simp only [Int.ofNat_eq_natCast]; omega)]
        rfl
      · show some _ = some _
        rw [u64_wrap (by omega) (by omega)]
        have : x + 1 = Int.ofNat (x.toNat + 1) := by simp only [Int.ofNat_eq_natCast]; omega
        rw [this]
    · rw [if_neg (by omega)]
      exact Sound.pure (G := []) (runX_sound mixed none_sound (sd_b x) ⟨by simp [Qst.ok]; omega, by simp [Qst.ok]; omega, trivial⟩) rfl rfl rfl rfl
  · rw [if_neg (by omega)]
    exact Sound.pure (G := []) (runX_sound mixed none_sound (sd_a x) ⟨by simp [Qst.ok]; omega, trivial⟩) rfl rfl rfl rfl
theorem head_call (x : Int) (t : Nat) (h0 : -9223372036854775808 ≤ x) (h1 : x < 9223372036854775808) (ht : t < 18446744073709551616) (s : AS) (hG : hasG s G = true) : Sound Tryz.prog (.call 127 [.int .i64 x, .int .u64 (Int.ofNat t)] s) ⟨.ret, [.int .u64 (Int.ofNat (hdN x t))], s⟩ := by
  have hd := sdN_le x
  have q := w_or (sdN x) (t % 2 ^ 48) 16 (by omega) (by omega) (by omega)
  refine Sound.pure (G := G) (runX_sound mixed none_sound (head_run x t (sdN x) (t % 2 ^ 48) (t % 2 ^ 48 * 2 ^ 16) (hdN x t)) ⟨fun s _ => slotted_call x h0 h1 s, w_and _ 48 ht (by omega), w_shl _ 16 (by omega) (by omega), ?_, trivial⟩) (by kernel_rfl) rfl rfl hG
  refine q.trans ?_
  unfold hdN
  rw [show sdN x + 2 ^ 16 * (t % 2 ^ 48) = sdN x + 65536 * (t % 281474976710656) from by omega]
end Go.Proofs.YtimnagafechmbaaGreatDoor.scansOrphans
namespace Go.Mini
open Go Go.RowKit
/-! ### A call, where the small heap lies; what the rest of the state holds stays -/
section
variable {P : Program} {bs bs' : List (Nat × AObj)} {Fz : List (Nat × List AV)} {s s1 : AS} {π κ : Nat → Nat} {n0 nx0 : Nat} {new : List Nat}
/-- Where blocks lay and where they come to lie: `s'` is what a call makes of `s`, that touches nothing but what of `bs` lies by `π`. -/
structure Moved (nx0 : Nat) (bs bs' : List (Nat × AObj)) (π π' κ : Nat → Nat) (s s' : AS) : Prop where
  old : ∀ b ∈ bs'.map (·.1), (∃ d ∈ bs.map (·.1), π' b = π d) ∨ s.nx ≤ π' b
  low : ∀ b, b < nx0 → κ b = b → π' b = π b
  rest : ∀ c, c < s.nx → (∀ d ∈ bs.map (·.1), π d ≠ c) → s'.get c = s.get c
  nx : s.nx ≤ s'.nx
/-- A call takes the small heap `bs` to `bs'`, wherever it lies, and touches nothing else. -/
def StepF (P : Program) (Fz : List (Nat × List AV)) (nx0 : Nat) (f : FuncId) (args : List AV) (v : AV) (bs bs' : List (Nat × AObj)) (κ : Nat → Nat) : Prop :=
  ∀ s π, At P bs Fz s π → ∃ s' π', Sound P (.call f (rens π args) s) ⟨.ret, [v], s'⟩ ∧ At P bs' Fz s' π' ∧ Moved nx0 bs bs' π π' κ s s'
theorem step_mk {f : FuncId} {args : List AV} {v : AV} {e : AExit} (h : Sound P (.call f args (canF bs Fz n0 nx0)) ⟨e, [v], s1⟩) (new : List Nat) (K : Kan P bs Fz nx0) (hn : new.Nodup) (hnew : ∀ b ∈ new, nx0 ≤ b ∧ (objAt s1 b).rw = true ∧ (objAt s1 b).names (pN nx0 new) = true)
  (hκg : ∀ g, g < P.globals.size → κ g = g) (hκz : ∀ x ∈ Fz, κ x.1 = x.1) (hκ : eachX (fun b o => (κ b ∈ bs.map (·.1) ∨ κ b ∈ new) ∧ s1.get (κ b) = some (o.ren κ)) bs') (hκi : ∀ b ∈ bs'.map (·.1), ∀ c ∈ bs'.map (·.1), κ b = κ c → b = c)
  (hT : namess (fun b => Nat.blt b nx0) args = true) (hold : eachX (fun b _ => ((objAt s1 b).rw = true ∨ objAt s1 b = .dead) ∧ (objAt s1 b).names (pN nx0 new) = true) bs)
  (hv : v.names (fun _ => false) = true) : StepF P Fz nx0 f args v bs bs' κ := by
  intro s π A
  have hp := Sound.putFG h π (fun g hg => ⟨by have := K.glob; omega, A.glob g hg⟩) new s (fun x hx => ⟨(K.fz x hx).1, (K.fz x hx).2.1, (K.fz x hx).2.2, A.fz x hx, fun b hb => A.out b hb x hx⟩)
    (eachX_imp K.ok fun x hx hh => ⟨hh.1, hh.2.1, hh.2.2.1, hh.2.2.2, eachX_mem A.at_ x hx, (eachX_mem hold x hx).1, (eachX_mem hold x hx).2⟩) A.inj K.nodup hn hnew hT
    (names_sub (fun _ h => by cases h) hv)
  rw [show v.ren (pR nx0 new π s.nx) = v by rw [ren_congr (p := fun _ => false) (π' := fun b => b) (fun _ h => by cases h) hv, ren_id]] at hp
  refine ⟨_, _, hp, At.after A K hnew hκg hκz hκ hκi, ⟨fun b hb => ?_, fun b hb hk => ?_, fun c hc hd => ?_, ?_⟩⟩
  · obtain ⟨y, hy, rfl⟩ := List.mem_map.1 hb
    show (∃ d ∈ bs.map (·.1), pR nx0 new π s.nx (κ y.1) = π d) ∨ s.nx ≤ pR nx0 new π s.nx (κ y.1)
    rcases (eachX_mem hκ y hy).1 with h1 | h1
    · refine .inl ⟨κ y.1, h1, if_pos ?_⟩
      obtain ⟨z, hz, hz2⟩ := List.mem_map.1 h1
      rw [← hz2]
      exact (eachX_mem K.ok z hz).1
    · refine .inr ?_
      have := (hnew _ h1).1
      rw [show pR nx0 new π s.nx (κ y.1) = s.nx + new.idxOf (κ y.1) from if_neg (by omega)]
      omega
  · show pR nx0 new π s.nx (κ b) = _
    rw [hk]
    exact if_pos hb
  · rw [pushL_old (by rw [setL_nx]; exact hc), setL_other (fun hm => ?_)]
    rw [List.map_map] at hm
    obtain ⟨d, hd1, he⟩ := List.mem_map.1 hm
    exact hd d hd1 he
  · rw [pushL_nx, setL_nx]
    omega
theorem keys_sub {bs bs2 : List (Nat × AObj)} (h : ∀ x ∈ bs2, x ∈ bs) : ∀ b ∈ bs2.map (·.1), b ∈ bs.map (·.1) := fun b hb => by
  obtain ⟨x, hx, rfl⟩ := List.mem_map.1 hb
  exact List.mem_map.2 ⟨x, h x hx, rfl⟩
theorem eachX_all {f : Nat → AObj → Prop} : ∀ {bs : List (Nat × AObj)}, (∀ x ∈ bs, f x.1 x.2) → eachX f bs
  | [], _ => trivial
  | x :: _, h => ⟨h x (by simp), eachX_all fun y hy => h y (by simp [hy])⟩
theorem At.sub {bs2 : List (Nat × AObj)} (A : At P bs Fz s π) (h : ∀ x ∈ bs2, x ∈ bs) : At P bs2 Fz s π :=
  ⟨A.glob, A.fz, fun b hb => A.out b (keys_sub h b hb), fun b hb c hc => A.inj b (keys_sub h b hb) c (keys_sub h c hc), eachX_all fun x hx => eachX_mem A.at_ x (h x hx), A.keys⟩
/-- What a call leaves alone may lie beside. -/
theorem StepF.frame {f : FuncId} {args : List AV} {v : AV} (h : StepF P Fz nx0 f args v bs bs' κ) (ext : List (Nat × AObj)) (hz : ∀ x ∈ Fz, x.1 < nx0 ∧ κ x.1 = x.1)
    (he : eachX (fun b o => b < nx0 ∧ κ b = b ∧ o.names (fun c => Nat.blt c nx0 && Nat.beq (κ c) c) = true ∧ b ∉ bs.map (·.1)) ext) : StepF P Fz nx0 f args v (bs ++ ext) (bs' ++ ext) κ := by
  intro s π A
  have A1 : At P bs Fz s π := A.sub fun x hx => by simp [hx]
  obtain ⟨s', π', hS, A', M⟩ := h s π A1
  have hlow : ∀ b ∈ ext.map (·.1), π' b = π b := fun b hb => by
    obtain ⟨x, hx, rfl⟩ := List.mem_map.1 hb
    exact M.low _ (eachX_mem he x hx).1 (eachX_mem he x hx).2.1
  have hk : ∀ b, b ∈ (bs ++ ext).map (·.1) ↔ b ∈ bs.map (·.1) ∨ b ∈ ext.map (·.1) := fun b => by rw [List.map_append, List.mem_append]
  have hk' : ∀ b, b ∈ (bs' ++ ext).map (·.1) ↔ b ∈ bs'.map (·.1) ∨ b ∈ ext.map (·.1) := fun b => by rw [List.map_append, List.mem_append]
  have hno : ∀ b ∈ ext.map (·.1), b ∉ bs.map (·.1) := fun b hb => by
    obtain ⟨x, hx, rfl⟩ := List.mem_map.1 hb
    exact (eachX_mem he x hx).2.2.2
  have hlt : ∀ b ∈ ext.map (·.1), π b < s.nx := fun b hb => A.lt ((hk b).2 (.inr hb))
  have hne : ∀ b ∈ ext.map (·.1), ∀ d ∈ bs.map (·.1), π d ≠ π b := fun b hb d hd e => hno b hb (A.inj d ((hk d).2 (.inl hd)) b ((hk b).2 (.inr hb)) e ▸ hd)
  have hmix : ∀ b ∈ bs'.map (·.1), ∀ c ∈ ext.map (·.1), π' b ≠ π' c := fun b hb c hc e => by
    rw [hlow c hc] at e
    rcases M.old b hb with ⟨d, hd, h1⟩ | h1
    · exact hne c hc d hd (h1 ▸ e)
    · have := hlt c hc
      omega
  refine ⟨s', π', hS, ⟨A'.glob, A'.fz, fun b hb x hx => ?_, fun b hb c hc e => ?_, eachX_all fun x hx => ?_, A'.keys⟩, ⟨fun b hb => ?_, M.low, fun c hc hd => M.rest c hc fun d hd' => hd d ((hk d).2 (.inl hd')), M.nx⟩⟩
  · rcases (hk' b).1 hb with hb | hb
    · exact A'.out b hb x hx
    · rw [hlow b hb, M.low x.1 (hz x hx).1 (hz x hx).2]
      exact A.out b ((hk b).2 (.inr hb)) x hx
  · rcases (hk' b).1 hb with hb | hb <;> rcases (hk' c).1 hc with hc | hc
    · exact A'.inj b hb c hc e
    · exact absurd e (hmix b hb c hc)
    · exact absurd e.symm (hmix c hc b hb)
    · rw [hlow b hb, hlow c hc] at e
      exact A.inj b ((hk b).2 (.inr hb)) c ((hk c).2 (.inr hc)) e
  · rcases List.mem_append.1 hx with hx | hx
    · exact eachX_mem A'.at_ x hx
    · have hb : x.1 ∈ ext.map (·.1) := List.mem_map.2 ⟨x, hx, rfl⟩
      rw [hlow _ hb, M.rest _ (hlt _ hb) (hne _ hb), eachX_mem A.at_ x (by simp [hx])]
      congr 1
      refine oren_congr (fun c hc => ?_) (eachX_mem he x hx).2.2.1
      rw [Bool.and_eq_true] at hc
      exact (M.low c (Nat.blt_eq ▸ hc.1) (Nat.eq_of_beq_eq_true hc.2)).symm
  · rcases (hk' b).1 hb with hb | hb
    · rcases M.old b hb with ⟨d, hd, h1⟩ | h1
      · exact .inl ⟨d, (hk d).2 (.inl hd), h1⟩
      · exact .inr h1
    · exact .inl ⟨b, (hk b).2 (.inr hb), hlow b hb⟩
/-- More may lie ahead, less be told behind. -/
theorem StepF.use {f : FuncId} {args : List AV} {v : AV} {b1 b2 : List (Nat × AObj)} (h : StepF P Fz nx0 f args v bs bs' κ) (h1 : ∀ x ∈ bs, x ∈ b1) (h2 : ∀ x ∈ b2, x ∈ bs') : StepF P Fz nx0 f args v b1 b2 κ := fun s π A => by
  obtain ⟨s', π', hS, A', M⟩ := h s π (A.sub h1)
  refine ⟨s', π', hS, A'.sub h2, ⟨fun b hb => ?_, M.low, fun c hc hd => M.rest c hc fun d hd' => hd d (keys_sub h1 d hd'), M.nx⟩⟩
  rcases M.old b (keys_sub h2 b hb) with ⟨d, hd, h3⟩ | h3
  · exact .inl ⟨d, keys_sub h1 d hd, h3⟩
  · exact .inr h3
end
end Go.Mini
namespace Go.Mini
open Go Go.RowKit Go.Mini.Fast
/-! ### a run of code that jumps, once, to a label behind it -/
section
variable (P : Program) (hk : Task → Option Res) (n f : Nat)
def runG : Nat → Code → List AV → AS → List Dec → Option (Res × List Dec × List Qst)
  | 0, _, _, _, _ => none
  | k + 1, c, ts, s, ds => match c with
    | .seq a b => match runG k a ts s ds with
      | some (⟨.normal, ts', s'⟩, ds', q) => match runG k b ts' s' ds' with
        | some (r, ds'', q') => some (r, ds'', q ++ q')
        | none => none
      | r => r
    | .cond o a b => match evA P ts o with
      | some (.bool true) => runG k a ts s ds
      | some (.bool false) => runG k b ts s ds
      | _ => none
    | .block id c => match runG k c ts s ds with
      | some (⟨.exit id', ts', s'⟩, ds', q) => if Nat.beq id' id then some (⟨.normal, ts', s'⟩, ds', q) else some (⟨.exit id', ts', s'⟩, ds', q)
      | r => r
    | .scope c => match runG k c ts s ds with
      | some (⟨.goto l, ts', s'⟩, ds', q) => match findLabel c l with
        | some b => match runX P hk n f (.code b ts' s') ds' with
          | some (r, ds'', q') => some (r, ds'', q ++ q')
          | none => none
        | none => none
      | r => r
    | .goto l => some (⟨.goto l, ts, s⟩, ds, [])
    | c => runX P hk n f (.code c ts s) ds
end
section
variable {P : Program} {hk : Task → Option Res} {n f : Nat}
theorem condC {o : Operand} {x y : Code} {ts : List AV} {s : AS} {b : Bool} {r : Res} (h : evA P ts o = some (.bool b)) (hr : SoundC P (bif b then x else y) ts s r) : SoundC P (.cond o x y) ts s r := by
  intro B ρ a w R ht
  have := evA_rel R.glob ht h
  rw [vrel_bool] at this
  cases b with
  | true => exact wp_cond_true this (hr B ρ a w R ht)
  | false => exact wp_cond_false this (hr B ρ a w R ht)
theorem gotoC {l : Nat} {ts : List AV} {s : AS} : SoundC P (.goto l) ts s ⟨.goto l, ts, s⟩ := fun _ ρ _ _ R ht => wp_goto ⟨rfl, ρ, ht, .refl R⟩
theorem runG_ok (hm : P.follows .mixedOrders = true) (hh : ∀ t r, hk t = some r → Sound P t r) : ∀ k c ts s ds r ds' q, runG P hk n f k c ts s ds = some (r, ds', q) → Qsts P q → SoundC P c ts s r
  | 0, _, _, _, _, _, _, _, h, _ => by simp [runG] at h
  | k + 1, c, ts, s, ds, r, ds', q, h, hq => by
    have ih := runG_ok hm hh k
    have leaf : ∀ {c : Code}, runX P hk n f (.code c ts s) ds = some (r, ds', q) → SoundC P c ts s r := fun h => (runX_sound hm hh h hq).2
    cases c with
    | seq a b =>
      simp only [runG] at h
      split at h
      · rename_i ts1 s1 ds1 q1 h1
        split at h
        case h_2 => simp at h
        rename_i r2 ds2 q2 h2
        simp only [Option.some.injEq, Prod.mk.injEq] at h
        obtain ⟨rfl, rfl, rfl⟩ := h
        rw [qsts_app] at hq
        exact seq_nextC (ih _ _ _ _ _ _ _ h1 hq.1) (ih _ _ _ _ _ _ _ h2 hq.2)
      · rename_i hne
        refine seq_stopC (ih _ _ _ _ _ _ _ h hq) (fun e => ?_)
        obtain ⟨e', ts1, s1⟩ := r
        simp only at e
        subst e
        exact hne _ _ _ _ h
    | cond o a b =>
      simp only [runG] at h
      split at h
      · rename_i h1
        exact condC h1 (ih _ _ _ _ _ _ _ h hq)
      · rename_i h1
        exact condC h1 (ih _ _ _ _ _ _ _ h hq)
      · simp at h
    | block id c =>
      simp only [runG] at h
      split at h
      · rename_i id' ts1 s1 ds1 q1 h1
        split at h
        · rename_i hid
          simp only [Option.some.injEq, Prod.mk.injEq] at h
          obtain ⟨rfl, rfl, rfl⟩ := h
          have := ih _ _ _ _ _ _ _ h1 hq
          rw [Nat.eq_of_beq_eq_true hid] at this
          exact block_exitC this
        · rename_i hid
          simp only [Option.some.injEq, Prod.mk.injEq] at h
          obtain ⟨rfl, rfl, rfl⟩ := h
          refine block_pastC (ih _ _ _ _ _ _ _ h1 hq) (fun e => ?_)
          simp only [AExit.exit.injEq] at e
          exact hid (by rw [e]; exact Nat.beq_refl _)
      · rename_i hne
        refine block_pastC (ih _ _ _ _ _ _ _ h hq) (fun e => ?_)
        obtain ⟨e', ts1, s1⟩ := r
        simp only at e
        subst e
        exact hne _ _ _ _ _ h
    | scope c =>
      simp only [runG] at h
      split at h
      · rename_i l ts1 s1 ds1 q1 h1
        split at h
        case h_2 => simp at h
        rename_i b hb
        split at h
        case h_2 => simp at h
        rename_i r2 ds2 q2 h2
        simp only [Option.some.injEq, Prod.mk.injEq] at h
        obtain ⟨rfl, rfl, rfl⟩ := h
        rw [qsts_app] at hq
        have := runX_sound hm hh h2 hq.2
        exact jumpC hb (ih _ _ _ _ _ _ _ h1 hq.1) this.2 this.1
      · rename_i hne
        refine scopeC (ih _ _ _ _ _ _ _ h hq) (fun l e => ?_)
        obtain ⟨e', ts1, s1⟩ := r
        simp only at e
        subst e
        exact hne _ _ _ _ _ h
    | goto l =>
      simp only [runG, Option.some.injEq, Prod.mk.injEq] at h
      obtain ⟨rfl, rfl, rfl⟩ := h
      exact gotoC
    | region id ops d => exact leaf h
    | loop c => exact leaf h
    | skip => exact leaf h
    | label l => exact leaf h
    | exit id => exact leaf h
    | ret => exact leaf h
    | rangeFunc => exact leaf h
    | refuse => exact leaf h
/-- A call whose body is run so. -/
theorem callG (hm : P.follows .mixedOrders = true) (hh : ∀ t r, hk t = some r → Sound P t r) {g k : Nat} {fn : Func} {c : Code} {args ts vs : List AV} {bs : List (Nat × AObj)} {len nx : Nat} {s' : AS} {ds ds' : List Dec} {q : List Qst} (hf : P.funcs[g]? = some fn) (hb : fn.body = some c)
    (h : runG P hk n f k c (args ++ List.replicate (fn.ntmps - args.length) undefA) ⟨⟨bs, len, none, []⟩, nx⟩ ds = some (⟨.ret, ts, s'⟩, ds', q)) (hq : Qsts P q) (hvs : resultsA P ts s' fn.results.toList = some vs) : Sound P (.call g args ⟨⟨bs, len, none, []⟩, nx⟩) ⟨.ret, [oneOrTuple vs], s'⟩ :=
  call_whole hf hb ((runG_ok hm hh k _ _ _ _ _ _ _ h hq).sound (fun _ h => by cases h)) (.inr rfl) hvs
end
section
variable (P : Program) (hk : Task → Option Res)
/-- A call, run so. -/
def runGF (n k g : Nat) (args : List AV) (s : AS) (ds : List Dec) : Option (Res × List Dec × List Qst) := match P.funcs[g]? with
  | some fn => match fn.body with
    | some c => match runG P hk n g k c (args ++ List.replicate (fn.ntmps - args.length) undefA) ⟨⟨s.h.bs, s.h.len, none, []⟩, s.nx⟩ ds with
      | some (⟨.ret, ts, s'⟩, ds', q) => match resultsA P ts s' fn.results.toList with
        | some vs => some (⟨.ret, [oneOrTuple vs], s'⟩, ds', q)
        | none => none
      | _ => none
    | none => none
  | none => none
end
theorem runGF_ok {P : Program} {hk : Task → Option Res} (hm : P.follows .mixedOrders = true) (hh : ∀ t r, hk t = some r → Sound P t r) {n k g : Nat} {args : List AV} {s : AS} {r : Res} {ds ds' : List Dec} {q : List Qst} (h : runGF P hk n k g args s ds = some (r, ds', q)) (hq : Qsts P q) :
    Sound P (.call g args ⟨⟨s.h.bs, s.h.len, none, []⟩, s.nx⟩) r := by
  unfold runGF at h
  split at h
  case h_2 => simp at h
  rename_i fn hf
  split at h
  case h_2 => simp at h
  rename_i c hb
  split at h
  case h_2 => simp at h
  rename_i ts s' ds1 q1 h1
  split at h
  case h_2 => simp at h
  rename_i vs hvs
  simp only [Option.some.injEq, Prod.mk.injEq] at h
  obtain ⟨rfl, rfl, rfl⟩ := h
  exact callG hm hh hf hb h1 hq hvs
end Go.Mini
