/- Threads that make, retire and drop, plainly, and what holds of them. Conditions: those that each theorem names, and no others. -/
import Derived.Test.YtofbdgmknfbkfaaGreatDoorLife1
import Derived.Test.YtofbdgmknfbkfaaGreatDoorLife2
import Derived.Test.YtofbdgmknfbkfaaGreatDoorLife3
namespace Go.Proofs.YtofbdgmknfbkfaaGreatDoor.nodesLife
open Go Go.Mini
/-! ### words.AsHead, words.Head -/
theorem slot_a (w x : Nat) (z : Int) : runX Tryz.prog none_ 50 108 (.call 108 [.int .u64 (Int.ofNat w)] (startS Tryz.prog G)) [.val 121 1 9 (.int .u16 (Int.ofNat x)), .val 108 1 2 (.int .i64 (Int.ofNat x)), .val 108 1 3 (.int .i64 z), .val 122 1 1 (.bool false)] = some ({ e := .ret, ts := [.int .i64 (Int.negSucc 0)], s := { h := { bs := [(1, .cells true wf)], len := 1, esc := none, wr := [] }, nx := 2 } }, [], [.val (some (.int .u16 (Int.ofNat ((match BinOp.and with | BinOp.and => BitVec.ofInt IntKind.u64.bits ((Int.ofNat w).fdiv (2 ^ min (Int.toNat 0) IntKind.u64.bits)) &&& BitVec.ofInt IntKind.u64.bits (IntKind.u64.wrap (IntKind.u64.wrap (1 * 2 ^ min (Int.toNat 16) IntKind.u64.bits) - 1)) | BinOp.or => BitVec.ofInt IntKind.u64.bits ((Int.ofNat w).fdiv (2 ^ min (Int.toNat 0) IntKind.u64.bits)) ||| BitVec.ofInt IntKind.u64.bits (IntKind.u64.wrap (IntKind.u64.wrap (1 * 2 ^ min (Int.toNat 16) IntKind.u64.bits) - 1)) | BinOp.xor => BitVec.ofInt IntKind.u64.bits ((Int.ofNat w).fdiv (2 ^ min (Int.toNat 0) IntKind.u64.bits)) ^^^ BitVec.ofInt IntKind.u64.bits (IntKind.u64.wrap (IntKind.u64.wrap (1 * 2 ^ min (Int.toNat 16) IntKind.u64.bits) - 1)) | _ => BitVec.ofInt IntKind.u64.bits ((Int.ofNat w).fdiv (2 ^ min (Int.toNat 0) IntKind.u64.bits)) &&& ~~~BitVec.ofInt IntKind.u64.bits (IntKind.u64.wrap (IntKind.u64.wrap (1 * 2 ^ min (Int.toNat 16) IntKind.u64.bits) - 1))).toNat % ((2 : Int) ^ IntKind.u64.bits).natAbs % ((2 : Int) ^ IntKind.u16.bits).natAbs)))) (.int .u16 (Int.ofNat x)), .val (some (.int .i64 (IntKind.i64.wrap (Int.ofNat x)))) (.int .i64 (Int.ofNat x)), .val (some (.int .i64 (IntKind.i64.wrap (Int.ofNat x - Int.ofNat 1)))) (.int .i64 z), .val (some (.bool (decide (z ≥ 0)))) (.bool false)]) := by kernel_rfl
theorem slot_b (w x : Nat) (z : Int) : runX Tryz.prog none_ 50 108 (.call 108 [.int .u64 (Int.ofNat w)] (startS Tryz.prog G)) [.val 121 1 9 (.int .u16 (Int.ofNat x)), .val 108 1 2 (.int .i64 (Int.ofNat x)), .val 108 1 3 (.int .i64 z), .val 122 1 1 (.bool true), .val 122 1 4 (.bool false)] = some ({ e := .ret, ts := [.int .i64 (Int.negSucc 0)], s := { h := { bs := [(1, .cells true wf)], len := 1, esc := none, wr := [] }, nx := 2 } }, [], [.val (some (.int .u16 (Int.ofNat ((match BinOp.and with | BinOp.and => BitVec.ofInt IntKind.u64.bits ((Int.ofNat w).fdiv (2 ^ min (Int.toNat 0) IntKind.u64.bits)) &&& BitVec.ofInt IntKind.u64.bits (IntKind.u64.wrap (IntKind.u64.wrap (1 * 2 ^ min (Int.toNat 16) IntKind.u64.bits) - 1)) | BinOp.or => BitVec.ofInt IntKind.u64.bits ((Int.ofNat w).fdiv (2 ^ min (Int.toNat 0) IntKind.u64.bits)) ||| BitVec.ofInt IntKind.u64.bits (IntKind.u64.wrap (IntKind.u64.wrap (1 * 2 ^ min (Int.toNat 16) IntKind.u64.bits) - 1)) | BinOp.xor => BitVec.ofInt IntKind.u64.bits ((Int.ofNat w).fdiv (2 ^ min (Int.toNat 0) IntKind.u64.bits)) ^^^ BitVec.ofInt IntKind.u64.bits (IntKind.u64.wrap (IntKind.u64.wrap (1 * 2 ^ min (Int.toNat 16) IntKind.u64.bits) - 1)) | _ => BitVec.ofInt IntKind.u64.bits ((Int.ofNat w).fdiv (2 ^ min (Int.toNat 0) IntKind.u64.bits)) &&& ~~~BitVec.ofInt IntKind.u64.bits (IntKind.u64.wrap (IntKind.u64.wrap (1 * 2 ^ min (Int.toNat 16) IntKind.u64.bits) - 1))).toNat % ((2 : Int) ^ IntKind.u64.bits).natAbs % ((2 : Int) ^ IntKind.u16.bits).natAbs)))) (.int .u16 (Int.ofNat x)), .val (some (.int .i64 (IntKind.i64.wrap (Int.ofNat x)))) (.int .i64 (Int.ofNat x)), .val (some (.int .i64 (IntKind.i64.wrap (Int.ofNat x - Int.ofNat 1)))) (.int .i64 z), .val (some (.bool (decide (z ≥ 0)))) (.bool true), .val (some (.bool (decide (z < 256)))) (.bool false)]) := by kernel_rfl
theorem slot_c (w x : Nat) (z : Int) : runX Tryz.prog none_ 50 108 (.call 108 [.int .u64 (Int.ofNat w)] (startS Tryz.prog G)) [.val 121 1 9 (.int .u16 (Int.ofNat x)), .val 108 1 2 (.int .i64 (Int.ofNat x)), .val 108 1 3 (.int .i64 z), .val 122 1 1 (.bool true), .val 122 1 4 (.bool true)] = some ({ e := .ret, ts := [.int .i64 z], s := { h := { bs := [(1, .cells true wf)], len := 1, esc := none, wr := [] }, nx := 2 } }, [], [.val (some (.int .u16 (Int.ofNat ((match BinOp.and with | BinOp.and => BitVec.ofInt IntKind.u64.bits ((Int.ofNat w).fdiv (2 ^ min (Int.toNat 0) IntKind.u64.bits)) &&& BitVec.ofInt IntKind.u64.bits (IntKind.u64.wrap (IntKind.u64.wrap (1 * 2 ^ min (Int.toNat 16) IntKind.u64.bits) - 1)) | BinOp.or => BitVec.ofInt IntKind.u64.bits ((Int.ofNat w).fdiv (2 ^ min (Int.toNat 0) IntKind.u64.bits)) ||| BitVec.ofInt IntKind.u64.bits (IntKind.u64.wrap (IntKind.u64.wrap (1 * 2 ^ min (Int.toNat 16) IntKind.u64.bits) - 1)) | BinOp.xor => BitVec.ofInt IntKind.u64.bits ((Int.ofNat w).fdiv (2 ^ min (Int.toNat 0) IntKind.u64.bits)) ^^^ BitVec.ofInt IntKind.u64.bits (IntKind.u64.wrap (IntKind.u64.wrap (1 * 2 ^ min (Int.toNat 16) IntKind.u64.bits) - 1)) | _ => BitVec.ofInt IntKind.u64.bits ((Int.ofNat w).fdiv (2 ^ min (Int.toNat 0) IntKind.u64.bits)) &&& ~~~BitVec.ofInt IntKind.u64.bits (IntKind.u64.wrap (IntKind.u64.wrap (1 * 2 ^ min (Int.toNat 16) IntKind.u64.bits) - 1))).toNat % ((2 : Int) ^ IntKind.u64.bits).natAbs % ((2 : Int) ^ IntKind.u16.bits).natAbs)))) (.int .u16 (Int.ofNat x)), .val (some (.int .i64 (IntKind.i64.wrap (Int.ofNat x)))) (.int .i64 (Int.ofNat x)), .val (some (.int .i64 (IntKind.i64.wrap (Int.ofNat x - Int.ofNat 1)))) (.int .i64 z), .val (some (.bool (decide (z ≥ 0)))) (.bool true), .val (some (.bool (decide (z < 256)))) (.bool true)]) := by kernel_rfl
theorem ashead_run (w t : Nat) (z : Int) : runX Tryz.prog none_ 50 90 (.call 90 [.int .u64 (Int.ofNat w)] (startS Tryz.prog G)) [.pure 90 1 1 G (.int .i64 z), .val 109 1 8 (.int .u64 (Int.ofNat t))] = some ({ e := .ret, ts := [.tuple [.int .i64 z, .int .u64 (Int.ofNat t)]], s := { h := { bs := [(1, .cells true wf)], len := 1, esc := none, wr := [] }, nx := 2 } }, [], [.pure [(1, wf)] 108 [.int .u64 (Int.ofNat w)] (.int .i64 z), .val (some (.int .u64 (Int.ofNat ((match BinOp.and with | BinOp.and => BitVec.ofInt IntKind.u64.bits ((Int.ofNat w).fdiv (2 ^ min (Int.toNat 16) IntKind.u64.bits)) &&& BitVec.ofInt IntKind.u64.bits (IntKind.u64.wrap (IntKind.u64.wrap (1 * 2 ^ min (Int.toNat 48) IntKind.u64.bits) - 1)) | BinOp.or => BitVec.ofInt IntKind.u64.bits ((Int.ofNat w).fdiv (2 ^ min (Int.toNat 16) IntKind.u64.bits)) ||| BitVec.ofInt IntKind.u64.bits (IntKind.u64.wrap (IntKind.u64.wrap (1 * 2 ^ min (Int.toNat 48) IntKind.u64.bits) - 1)) | BinOp.xor => BitVec.ofInt IntKind.u64.bits ((Int.ofNat w).fdiv (2 ^ min (Int.toNat 16) IntKind.u64.bits)) ^^^ BitVec.ofInt IntKind.u64.bits (IntKind.u64.wrap (IntKind.u64.wrap (1 * 2 ^ min (Int.toNat 48) IntKind.u64.bits) - 1)) | _ => BitVec.ofInt IntKind.u64.bits ((Int.ofNat w).fdiv (2 ^ min (Int.toNat 16) IntKind.u64.bits)) &&& ~~~BitVec.ofInt IntKind.u64.bits (IntKind.u64.wrap (IntKind.u64.wrap (1 * 2 ^ min (Int.toNat 48) IntKind.u64.bits) - 1))).toNat % ((2 : Int) ^ IntKind.u64.bits).natAbs)))) (.int .u64 (Int.ofNat t))]) := by kernel_rfl
theorem sd_a (s : Int) : runX Tryz.prog none_ 50 110 (.call 110 [.int .i64 s] (startS Tryz.prog [])) [.val 122 1 1 (.bool false)] = some ({ e := .ret, ts := [.int .u64 (Int.ofNat 0)], s := { h := { bs := [], len := 0, esc := none, wr := [] }, nx := 2 } }, [], [.val (some (.bool (decide (s ≥ 0)))) (.bool false)]) := by kernel_rfl
theorem sd_b (s : Int) : runX Tryz.prog none_ 50 110 (.call 110 [.int .i64 s] (startS Tryz.prog [])) [.val 122 1 1 (.bool true), .val 122 1 4 (.bool false)] = some ({ e := .ret, ts := [.int .u64 (Int.ofNat 0)], s := { h := { bs := [], len := 0, esc := none, wr := [] }, nx := 2 } }, [], [.val (some (.bool (decide (s ≥ 0)))) (.bool true), .val (some (.bool (decide (s < 256)))) (.bool false)]) := by kernel_rfl
theorem sd_c (s z : Int) (n : Nat) : runX Tryz.prog none_ 50 110 (.call 110 [.int .i64 s] (startS Tryz.prog [])) [.val 122 1 1 (.bool true), .val 122 1 4 (.bool true), .val 110 3 1 (.int .i64 z), .val 110 3 2 (.int .u64 (Int.ofNat n))] = some ({ e := .ret, ts := [.int .u64 (Int.ofNat n)], s := { h := { bs := [], len := 0, esc := none, wr := [] }, nx := 2 } }, [], [.val (some (.bool (decide (s ≥ 0)))) (.bool true), .val (some (.bool (decide (s < 256)))) (.bool true), .val (some (.int .i64 (IntKind.i64.wrap (s + Int.ofNat 1)))) (.int .i64 z), .val (some (.int .u64 (IntKind.u64.wrap z))) (.int .u64 (Int.ofNat n))]) := by kernel_rfl
theorem head_run (s : Int) (t d t1 t2 w : Nat) : runX Tryz.prog none_ 50 92 (.call 92 [.int .i64 s, .int .u64 (Int.ofNat t)] (startS Tryz.prog G)) [.pure 92 1 1 [] (.int .u64 (Int.ofNat d)), .val 56 1 4 (.int .u64 (Int.ofNat t1)), .val 56 1 9 (.int .u64 (Int.ofNat t2)), .val 56 1 10 (.int .u64 (Int.ofNat w))] = some ({ e := .ret, ts := [.int .u64 (Int.ofNat w)], s := { h := { bs := [(1, .cells true wf)], len := 1, esc := none, wr := [] }, nx := 2 } }, [], [.pure [] 110 [.int .i64 s] (.int .u64 (Int.ofNat d)), .val (some (.int .u64 (Int.ofNat ((match BinOp.and with | BinOp.and => BitVec.ofInt IntKind.u64.bits (Int.ofNat t) &&& BitVec.ofInt IntKind.u64.bits (IntKind.u64.wrap (IntKind.u64.wrap (1 * 2 ^ min (Int.toNat 48) IntKind.u64.bits) - 1)) | BinOp.or => BitVec.ofInt IntKind.u64.bits (Int.ofNat t) ||| BitVec.ofInt IntKind.u64.bits (IntKind.u64.wrap (IntKind.u64.wrap (1 * 2 ^ min (Int.toNat 48) IntKind.u64.bits) - 1)) | BinOp.xor => BitVec.ofInt IntKind.u64.bits (Int.ofNat t) ^^^ BitVec.ofInt IntKind.u64.bits (IntKind.u64.wrap (IntKind.u64.wrap (1 * 2 ^ min (Int.toNat 48) IntKind.u64.bits) - 1)) | _ => BitVec.ofInt IntKind.u64.bits (Int.ofNat t) &&& ~~~BitVec.ofInt IntKind.u64.bits (IntKind.u64.wrap (IntKind.u64.wrap (1 * 2 ^ min (Int.toNat 48) IntKind.u64.bits) - 1))).toNat % ((2 : Int) ^ IntKind.u64.bits).natAbs)))) (.int .u64 (Int.ofNat t1)), .val (some (.int .u64 (Int.ofNat (t1 * 2 ^ min (Int.toNat 16) IntKind.u64.bits % ((2 : Int) ^ IntKind.u64.bits).natAbs)))) (.int .u64 (Int.ofNat t2)), .val (some (.int .u64 (Int.ofNat ((match BinOp.or with | BinOp.and => BitVec.ofInt IntKind.u64.bits (Int.ofNat d) &&& BitVec.ofInt IntKind.u64.bits (Int.ofNat t2) | BinOp.or => BitVec.ofInt IntKind.u64.bits (Int.ofNat d) ||| BitVec.ofInt IntKind.u64.bits (Int.ofNat t2) | BinOp.xor => BitVec.ofInt IntKind.u64.bits (Int.ofNat d) ^^^ BitVec.ofInt IntKind.u64.bits (Int.ofNat t2) | _ => BitVec.ofInt IntKind.u64.bits (Int.ofNat d) &&& ~~~BitVec.ofInt IntKind.u64.bits (Int.ofNat t2)).toNat % ((2 : Int) ^ IntKind.u64.bits).natAbs)))) (.int .u64 (Int.ofNat w))]) := by kernel_rfl
def slI (w : Nat) : Int := if 1 ≤ w % 65536 ∧ w % 65536 ≤ 256 then Int.ofNat (w % 65536) - 1 else -1
def tgN (w : Nat) : Nat := w / 65536 % 281474976710656
def sdN (s : Int) : Nat := if 0 ≤ s ∧ s < 256 then s.toNat + 1 else 0
def hdN (s : Int) (t : Nat) : Nat := sdN s + 65536 * (t % 281474976710656)
theorem sdN_le (s : Int) : sdN s ≤ 256 := by unfold sdN; split <;> omega
theorem hdN_lt (s : Int) (t : Nat) : hdN s t < 18446744073709551616 := by
  have := sdN_le s
  unfold hdN
  omega
theorem slI_hdN (s : Int) (t : Nat) (h : s = -1 ∨ (0 ≤ s ∧ s < 256)) : slI (hdN s t) = s := by
  have h1 := sdN_le s
  have e : hdN s t % 65536 = sdN s := by unfold hdN; omega
  unfold slI
  rw [e]
  unfold sdN
  rcases h with rfl | h
  · simp
  · rw [if_pos h, if_pos (by omega)]
    simp only [Int.ofNat_eq_natCast]
    omega
theorem nat16 : ((2 : Int) ^ IntKind.u16.bits).natAbs = 65536 := by decide
theorem slot_call (w : Nat) (hw : w < 18446744073709551616) (s : AS) (hG : hasG s G = true) : Sound Tryz.prog (.call 108 [.int .u64 (Int.ofNat w)] s) ⟨.ret, [.int .i64 (slI w)], s⟩ := by
  have h1 := w_take w 0 16 hw (by omega) (by omega) .u16 65536 nat16 (by omega)
  rw [show w / 2 ^ 0 % 2 ^ 16 = w % 65536 from by simp] at h1
  have hx : w % 65536 < 65536 := Nat.mod_lt _ (by omega)
  generalize hxx : w % 65536 = x at h1 hx
  have h2 : some (AV.int .i64 (IntKind.i64.wrap (Int.ofNat x))) = some (AV.int .i64 (Int.ofNat x)) := i64_of (by omega)
  have h3 : some (AV.int .i64 (IntKind.i64.wrap (Int.ofNat x - Int.ofNat 1))) = some (AV.int .i64 (Int.ofNat x - 1)) := by
    rw [i64_wrap (by simp only [Int.ofNat_eq_natCast]; omega) (by simp only [Int.ofNat_eq_natCast]; omega)]
    rfl
  have sl : slI w = if 1 ≤ x ∧ x ≤ 256 then Int.ofNat x - 1 else -1 := by unfold slI; rw [hxx]
  rw [sl]
  by_cases c1 : 1 ≤ x
  · by_cases c2 : x ≤ 256
    · rw [if_pos ⟨c1, c2⟩]
      exact Sound.pure (G := G) (runX_sound mixed none_sound (slot_c w x (Int.ofNat x - 1)) ⟨h1, h2, h3, by simp [Qst.ok]; omega, by simp [Qst.ok]; omega, trivial⟩) (by kernel_rfl) rfl rfl hG
    · rw [if_neg (by omega)]
      exact Sound.pure (G := G) (runX_sound mixed none_sound (slot_b w x (Int.ofNat x - 1)) ⟨h1, h2, h3, by simp [Qst.ok]; omega, by simp [Qst.ok]; omega, trivial⟩) (by kernel_rfl) rfl rfl hG
  · rw [if_neg (by omega)]
    exact Sound.pure (G := G) (runX_sound mixed none_sound (slot_a w x (Int.ofNat x - 1)) ⟨h1, h2, h3, by simp [Qst.ok]; omega, trivial⟩) (by kernel_rfl) rfl rfl hG
theorem ashead_call (w : Nat) (hw : w < 18446744073709551616) (s : AS) (hG : hasG s G = true) : Sound Tryz.prog (.call 90 [.int .u64 (Int.ofNat w)] s) ⟨.ret, [.tuple [.int .i64 (slI w), .int .u64 (Int.ofNat (tgN w))]], s⟩ := by
  have h4 := w_take64 w 16 48 hw (by omega) (by omega)
  exact Sound.pure (G := G) (runX_sound mixed none_sound (ashead_run w (tgN w) (slI w)) ⟨fun s hs => slot_call w hw s hs, h4, trivial⟩) (by kernel_rfl) rfl rfl hG
theorem slotted_call (x : Int) (h0 : -9223372036854775808 ≤ x) (h1 : x < 9223372036854775808) (s : AS) : Sound Tryz.prog (.call 110 [.int .i64 x] s) ⟨.ret, [.int .u64 (Int.ofNat (sdN x))], s⟩ := by
  unfold sdN
  by_cases c1 : 0 ≤ x
  · by_cases c2 : x < 256
    · rw [if_pos ⟨c1, c2⟩]
      refine Sound.pure (G := []) (runX_sound mixed none_sound (sd_c x (x + 1) (x.toNat + 1)) ⟨by simp [Qst.ok]; omega, by simp [Qst.ok]; omega, ?_, ?_, trivial⟩) rfl rfl rfl rfl
      · show some _ = some _
        rw [i64_wrap (by simp only [Int.ofNat_eq_natCast]; omega) (by simp only [Int.ofNat_eq_natCast]; omega)]
        rfl
      · show some _ = some _
        rw [u64_wrap (by omega) (by omega)]
        have : x + 1 = Int.ofNat (x.toNat + 1) := by simp only [Int.ofNat_eq_natCast]; omega
        rw [this]
    · rw [if_neg (by omega)]
      exact Sound.pure (G := []) (runX_sound mixed none_sound (sd_b x) ⟨by simp [Qst.ok]; omega, by simp [Qst.ok]; omega, trivial⟩) rfl rfl rfl rfl
  · rw [if_neg (by omega)]
    exact Sound.pure (G := []) (runX_sound mixed none_sound (sd_a x) ⟨by simp [Qst.ok]; omega, trivial⟩) rfl rfl rfl rfl
theorem head_call (x : Int) (t : Nat) (h0 : -9223372036854775808 ≤ x) (h1 : x < 9223372036854775808) (ht : t < 18446744073709551616) (s : AS) (hG : hasG s G = true) : Sound Tryz.prog (.call 92 [.int .i64 x, .int .u64 (Int.ofNat t)] s) ⟨.ret, [.int .u64 (Int.ofNat (hdN x t))], s⟩ := by
  have hd := sdN_le x
  have q := w_or (sdN x) (t % 2 ^ 48) 16 (by omega) (by omega) (by omega)
  refine Sound.pure (G := G) (runX_sound mixed none_sound (head_run x t (sdN x) (t % 2 ^ 48) (t % 2 ^ 48 * 2 ^ 16) (hdN x t)) ⟨fun s _ => slotted_call x h0 h1 s, w_and _ 48 ht (by omega), w_shl _ 16 (by omega) (by omega), ?_, trivial⟩) (by kernel_rfl) rfl rfl hG
  refine q.trans ?_
  unfold hdN
  rw [show sdN x + 2 ^ 16 * (t % 2 ^ 48) = sdN x + 65536 * (t % 281474976710656) from by omega]
end Go.Proofs.YtofbdgmknfbkfaaGreatDoor.nodesLife
namespace Go.Proofs.YtofbdgmknfbkfaaGreatDoor.nodesLife
open Go Go.Mini
/-! ### plain facts of words and maps -/
theorem get_put {a b : A3} {v : Nat} : ∀ {ms : MS}, getW (putW ms a v) b = if b = a then v else getW ms b
  | [] => by simp only [putW, getW]
  | x :: t => by
    simp only [putW]
    split
    · rename_i h
      subst h
      simp only [getW]
      split <;> rfl
    · rename_i h
      simp only [getW]
      split
      · rename_i h2
        rw [if_neg (fun e => h (e.symm.trans h2))]
      · exact get_put
theorem may_mkw {s g m : Nat} (hs4 : s ≤ 3) (hg4 : g ≤ m) (hm : m < 4294967296) : mayP (mkw s g) m = true := by
  unfold mayP
  rw [hs_mkw (by omega), hg_mkw (by omega) (by omega)]
  simp
  omega
theorem may_mkw4 {m : Nat} (hm : m < 4294967296) : mayP (mkw 4 m) m = true := by
  unfold mayP
  rw [hs_mkw (by omega), hg_mkw (by omega) (by omega)]
  simp
theorem of_12 {g m : Nat} (hg4 : g ≤ m) (hm : m < 4294967296) : ofF (mkw 1 g) (mkw 2 g) m = 2 := by
  unfold ofF
  rw [if_pos ⟨may_mkw (by omega) hg4 hm, may_mkw (by omega) hg4 hm⟩, hs_mkw (by omega), hs_mkw (by omega), hg_mkw (by omega) (by omega), hg_mkw (by omega) (by omega)]
  simp
theorem of_01 {g m : Nat} (hg4 : g ≤ m) (hm : m < 4294967296) : ofF (mkw 0 g) (mkw 1 g) m = 1 := by
  unfold ofF
  rw [if_pos ⟨may_mkw (by omega) hg4 hm, may_mkw (by omega) hg4 hm⟩, hs_mkw (by omega), hs_mkw (by omega), hg_mkw (by omega) (by omega), hg_mkw (by omega) (by omega)]
  simp
theorem of_20 {g m : Nat} (hg4 : g < m) (hm : m < 4294967296) : ofF (mkw 2 g) (mkw 0 (g + 1)) m = 3 := by
  unfold ofF
  rw [if_pos ⟨may_mkw (by omega) (by omega) hm, may_mkw (by omega) (by omega) hm⟩, hs_mkw (by omega), hs_mkw (by omega), hg_mkw (by omega) (by omega), hg_mkw (by omega) (by omega)]
  simp
  omega
theorem of_24 {m : Nat} (hm : m < 4294967296) : ofF (mkw 2 m) (mkw 4 m) m = 5 := by
  unfold ofF
  rw [if_pos ⟨may_mkw (by omega) (by omega) hm, may_mkw4 hm⟩, hs_mkw (by omega), hs_mkw (by omega), hg_mkw (by omega) (by omega), hg_mkw (by omega) (by omega)]
  simp
theorem of_10 {g m : Nat} (hg4 : g < m) (hm : m < 4294967296) : ofF (mkw 1 g) (mkw 0 (g + 1)) m = 4 := by
  unfold ofF
  rw [if_pos ⟨may_mkw (by omega) (by omega) hm, may_mkw (by omega) (by omega) hm⟩, hs_mkw (by omega), hs_mkw (by omega), hg_mkw (by omega) (by omega), hg_mkw (by omega) (by omega)]
  simp
  omega
theorem of_14 {m : Nat} (hm : m < 4294967296) : ofF (mkw 1 m) (mkw 4 m) m = 5 := by
  unfold ofF
  rw [if_pos ⟨may_mkw (by omega) (by omega) hm, may_mkw4 hm⟩, hs_mkw (by omega), hs_mkw (by omega), hg_mkw (by omega) (by omega), hg_mkw (by omega) (by omega)]
  simp
end Go.Proofs.YtofbdgmknfbkfaaGreatDoor.nodesLife
namespace Go.Proofs.YtofbdgmknfbkfaaGreatDoor.nodesLife
open Go Go.Mini
/-! ### threads that make, retire and drop, plainly -/
def aZ (z f : Nat) : A3 := (9, Int.ofNat z, Int.ofNat f)
def aSg (k f : Nat) : A3 := (6, Int.ofNat k, Int.ofNat f)
def aTh (k f : Nat) : A3 := (8, Int.ofNat k, Int.ofNat f)
def aF : A3 := (0, 0, 0)
def aEp : A3 := (1, 0, 0)
def aEra : A3 := (2, 0, 0)
def aPh : A3 := (3, 0, 0)
def aBl : A3 := (5, 0, 0)
abbrev RefP := Nat × Nat
structure Ent where
  z : Nat
  g : Nat
  b : Nat
  e : Nat
  r : Nat
/-- Lines of a Free. -/
inductive Fr where
  | f1 (z : Nat)
  | f2 (z g : Nat)
  | f3 (z : Nat)
  | p1 (z h : Nat)
  | p2 (z h : Nat)
  | p3 (z h : Nat)
  | c1 (z n : Nat)
  | c2 (z n : Nat)
def Fr.z : Fr → Nat
  | .f1 z => z
  | .f2 z _ => z
  | .f3 z => z
  | .p1 z _ => z
  | .p2 z _ => z
  | .p3 z _ => z
  | .c1 z _ => z
  | .c2 z _ => z
/-- Lines of a scan, ahead of its sweep. -/
inductive Sc where
  | s1
  | v1
  | v2 (e : Nat)
  | v3 (e i : Nat)
  | v4 (e : Nat)
  | w1
  | w2 (e : Nat)
  | t1
  | t2 (i : Nat)
  | s5
inductive Op where
  | no
  | a1 (h : Nat) (x : Int)
  | a2 (h : Nat) (x : Int)
  | a3 (h : Nat) (x : Int)
  | a4 (z h : Nat) (x : Int)
  | a5 (z h : Nat) (x : Int)
  | a6 (z h : Nat) (x : Int) (e : Nat)
  | a7 (z e : Nat)
  | a8 (z e g : Nat)
  | mk (z g k : Nat)
  | rt (l z g b e r : Nat)
  | sc (y : Nat) (s : Sc)
  | fr (y : Nat) (x : Fr) (goes : List Ent) (freed : List RefP)
  | dr (x : Fr)
structure Th where
  held : List RefP
  L : List Ent
  op : Op
def Ent.ref (x : Ent) : RefP := (x.z, x.g)
/-- By which scheme a scan goes, by the phase's word. -/
def byW (w : Nat) : Nat := if w % 8 = 3 then w / 64 % 8 else w / 8 % 8
def mkV (k : Nat) : Nat := if k = 0 then 1 else if k = 1 then 2 else 0
/-- A step of a Free; none: it is over. -/
def fgo (most : Nat) (M : PM) : Fr → PM × Option Fr
  | .f1 z => (M.load (aZ z 0), some (.f2 z (hg (getW M.ms (aZ z 0)))))
  | .f2 z g => if most ≤ g then (M.store (aZ z 0) (mkw 4 g), some (.c1 z 0)) else (M.store (aZ z 0) (mkw 0 (g + 1)), some (.f3 z))
  | .f3 z => (M.load (aSg (z / 8) 0), some (.p1 z 0))
  | .p1 z _ => (M.load aF, some (.p2 z (getW M.ms aF)))
  | .p2 z h => (M.store (aZ z 2) (hdN (slI h) 0), some (.p3 z h))
  | .p3 z h => (M.cas aF h (hdN (Int.ofNat z) (tgN h + 1)), if M.casd aF h then none else some (.p1 z h))
  | .c1 z _ => (M.load (aSg (z / 8) 1), some (.c2 z (getW M.ms (aSg (z / 8) 1))))
  | .c2 z n => (M.cas (aSg (z / 8) 1) n ((n + 1) % 18446744073709551616), if M.casd (aSg (z / 8) 1) n then none else some (.c1 z n))
/-- What goes next. -/
def nextF (y : Nat) (goes : List Ent) (freed : List RefP) : Op := match goes with
  | [] => .no
  | e :: l => .fr y (.f1 e.z) l (freed ++ [e.ref])
def pick (sel : Nat → Bool) : Nat → List Ent → List Ent
  | _, [] => []
  | i, e :: l => if sel i then e :: pick sel (i + 1) l else pick sel (i + 1) l
/-- A step of what a thread does: the memory, the thread, what a scan freed. -/
def go (most thr : Nat) (sel : Nat → Bool) (M : PM) (t : Th) : PM × Th × List RefP := match t.op with
  | .no => (M, t, [])
  | .a1 _ x => (M.load aF, ⟨t.held, t.L, if slI (getW M.ms aF) < 0 then .no else .a2 (getW M.ms aF) x⟩, [])
  | .a2 h _ => (M.load (aZ (slI h).toNat 2), ⟨t.held, t.L, .a3 h (slI (getW M.ms (aZ (slI h).toNat 2)))⟩, [])
  | .a3 h x => (M.cas aF h (hdN x (tgN h + 1)), ⟨t.held, t.L, if M.casd aF h then .a4 (slI h).toNat h x else .a1 h x⟩, [])
  | .a4 z h x => (M.load (aSg (z / 8) 0), ⟨t.held, t.L, .a5 z h x⟩, [])
  | .a5 z h x => (M.load aEra, ⟨t.held, t.L, .a6 z h x (getW M.ms aEra)⟩, [])
  | .a6 z _ _ e => (M.store (aZ z 1) e, ⟨t.held, t.L, .a7 z e⟩, [])
  | .a7 z e => (M.load (aZ z 0), ⟨t.held, t.L, .a8 z e (hg (getW M.ms (aZ z 0)))⟩, [])
  | .a8 z _ g => (M.store (aZ z 0) (mkw 1 g), ⟨t.held ++ [(z, g)], t.L, .mk z g 0⟩, [])
  | .mk z g k => (M.store (aZ z (5 + k)) (mkV k), ⟨t.held, t.L, if k = 2 then .no else .mk z g (k + 1)⟩, [])
  | .rt 1 z g b _ r => (M.load aEp, ⟨t.held, t.L, .rt 2 z g b (getW M.ms aEp) r⟩, [])
  | .rt 2 z g b e _ => (M.load aEra, ⟨t.held, t.L, .rt 3 z g b e (getW M.ms aEra)⟩, [])
  | .rt 3 z g _ e r => (M.load (aZ z 1), ⟨t.held, t.L, .rt 4 z g (getW M.ms (aZ z 1)) e r⟩, [])
  | .rt 4 z g b e r => (M.store (aZ z 3) e, ⟨t.held, t.L, .rt 5 z g b e r⟩, [])
  | .rt 5 z g b e r => (M.store (aZ z 4) r, ⟨t.held, t.L, .rt 6 z g b e r⟩, [])
  | .rt _ z g b e r => (M.store (aZ z 0) (mkw 2 g), ⟨t.held, t.L ++ [⟨z, g, b, e, r⟩], if thr ≤ t.L.length + 1 then .sc 0 .s1 else .no⟩, [])
  | .sc _ .s1 => (M.load aPh, ⟨t.held, t.L, .sc (byW (getW M.ms aPh)) .v1⟩, [])
  | .sc y .v1 => (M.load aEp, ⟨t.held, t.L, .sc y (.v2 (getW M.ms aEp))⟩, [])
  | .sc y (.v2 e) => (M.load aBl, ⟨t.held, t.L, .sc y (.v3 e 0)⟩, [])
  | .sc y (.v3 e i) => (M.load (aTh i 3), ⟨t.held, t.L, .sc y (if i = 3 then .v4 e else .v3 e (i + 1))⟩, [])
  | .sc y (.v4 e) => (M.cas aEp e ((e + 1) % 18446744073709551616), ⟨t.held, t.L, .sc y .w1⟩, [])
  | .sc y .w1 => (M.load aEra, ⟨t.held, t.L, .sc y (.w2 (getW M.ms aEra))⟩, [])
  | .sc y (.w2 e) => (M.cas aEra e ((e + 1) % 18446744073709551616), ⟨t.held, t.L, .sc y .t1⟩, [])
  | .sc y .t1 => (M.load aBl, ⟨t.held, t.L, .sc y (.t2 0)⟩, [])
  | .sc y (.t2 i) => (M.load (aTh i 0), ⟨t.held, t.L, .sc y (if i = 3 then .s5 else .t2 (i + 1))⟩, [])
  | .sc y .s5 => (M.load aEp, ⟨t.held, pick (fun i => !sel i) 0 t.L, nextF y (pick sel 0 t.L) []⟩, [])
  | .fr y x goes freed => match fgo most M x with
    | (M', some x') => (M', ⟨t.held, t.L, .fr y x' goes freed⟩, [])
    | (M', none) => (M', ⟨t.held, t.L, nextF y goes freed⟩, if goes = [] then freed else [])
  | .dr x => match fgo most M x with
    | (M', some x') => (M', ⟨t.held, t.L, .dr x'⟩, [])
    | (M', none) => (M', ⟨t.held, t.L, .no⟩, [])
end Go.Proofs.YtofbdgmknfbkfaaGreatDoor.nodesLife
namespace Go.Proofs.YtofbdgmknfbkfaaGreatDoor.nodesLife
open Go Go.Mini
/-! ### what holds of the memory and the threads -/
def hdr (M : PM) (z : Nat) : Nat := getW M.ms (aZ z 0)
def lnk (M : PM) (z : Nat) : Int := slI (getW M.ms (aZ z 2))
def hdW (M : PM) : Nat := getW M.ms aF
def dead (M : PM) (r : RefP) : Prop := r.2 < hg (hdr M r.1) ∨ hs (hdr M r.1) = 4
def Lt (M : PM) : Prop := ∀ a, getW M.ms a < 18446744073709551616
structure Con (M : PM) : Prop where
  s0 : getW M.ms (aSg 0 0) = 1
  s1 : getW M.ms (aSg 1 0) = 1
  bl : getW M.ms aBl = 1
  th : ∀ k f, getW M.ms (aTh k f) = 0
structure Chg (M M' : PM) (Z : Nat → Prop) : Prop where
  hdr : ∀ z, ¬ Z z → hdr M' z = hdr M z
  lnk : ∀ z, ¬ Z z → lnk M' z = lnk M z
  dead : ∀ r, dead M r → dead M' r
  head : hdW M' = hdW M ∨ tgN (hdW M') = tgN (hdW M) + 1
  con : Con M → Con M'
  lt : Lt M → Lt M'
def cok (M : PM) (h : Nat) : Prop := tgN h < tgN (hdW M) ∨ h = hdW M
def hasF (M : PM) (most z : Nat) : Prop := ∃ g, g ≤ most ∧ hdr M z = mkw 0 g
def frOk (most : Nat) (M : PM) (s0 : Nat) : Fr → Prop
  | .f1 z => ∃ g, g ≤ most ∧ hdr M z = mkw s0 g
  | .f2 z g => g ≤ most ∧ hdr M z = mkw s0 g
  | .f3 z => hasF M most z
  | .p1 z _ => hasF M most z
  | .p2 z h => hasF M most z ∧ cok M h
  | .p3 z h => hasF M most z ∧ cok M h ∧ lnk M z = slI h
  | .c1 z _ => hdr M z = mkw 4 most
  | .c2 z _ => hdr M z = mkw 4 most
/-- What is freed now: still retired, or dead. -/
def curOk (M : PM) (c : RefP) : Fr → Prop
  | .f1 z => hdr M z = mkw 2 c.2
  | .f2 z _ => hdr M z = mkw 2 c.2
  | _ => dead M c
def slR (x : Int) : Prop := x = -1 ∨ 0 ≤ x ∧ x < 256
def opOk (most : Nat) (M : PM) (t : Th) : Prop := match t.op with
  | .a2 h _ => cok M h ∧ 0 ≤ slI h
  | .a3 h x => cok M h ∧ 0 ≤ slI h ∧ slR x ∧ (h = hdW M → x = lnk M (slI h).toNat)
  | .a4 z _ _ => hasF M most z
  | .a5 z _ _ => hasF M most z
  | .a6 z _ _ e => hasF M most z ∧ e < 18446744073709551616
  | .a7 z _ => hasF M most z
  | .a8 z _ g => g ≤ most ∧ hdr M z = mkw 0 g
  | .mk z g k => (z, g) ∈ t.held ∧ k ≤ 2
  | .rt l z g b e r => g ≤ most ∧ hdr M z = mkw 1 g ∧ 1 ≤ l ∧ l ≤ 6 ∧ b < 18446744073709551616 ∧ e < 18446744073709551616 ∧ r < 18446744073709551616
  | .sc _ (.v3 _ i) => i ≤ 3
  | .sc _ (.t2 i) => i ≤ 3
  | .fr _ x goes freed => frOk most M 2 x ∧ (∀ e ∈ goes, e.g ≤ most ∧ hdr M e.z = mkw 2 e.g) ∧ ∃ done c, freed = done ++ [c] ∧ c.1 = x.z ∧ (∀ r ∈ done, dead M r) ∧ curOk M c x
  | .dr x => frOk most M 1 x
  | _ => True
structure ThOk (most : Nat) (M : PM) (t : Th) : Prop where
  held : ∀ r ∈ t.held, r.2 ≤ most ∧ hdr M r.1 = mkw 1 r.2
  L : ∀ e ∈ t.L, e.g ≤ most ∧ hdr M e.z = mkw 2 e.g
  op : opOk most M t
def ownO : Op → List Nat
  | .a4 z _ _ => [z]
  | .a5 z _ _ => [z]
  | .a6 z _ _ _ => [z]
  | .a7 z _ => [z]
  | .a8 z _ _ => [z]
  | .rt _ z _ _ _ _ => [z]
  | .fr _ x goes _ => x.z :: goes.map Ent.z
  | .dr x => [x.z]
  | _ => []
def own (t : Th) : List Nat := t.held.map (·.1) ++ (t.L.map Ent.z ++ ownO t.op)
def hdI : List Nat → Int
  | [] => -1
  | z :: _ => Int.ofNat z
def chain (M : PM) : List Nat → Prop
  | [] => True
  | z :: l => lnk M z = hdI l ∧ chain M l
def tunT (th : Nat → Th) (k : Nat) (t : Th) : Nat → Th := fun j => if j = k then t else th j
structure Inv (most K : Nat) (M : PM) (FL : List Nat) (th : Nat → Th) (G : List RefP) : Prop where
  lt : Lt M
  con : Con M
  hd : slI (hdW M) = hdI FL
  tg : tgN (hdW M) ≤ K
  ch : chain M FL
  fl : ∀ z ∈ FL, hasF M most z
  nF : FL.Nodup
  nO : ∀ k, k < 3 → (own (th k)).Nodup
  dF : ∀ k, k < 3 → ∀ z ∈ own (th k), z ∉ FL
  dO : ∀ j, j < 3 → ∀ k, k < 3 → j ≠ k → ∀ z ∈ own (th j), z ∉ own (th k)
  rF : ∀ z ∈ FL, z < 16
  rO : ∀ k, k < 3 → ∀ z ∈ own (th k), z < 16
  ok : ∀ k, k < 3 → ThOk most M (th k)
  G : ∀ r ∈ G, dead M r
theorem hasF.chg {M M' : PM} {Z : Nat → Prop} {most z : Nat} (c : Chg M M' Z) (hz : ¬ Z z) (h : hasF M most z) : hasF M' most z := by
  obtain ⟨g, h1, h2⟩ := h
  exact ⟨g, h1, by rw [c.hdr z hz]; exact h2⟩
theorem cok.chg {M M' : PM} {Z : Nat → Prop} {h : Nat} (c : Chg M M' Z) (hc : cok M h) : cok M' h := by
  unfold cok at hc ⊢
  rcases c.head with e | e
  · rw [e]
    exact hc
  · left
    rcases hc with hc | hc
    · omega
    · rw [hc]
      omega
theorem frOk.chg {M M' : PM} {Z : Nat → Prop} {most s0 : Nat} {x : Fr} (c : Chg M M' Z) (hz : ¬ Z x.z) (h : frOk most M s0 x) : frOk most M' s0 x := by
  cases x with
  | f1 z =>
    obtain ⟨g, h1, h2⟩ := h
    exact ⟨g, h1, (c.hdr z hz).trans h2⟩
  | f2 z g => exact ⟨h.1, (c.hdr z hz).trans h.2⟩
  | f3 z => exact hasF.chg c hz h
  | p1 z h' => exact hasF.chg c hz h
  | p2 z h' => exact ⟨hasF.chg c hz h.1, h.2.chg c⟩
  | p3 z h' => exact ⟨hasF.chg c hz h.1, h.2.1.chg c, (c.lnk z hz).trans h.2.2⟩
  | c1 z n => exact (c.hdr z hz).trans h
  | c2 z n => exact (c.hdr z hz).trans h
theorem curOk.chg {M M' : PM} {Z : Nat → Prop} {x : Fr} {r : RefP} (c : Chg M M' Z) (hz : ¬ Z x.z) (h : curOk M r x) : curOk M' r x := by
  cases x with
  | f1 z => exact (c.hdr z hz).trans h
  | f2 z g => exact (c.hdr z hz).trans h
  | f3 z => exact c.dead _ h
  | p1 z h' => exact c.dead _ h
  | p2 z h' => exact c.dead _ h
  | p3 z h' => exact c.dead _ h
  | c1 z n => exact c.dead _ h
  | c2 z n => exact c.dead _ h
/-- Another one's change. -/
theorem ThOk.other {M M' : PM} {Z : Nat → Prop} {most : Nat} {t : Th} (h : ThOk most M t) (c : Chg M M' Z) (hz : ∀ z ∈ own t, ¬ Z z) (ha : 0 ≤ slI (hdW M) → ¬ Z (slI (hdW M)).toNat) : ThOk most M' t := by
  have o : ∀ z ∈ ownO t.op, ¬ Z z := fun z hz' => hz z (by simp [own, hz'])
  refine ⟨fun r hr => ?_, fun e he => ?_, ?_⟩
  · obtain ⟨h1, h2⟩ := h.held r hr
    exact ⟨h1, (c.hdr _ (hz _ (by simp only [own, List.mem_append, List.mem_map]; exact .inl ⟨r, hr, rfl⟩))).trans h2⟩
  · obtain ⟨h1, h2⟩ := h.L e he
    exact ⟨h1, (c.hdr _ (hz _ (by simp only [own, List.mem_append, List.mem_map]; exact .inr (.inl ⟨e, he, rfl⟩)))).trans h2⟩
  · have hop := h.op
    unfold opOk at hop ⊢
    obtain ⟨held, L, op⟩ := t
    cases op with
    | no => trivial
    | a1 h' x => trivial
    | a2 h' x => exact ⟨hop.1.chg c, hop.2⟩
    | a3 h' x =>
      obtain ⟨h1, h2, h3, h4⟩ := hop
      refine ⟨h1.chg c, h2, h3, fun e => ?_⟩
      rcases c.head with e2 | e2
      · rw [e2] at e
        subst e
        rw [c.lnk _ (ha h2)]
        exact h4 rfl
      · exfalso
        rcases h1 with h1 | h1
        · rw [e] at h1
          omega
        · rw [h1] at e
          rw [← e] at e2
          omega
    | a4 z h' x => exact hasF.chg c (o z (by simp [ownO])) hop
    | a5 z h' x => exact hasF.chg c (o z (by simp [ownO])) hop
    | a6 z h' x e => exact ⟨hasF.chg c (o z (by simp [ownO])) hop.1, hop.2⟩
    | a7 z e => exact hasF.chg c (o z (by simp [ownO])) hop
    | a8 z e g => exact ⟨hop.1, (c.hdr z (o z (by simp [ownO]))).trans hop.2⟩
    | mk z g k => exact hop
    | rt l z g b e r => exact ⟨hop.1, (c.hdr z (o z (by simp [ownO]))).trans hop.2.1, hop.2.2⟩
    | sc y s => cases s <;> exact hop
    | fr y x goes freed =>
      obtain ⟨h1, h2, done, cu, h3, h4, h5, h6⟩ := hop
      have hx : ¬ Z x.z := o _ (by simp [ownO])
      exact ⟨h1.chg c hx, fun e he => ⟨(h2 e he).1, (c.hdr _ (o _ (by simp only [ownO, List.mem_cons, List.mem_map]; exact .inr ⟨e, he, rfl⟩))).trans (h2 e he).2⟩, done, cu, h3, h4, fun r hr => c.dead r (h5 r hr), h6.chg c hx⟩
    | dr x => exact frOk.chg c (o _ (by simp [ownO])) hop
theorem chain.chg {M M' : PM} {Z : Nat → Prop} (c : Chg M M' Z) : ∀ {l : List Nat}, (∀ z ∈ l, ¬ Z z) → chain M l → chain M' l
  | [], _, _ => trivial
  | z :: l, hz, h => ⟨(c.lnk z (hz z (by simp))).trans h.1, chain.chg c (fun y hy => hz y (by simp [hy])) h.2⟩
theorem toN {z : Nat} : (Int.ofNat z).toNat = z := rfl
theorem Inv.hd_in {most K : Nat} {M : PM} {FL : List Nat} {th : Nat → Th} {G : List RefP} (I : Inv most K M FL th G) (h : 0 ≤ slI (hdW M)) : ∃ z l, FL = z :: l ∧ slI (hdW M) = Int.ofNat z := by
  cases FL with
  | nil =>
    rw [I.hd] at h
    exact absurd h (by decide)
  | cons z l => exact ⟨z, l, rfl, I.hd⟩
/-- A step of one thread, by what it changes. -/
theorem Inv.step {most K : Nat} {M : PM} {FL : List Nat} {th : Nat → Th} {G : List RefP} (I : Inv most K M FL th G) {k : Nat} (hk : k < 3) {M' : PM} {t' : Th} {FL' : List Nat} {out : List RefP} {Z : Nat → Prop} (c : Chg M M' Z) (hZ : ∀ z, Z z → z ∈ own (th k))
    (hd' : slI (hdW M') = hdI FL') (ch' : chain M' FL') (fl' : ∀ z ∈ FL', hasF M' most z) (nF' : FL'.Nodup) (nO' : (own t').Nodup) (dF' : ∀ z ∈ own t', z ∉ FL') (sub : ∀ z, z ∈ FL' ∨ z ∈ own t' → z ∈ FL ∨ z ∈ own (th k)) (ok' : ThOk most M' t') (G' : ∀ r ∈ out, dead M' r) :
    Inv most (K + 1) M' FL' (tunT th k t') (G ++ out) := by
  have tk : tunT th k t' k = t' := if_pos rfl
  have tj : ∀ j, j ≠ k → tunT th k t' j = th j := fun j hj => if_neg hj
  have out_ : ∀ j, j < 3 → j ≠ k → ∀ z ∈ own (th j), z ∉ FL ∧ z ∉ own (th k) := fun j hj hjk z hz => ⟨I.dF j hj z hz, I.dO j hj k hk hjk z hz⟩
  have r' : ∀ z, z ∈ FL' ∨ z ∈ own t' → z < 16 := fun z hz => (sub z hz).elim (I.rF z) (I.rO k hk z)
  refine ⟨c.lt I.lt, c.con I.con, hd', ?_, ch', fl', nF', fun j hj => ?_, fun j hj z hz => ?_, fun i hi j hj hij z hz => ?_, fun z hz => r' z (.inl hz), fun j hj z hz => ?_, fun j hj => ?_, fun r hr => ?_⟩
  · have := I.tg
    rcases c.head with e | e
    · rw [e]; omega
    · omega
  · by_cases e : j = k
    · subst e; rw [tk]; exact nO'
    · rw [tj j e]; exact I.nO j hj
  · by_cases e : j = k
    · subst e; rw [tk] at hz; exact dF' z hz
    · rw [tj j e] at hz
      intro hm
      have := out_ j hj e z hz
      exact (sub z (.inl hm)).elim this.1 this.2
  · by_cases e : i = k
    · subst e
      rw [tk] at hz
      rw [tj j (Ne.symm hij)]
      intro hm
      have := out_ j hj (Ne.symm hij) z hm
      exact (sub z (.inr hz)).elim this.1 this.2
    · rw [tj i e] at hz
      by_cases e2 : j = k
      · subst e2
        rw [tk]
        intro hm
        have := out_ i hi e z hz
        exact (sub z (.inr hm)).elim this.1 this.2
      · rw [tj j e2]
        exact I.dO i hi j hj hij z hz
  · by_cases e : j = k
    · subst e; rw [tk] at hz; exact r' z (.inr hz)
    · rw [tj j e] at hz; exact I.rO j hj z hz
  · by_cases e : j = k
    · subst e; rw [tk]; exact ok'
    · rw [tj j e]
      refine (I.ok j hj).other c (fun z hz hzz => (out_ j hj e z hz).2 (hZ z hzz)) fun h0 hzz => ?_
      obtain ⟨z, l, e1, e2⟩ := I.hd_in h0
      rw [e2, toN] at hzz
      exact I.dF k hk z (hZ z hzz) (by rw [e1]; simp)
  · rcases List.mem_append.1 hr with hr | hr
    · exact c.dead r (I.G r hr)
    · exact G' r hr
end Go.Proofs.YtofbdgmknfbkfaaGreatDoor.nodesLife
namespace Go.Proofs.YtofbdgmknfbkfaaGreatDoor.nodesLife
open Go Go.Mini
/-! ### a step of a thread keeps it -/
theorem get_store {M : PM} {a : A3} {u : Nat} (h : mayA a = true) (b : A3) : getW (M.store a u).ms b = if b = a then u else getW M.ms b := by
  unfold PM.store
  rw [if_pos h]
  exact get_put
theorem get_cas {M : PM} {a : A3} {w u : Nat} (b : A3) : getW (M.cas a w u).ms b = if M.casd a w = true ∧ b = a then u else getW M.ms b := by
  unfold PM.cas
  by_cases h : M.casd a w = true
  · rw [if_pos h]
    show getW (putW M.ms a u) b = _
    rw [get_put]
    by_cases e : b = a
    · rw [if_pos e, if_pos ⟨h, e⟩]
    · rw [if_neg e, if_neg fun x => e x.2]
  · rw [if_neg h, if_neg fun x => h x.1]
theorem mayZ {z f : Nat} (hz : z < 16) (hf : f < 8) : mayA (aZ z f) = true := by
  unfold mayA rmK inR aZ
  simp
  omega
theorem aZ_inj {z f z' f' : Nat} (h : aZ z f = aZ z' f') : z = z' ∧ f = f' := by
  simp only [aZ, Prod.mk.injEq, Int.ofNat_eq_natCast, true_and] at h
  omega
theorem aZ_F (z f : Nat) : aZ z f ≠ aF := by simp [aZ, aF]
theorem aZ_S (z f k j : Nat) : aZ z f ≠ aSg k j := by simp [aZ, aSg]
theorem aZ_T (z f k j : Nat) : aZ z f ≠ aTh k j := by simp [aZ, aTh]
theorem aZ_B (z f : Nat) : aZ z f ≠ aBl := by simp [aZ, aBl]
theorem chg_load (M : PM) (a : A3) : Chg M (M.load a) (fun _ => False) := ⟨fun _ _ => rfl, fun _ _ => rfl, fun _ h => h, .inl rfl, fun h => ⟨h.s0, h.s1, h.bl, h.th⟩, fun h => h⟩
theorem lt_store {M : PM} {a : A3} {u : Nat} (hm : mayA a = true) (hu : u < 18446744073709551616) (h : Lt M) : Lt (M.store a u) := fun b => by
  rw [get_store hm]
  split
  · exact hu
  · exact h b
theorem lt_cas {M : PM} {a : A3} {w u : Nat} (hu : u < 18446744073709551616) (h : Lt M) : Lt (M.cas a w u) := fun b => by
  rw [get_cas]
  split
  · exact hu
  · exact h b
/-- A store of another field of a slot. -/
theorem chg_field {M : PM} {z f u : Nat} (hz : z < 16) (hf : f < 8) (h0 : f ≠ 0) (h2 : f ≠ 2) (hu : u < 18446744073709551616) : Chg M (M.store (aZ z f) u) (fun _ => False) ∧ hdW (M.store (aZ z f) u) = hdW M := by
  have g := get_store (M := M) (u := u) (mayZ hz hf)
  have e0 : ∀ y, hdr (M.store (aZ z f) u) y = hdr M y := fun y => by
    unfold hdr
    rw [g, if_neg fun e => h0 (aZ_inj e).2.symm]
  have e2 : ∀ y, lnk (M.store (aZ z f) u) y = lnk M y := fun y => by
    unfold lnk
    rw [g, if_neg fun e => h2 (aZ_inj e).2.symm]
  have eh : hdW (M.store (aZ z f) u) = hdW M := by
    unfold hdW
    rw [g, if_neg fun e => aZ_F _ _ e.symm]
  refine ⟨⟨fun y _ => e0 y, fun y _ => e2 y, fun r h => by unfold dead at h ⊢; rw [e0]; exact h, .inl eh, fun h => ⟨?_, ?_, ?_, fun k j => ?_⟩, lt_store (mayZ hz hf) hu⟩, eh⟩
  · rw [g, if_neg fun e => aZ_S _ _ _ _ e.symm]; exact h.s0
  · rw [g, if_neg fun e => aZ_S _ _ _ _ e.symm]; exact h.s1
  · rw [g, if_neg fun e => aZ_B _ _ e.symm]; exact h.bl
  · rw [g, if_neg fun e => aZ_T _ _ _ _ e.symm]; exact h.th k j
/-- A store of a header. -/
theorem chg_hdr {M : PM} {z u : Nat} (hz : z < 16) (hu : u < 18446744073709551616) (hd : ∀ g, dead M (z, g) → g < hg u ∨ hs u = 4) : Chg M (M.store (aZ z 0) u) (fun y => y = z) ∧ hdW (M.store (aZ z 0) u) = hdW M ∧ hdr (M.store (aZ z 0) u) z = u ∧ ∀ y, lnk (M.store (aZ z 0) u) y = lnk M y := by
  have g := get_store (M := M) (u := u) (mayZ hz (show 0 < 8 by decide))
  have e0 : ∀ y, y ≠ z → hdr (M.store (aZ z 0) u) y = hdr M y := fun y hy => by
    unfold hdr
    rw [g, if_neg fun e => hy (aZ_inj e).1]
  have ez : hdr (M.store (aZ z 0) u) z = u := by
    unfold hdr
    rw [g, if_pos rfl]
  have e2 : ∀ y, lnk (M.store (aZ z 0) u) y = lnk M y := fun y => by
    unfold lnk
    rw [g, if_neg fun e => by have := (aZ_inj e).2; omega]
  have eh : hdW (M.store (aZ z 0) u) = hdW M := by
    unfold hdW
    rw [g, if_neg fun e => aZ_F _ _ e.symm]
  refine ⟨⟨fun y hy => e0 y hy, fun y _ => e2 y, fun r h => ?_, .inl eh, fun h => ⟨?_, ?_, ?_, fun k j => ?_⟩, lt_store (mayZ hz (by decide)) hu⟩, eh, ez, e2⟩
  · obtain ⟨y, n⟩ := r
    by_cases e : y = z
    · subst e
      unfold dead
      rw [ez]
      exact hd n h
    · unfold dead at h ⊢
      rw [e0 y e]
      exact h
  · rw [g, if_neg fun e => aZ_S _ _ _ _ e.symm]; exact h.s0
  · rw [g, if_neg fun e => aZ_S _ _ _ _ e.symm]; exact h.s1
  · rw [g, if_neg fun e => aZ_B _ _ e.symm]; exact h.bl
  · rw [g, if_neg fun e => aZ_T _ _ _ _ e.symm]; exact h.th k j
/-- A store of a link. -/
theorem chg_lnk {M : PM} {z u : Nat} (hz : z < 16) (hu : u < 18446744073709551616) : Chg M (M.store (aZ z 2) u) (fun y => y = z) ∧ hdW (M.store (aZ z 2) u) = hdW M ∧ (∀ y, hdr (M.store (aZ z 2) u) y = hdr M y) ∧ lnk (M.store (aZ z 2) u) z = slI u := by
  have g := get_store (M := M) (u := u) (mayZ hz (show 2 < 8 by decide))
  have e0 : ∀ y, hdr (M.store (aZ z 2) u) y = hdr M y := fun y => by
    unfold hdr
    rw [g, if_neg fun e => by have := (aZ_inj e).2; omega]
  have ez : lnk (M.store (aZ z 2) u) z = slI u := by
    unfold lnk
    rw [g, if_pos rfl]
  have e2 : ∀ y, y ≠ z → lnk (M.store (aZ z 2) u) y = lnk M y := fun y hy => by
    unfold lnk
    rw [g, if_neg fun e => hy (aZ_inj e).1]
  have eh : hdW (M.store (aZ z 2) u) = hdW M := by
    unfold hdW
    rw [g, if_neg fun e => aZ_F _ _ e.symm]
  refine ⟨⟨fun y _ => e0 y, fun y hy => e2 y hy, fun r h => by unfold dead at h ⊢; rw [e0]; exact h, .inl eh, fun h => ⟨?_, ?_, ?_, fun k j => ?_⟩, lt_store (mayZ hz (by decide)) hu⟩, eh, e0, ez⟩
  · rw [g, if_neg fun e => aZ_S _ _ _ _ e.symm]; exact h.s0
  · rw [g, if_neg fun e => aZ_S _ _ _ _ e.symm]; exact h.s1
  · rw [g, if_neg fun e => aZ_B _ _ e.symm]; exact h.bl
  · rw [g, if_neg fun e => aZ_T _ _ _ _ e.symm]; exact h.th k j
theorem tg_hdN (x : Int) (t : Nat) (hx : slR x) (ht : t < 281474976710656) : tgN (hdN x t) = t := by
  unfold tgN hdN sdN
  rcases hx with rfl | ⟨h1, h2⟩
  · simp
    omega
  · rw [if_pos ⟨h1, h2⟩]
    omega
theorem slI_R (w : Nat) : slR (slI w) := by
  unfold slI slR
  split
  · right
    simp only [Int.ofNat_eq_natCast]
    omega
  · exact .inl rfl
/-- A swap of the head: it held, or nothing is turned. -/
theorem chg_casF {M : PM} {h : Nat} {x : Int} (hx : slR x) (ht : tgN (hdW M) < 281474976710655) : Chg M (M.cas aF h (hdN x (tgN h + 1))) (fun _ => False) ∧ (∀ y, hdr (M.cas aF h (hdN x (tgN h + 1))) y = hdr M y) ∧ (∀ y, lnk (M.cas aF h (hdN x (tgN h + 1))) y = lnk M y) ∧
    (M.casd aF h = true → h = hdW M ∧ hdW (M.cas aF h (hdN x (tgN h + 1))) = hdN x (tgN h + 1)) ∧ (M.casd aF h = false → hdW (M.cas aF h (hdN x (tgN h + 1))) = hdW M) := by
  have g := get_cas (M := M) (a := aF) (w := h) (u := hdN x (tgN h + 1))
  have e0 : ∀ y, hdr (M.cas aF h (hdN x (tgN h + 1))) y = hdr M y := fun y => by
    unfold hdr
    rw [g, if_neg fun e => aZ_F _ _ e.2]
  have e2 : ∀ y, lnk (M.cas aF h (hdN x (tgN h + 1))) y = lnk M y := fun y => by
    unfold lnk
    rw [g, if_neg fun e => aZ_F _ _ e.2]
  have hc : M.casd aF h = true → h = hdW M := fun e => by
    unfold PM.casd at e
    simp only [Bool.and_eq_true, decide_eq_true_eq] at e
    exact e.1.symm
  have ey : M.casd aF h = true → hdW (M.cas aF h (hdN x (tgN h + 1))) = hdN x (tgN h + 1) := fun e => by
    unfold hdW
    rw [g, if_pos ⟨e, rfl⟩]
  have en : M.casd aF h = false → hdW (M.cas aF h (hdN x (tgN h + 1))) = hdW M := fun e => by
    unfold hdW
    rw [g, if_neg fun x => by rw [e] at x; cases x.1]
  refine ⟨⟨fun y _ => e0 y, fun y _ => e2 y, fun r hr => by unfold dead at hr ⊢; rw [e0]; exact hr, ?_, fun hh => ⟨?_, ?_, ?_, fun k j => ?_⟩, lt_cas (hdN_lt _ _)⟩, e0, e2, fun e => ⟨hc e, ey e⟩, en⟩
  · cases e : M.casd aF h with
    | true =>
      right
      rw [ey e, tg_hdN _ _ hx (by rw [hc e]; omega), hc e]
    | false => exact .inl (en e)
  · rw [g, if_neg fun e => by cases e.2]; exact hh.s0
  · rw [g, if_neg fun e => by cases e.2]; exact hh.s1
  · rw [g, if_neg fun e => by cases e.2]; exact hh.bl
  · rw [g, if_neg fun e => by simp [aTh, aF] at e]; exact hh.th k j
/-- A swap of another word. -/
theorem chg_casQ {M : PM} {a : A3} {w u : Nat} (ha : a = aEp ∨ a = aEra ∨ ∃ k, a = aSg k 1) (hu : u < 18446744073709551616) : Chg M (M.cas a w u) (fun _ => False) ∧ hdW (M.cas a w u) = hdW M := by
  have g := get_cas (M := M) (a := a) (w := w) (u := u)
  have nz : ∀ z f, aZ z f ≠ a := fun z f e => by rcases ha with rfl | rfl | ⟨k, rfl⟩ <;> simp [aZ, aEp, aEra, aSg] at e
  have nF : aF ≠ a := fun e => by rcases ha with rfl | rfl | ⟨k, rfl⟩ <;> simp [aF, aEp, aEra, aSg] at e
  have eh : hdW (M.cas a w u) = hdW M := by
    unfold hdW
    rw [g, if_neg fun e => nF e.2]
  refine ⟨⟨fun y _ => ?_, fun y _ => ?_, fun r hr => ?_, .inl eh, fun hh => ⟨?_, ?_, ?_, fun k j => ?_⟩, lt_cas hu⟩, eh⟩
  · unfold hdr
    rw [g, if_neg fun e => nz _ _ e.2]
  · unfold lnk
    rw [g, if_neg fun e => nz _ _ e.2]
  · unfold dead hdr at hr ⊢
    rw [g, if_neg fun e => nz _ _ e.2]
    exact hr
  · rw [g, if_neg fun e => by rcases ha with rfl | rfl | ⟨k, rfl⟩ <;> simp [aEp, aEra, aSg] at e]; exact hh.s0
  · rw [g, if_neg fun e => by rcases ha with rfl | rfl | ⟨k, rfl⟩ <;> simp [aEp, aEra, aSg] at e]; exact hh.s1
  · rw [g, if_neg fun e => by rcases ha with rfl | rfl | ⟨k, rfl⟩ <;> simp [aEp, aEra, aSg, aBl] at e]; exact hh.bl
  · rw [g, if_neg fun e => by rcases ha with rfl | rfl | ⟨k, rfl⟩ <;> simp [aEp, aEra, aSg, aTh] at e]; exact hh.th k j
section
variable {most K : Nat} {M : PM} {FL : List Nat} {th : Nat → Th} {G : List RefP} {k : Nat} {M' : PM} {t' : Th}
/-- What turns no list. -/
theorem Inv.quiet (I : Inv most K M FL th G) (hk : k < 3) {Z : Nat → Prop} (c : Chg M M' Z) (hZ : ∀ z, Z z → z ∈ own (th k)) (hh : hdW M' = hdW M) (hn : (own t').Nodup) (sub : ∀ z ∈ own t', z ∈ own (th k)) (ok' : ThOk most M' t') {out : List RefP} (G' : ∀ r ∈ out, dead M' r) : Inv most (K + 1) M' FL (tunT th k t') (G ++ out) := by
  have nz : ∀ z ∈ FL, ¬ Z z := fun z hz hzz => I.dF k hk z (hZ z hzz) hz
  exact I.step hk c hZ (by rw [hh]; exact I.hd) (I.ch.chg c nz) (fun z hz => (I.fl z hz).chg c (nz z hz)) I.nF hn (fun z hz => I.dF k hk z (sub z hz)) (fun z hz => hz.imp id (sub z)) ok' G'
/-- What turns the thread's line alone. -/
theorem Inv.line (I : Inv most K M FL th G) (hk : k < 3) (c : Chg M M' (fun _ => False)) (hh : hdW M' = hdW M) (o' : Op) (hn : ownO o' = ownO (th k).op ∨ ownO o' = []) (ok' : opOk most M' ⟨(th k).held, (th k).L, o'⟩) : Inv most (K + 1) M' FL (tunT th k ⟨(th k).held, (th k).L, o'⟩) (G ++ []) := by
  have O := I.ok k hk
  have no := I.nO k hk
  refine I.quiet hk c (fun z h => h.elim) hh ?_ (fun z hz => ?_) ⟨fun r hr => ?_, fun e he => ?_, ok'⟩ (fun r hr => by cases hr)
  · unfold own at no ⊢
    rcases hn with e | e
    · simp only [e]
      exact no
    · simp only [e, List.append_nil]
      rw [← List.append_assoc] at no
      exact (List.nodup_append.1 no).1
  · unfold own at hz ⊢
    simp only [List.mem_append] at hz ⊢
    rcases hz with h | h | h
    · exact .inl h
    · exact .inr (.inl h)
    · rcases hn with e | e
      · rw [← e]
        exact .inr (.inr h)
      · rw [e] at h
        cases h
  · obtain ⟨h1, h2⟩ := O.held r hr
    exact ⟨h1, (c.hdr _ (fun h => h)).trans h2⟩
  · obtain ⟨h1, h2⟩ := O.L e he
    exact ⟨h1, (c.hdr _ (fun h => h)).trans h2⟩
end
end Go.Proofs.YtofbdgmknfbkfaaGreatDoor.nodesLife
